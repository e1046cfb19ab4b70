/- The opening of arguments: lights. -/
import Derived.Test.YtddajmagdjkodaaDoorQo
namespace Go.Proofs.YtddajmagdjkodaaDoor
open Go.RowKit
section
variable {H : Type} {enc : TypeId × Value → H} {W : World} {r : Reach} {b0 : Nat} {v : Value} {d : DataW H} {ps : List MemPlace}
set_option maxRecDepth 100000 in
theorem open_lights (hv : Value.okWide Tryd.prog W r b0 41 v) (h : DataW.Trod enc Tryd.prog W 0 (fun _ => true) true 41 v d ps) : ∃ A n c L, v = .slice A n c ∧ Rd eLi W W.heap.size A n c L :=
  open_rows eLi Tryd.underlying41 Tryd.underlying65 (by kernel_rfl) (by kernel_rfl) rfl (fun vs hf => by
    obtain ⟨_, _, h0⟩ := hf 0 _ rfl
    obtain ⟨_, _, h1⟩ := hf 1 _ rfl
    obtain ⟨_, _, h2⟩ := hf 2 _ rfl
    obtain ⟨_, _, h3⟩ := hf 3 _ rfl
    obtain ⟨x0, e0, _⟩ := DataW.trod_int Tryd.underlying3 h0
    obtain ⟨x1, e1, _⟩ := DataW.trod_int Tryd.underlying3 h1
    obtain ⟨x2, e2, _⟩ := DataW.trod_bool Tryd.underlying4 h2
    obtain ⟨x3, e3, _⟩ := DataW.trod_bool Tryd.underlying4 h3
    refine ⟨⟨x0, x1, x2, x3⟩, fun j u hu => ?_⟩
    match j, hu with
    | 0, hu => simp [eLi] at hu; simpa [hu] using e0
    | 1, hu => simp [eLi] at hu; simpa [hu] using e1
    | 2, hu => simp [eLi] at hu; simpa [hu] using e2
    | 3, hu => simp [eLi] at hu; simpa [hu] using e3
    | j + 4, hu => simp [eLi] at hu) hv h
end
end Go.Proofs.YtddajmagdjkodaaDoor
