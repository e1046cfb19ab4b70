/- The opening of arguments: an arrangement, rules; the machine's door. -/
import Derived.Test.YthdidjnhfkeokaaDoorQo
namespace Go.Proofs.YthdidjnhfkeokaaDoor
open Go.RowKit Go.WideShapes Go.ChangeShapes
section
variable {H : Type} {enc : TypeId × Value → H} {W : World} {r : Reach} {b0 : Nat} {v : Value} {d : DataW H} {ps : List MemPlace}
def IsI (l : List Value) (i : Nat) : Prop := ∃ z, l[i]? = some (.int .i64 z)
theorem isI_sub {l : List Value} {a n i : Nat} (h : IsI ((l.drop a).take n) i) : IsI l (a + i) := by
  obtain ⟨z, hz⟩ := h
  refine ⟨z, ?_⟩
  rw [List.getElem?_take] at hz
  split at hz
  · rwa [List.getElem?_drop] at hz
  · cases hz
set_option maxRecDepth 100000 in
theorem isI_int {fuel : Nat} {l : List Value} {x : DataW H × List MemPlace} (h : DataW.trod enc Tryd.prog W 0 (fun _ => true) true fuel 3 l = some x) : IsI l 0 := by
  obtain ⟨z, rfl, _⟩ := DataW.trod_int Tryd.underlying3 h
  exact ⟨z, rfl⟩
set_option maxRecDepth 100000 in
theorem isI_arr {fuel n i : Nat} {t : TypeId} {l : List Value} {x : DataW H × List MemPlace} (ht : Tryd.prog.underlying t = some (.array n 3)) (h : DataW.trod enc Tryd.prog W 0 (fun _ => true) true fuel t l = some x) (hi : i < n) : IsI l i := by
  obtain ⟨xs, m, _, _, _, hl, hx⟩ := DataW.trod_array ht h
  have := hx i hi
  rw [List.getElem?_eq_getElem (by omega)] at this
  have h1 := isI_sub (isI_int this)
  have hc : Tryd.prog.cellsOf 3 = 1 := by kernel_rfl
  rw [hc] at h1
  simpa using h1
set_option maxRecDepth 100000 in
theorem isI_rows {fuel i j : Nat} {l : List Value} {x : DataW H × List MemPlace} (h : DataW.trod enc Tryd.prog W 0 (fun _ => true) true fuel 24 l = some x) (hi : i < 3) (hj : j < 4) : IsI l (i * 4 + j) := by
  obtain ⟨xs, m, _, _, _, hl, hx⟩ := DataW.trod_array Tryd.underlying24 h
  have := hx i hi
  rw [List.getElem?_eq_getElem (by omega)] at this
  have h1 := isI_sub (isI_arr Tryd.underlying23 this hj)
  have hc : Tryd.prog.cellsOf 23 = 4 := by kernel_rfl
  rw [hc] at h1
  exact h1
set_option maxRecDepth 100000 in
theorem open_optics (hv : Value.okWide Tryd.prog W r b0 26 v) (h : DataW.Trod enc Tryd.prog W 0 (fun _ => true) true 26 v d ps) : ∃ f, v = .agg (cells18 f) ∧ True := by
  obtain ⟨cs, rfl, hsz⟩ := okWide_struct Tryd.underlying26 hv
  obtain ⟨fuel, hf⟩ := h
  obtain ⟨xs, m, _, _, _, hl, hx⟩ := DataW.trod_struct Tryd.underlying26 hf
  have hc18 : Tryd.prog.cellsOf 26 = 18 := by kernel_rfl
  rw [hc18] at hsz
  have hl5 : xs.length = 5 := hl
  have hcells : (Value.agg cs).cells = cs := rfl
  rw [hcells] at hx
  have g : ∀ j, j < 18 → IsI cs.toList j := by
    have h0 := hx 0 _ rfl
    have h1 := hx 1 _ rfl
    have h2 := hx 2 _ rfl
    have h3 := hx 3 _ rfl
    have h4 := hx 4 _ rfl
    rw [List.getElem?_eq_getElem (by omega)] at h0 h1 h2 h3 h4
    intro j hj
    by_cases j0 : j = 0
    · subst j0; exact isI_sub (isI_int h0)
    by_cases j1 : j < 4
    · have := isI_sub (isI_arr Tryd.underlying22 h1 (show j - 1 < 3 by omega))
      simpa [show 1 + (j - 1) = j by omega] using this
    by_cases j2 : j < 16
    · have := isI_sub (isI_rows h2 (show (j - 4) / 4 < 3 by omega) (show (j - 4) % 4 < 4 by omega))
      simpa [show 4 + ((j - 4) / 4 * 4 + (j - 4) % 4) = j by omega] using this
    by_cases j3 : j = 16
    · subst j3; exact isI_sub (isI_int h3)
    obtain rfl : j = 17 := by omega
    exact isI_sub (isI_int h4)
  refine ⟨fun j => match cs.toList[j]? with | some (.int .i64 z) => z | _ => 0, ?_, trivial⟩
  refine congrArg Value.agg (Array.toList_inj.1 (List.ext_getElem? fun j => ?_))
  by_cases hj : j < 18
  · obtain ⟨z, hz⟩ := g j hj
    have := cells18_get (fun j => match cs.toList[j]? with | some (.int .i64 z) => z | _ => 0) hj
    rw [hz, Array.getElem?_toList, this]
    simp only [hz]
  · rw [List.getElem?_eq_none (by simp; omega), List.getElem?_eq_none (by simp [cells18]; omega)]
end
end Go.Proofs.YthdidjnhfkeokaaDoor
namespace Go.Proofs.YthdidjnhfkeokaaDoor
open Go.RowKit
section
variable {H : Type} {enc : TypeId × Value → H} {W : World} {r : Reach} {b0 : Nat} {v : Value} {d : DataW H} {ps : List MemPlace}
set_option maxRecDepth 100000 in
theorem open_rules (hv : Value.okWide Tryd.prog W r b0 45 v) (h : DataW.Trod enc Tryd.prog W 0 (fun _ => true) true 45 v d ps) : ∃ A n c L, v = .slice A n c ∧ Rd eRu W W.heap.size A n c L :=
  open_rows eRu Tryd.underlying45 Tryd.underlying62 (by kernel_rfl) (by kernel_rfl) rfl (fun vs hf => by
    obtain ⟨_, _, h0⟩ := hf 0 _ rfl
    obtain ⟨_, _, h1⟩ := hf 1 _ rfl
    obtain ⟨_, _, h2⟩ := hf 2 _ rfl
    obtain ⟨_, _, h3⟩ := hf 3 _ rfl
    obtain ⟨_, _, h4⟩ := hf 4 _ rfl
    obtain ⟨x0, e0, _⟩ := DataW.trod_int Tryd.underlying3 h0
    obtain ⟨x1, e1, _⟩ := DataW.trod_int Tryd.underlying3 h1
    obtain ⟨x2, e2, _⟩ := DataW.trod_int Tryd.underlying3 h2
    obtain ⟨x3, e3, _⟩ := DataW.trod_int Tryd.underlying3 h3
    obtain ⟨x4, e4, _⟩ := DataW.trod_int Tryd.underlying3 h4
    refine ⟨⟨x0, x1, x2, x3, x4⟩, fun j u hu => ?_⟩
    match j, hu with
    | 0, hu => simp [eRu] at hu; simpa [hu] using e0
    | 1, hu => simp [eRu] at hu; simpa [hu] using e1
    | 2, hu => simp [eRu] at hu; simpa [hu] using e2
    | 3, hu => simp [eRu] at hu; simpa [hu] using e3
    | 4, hu => simp [eRu] at hu; simpa [hu] using e4
    | j + 5, hu => simp [eRu] at hu) hv h
end
end Go.Proofs.YthdidjnhfkeokaaDoor
namespace Go.Proofs.YthdidjnhfkeokaaDoor
open Go.ChangeShapes Go.WideShapes Go.ChangeAt Go.RowKit

theorem own : ownKnob Tryd.prog.godebug = none := by kernel_rfl
theorem laidOut : laidOutB Tryd.prog = true := by kernel_rfl
end Go.Proofs.YthdidjnhfkeokaaDoor
