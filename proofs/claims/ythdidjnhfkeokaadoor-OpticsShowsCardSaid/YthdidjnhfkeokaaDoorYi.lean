/- The opening of arguments: rules by numbers of eight bits. -/
import Derived.Test.YthdidjnhfkeokaaDoorQo
import Derived.Test.YthdidjnhfkeokaaDoorYr
namespace Go.Proofs.YthdidjnhfkeokaaDoor
open Go.RowKit
section
variable {H : Type} {enc : TypeId × Value → H} {W : World} {r : Reach} {b0 : Nat} {v : Value} {d : DataW H} {ps : List MemPlace}
theorem u8_nat {x : Int} (h : (Lit.int .u8 x).wf = true) : ∃ q : Nat, x = q ∧ q < 256 := by
  have h0 : 0 ≤ x ∧ x < 256 := by simp [Lit.wf, IntKind.min, IntKind.max, IntKind.signed, IntKind.bits] at h; omega
  obtain ⟨q, rfl⟩ := Int.eq_ofNat_of_zero_le h0.1
  exact ⟨q, rfl, by omega⟩
theorem u64_nat' {x : Int} (h : (Lit.int .u64 x).wf = true) : ∃ q : Nat, x = q := by
  have h0 : 0 ≤ x := by simp [Lit.wf, IntKind.min, IntKind.max, IntKind.signed, IntKind.bits] at h; omega
  exact Int.eq_ofNat_of_zero_le h0
set_option maxRecDepth 100000 in
theorem open_spans (hv : Value.okWide Tryd.prog W r b0 36 v) (h : DataW.Trod enc Tryd.prog W 0 (fun _ => true) true 36 v d ps) : ∃ A n c L, v = .slice A n c ∧ Rd eSp W W.heap.size A n c L :=
  open_rows eSp Tryd.underlying36 Tryd.underlying92 (by kernel_rfl) (by kernel_rfl) rfl (fun vs hf => by
    obtain ⟨_, _, h0⟩ := hf 0 _ rfl
    obtain ⟨_, _, h1⟩ := hf 1 _ rfl
    obtain ⟨_, _, h2⟩ := hf 2 _ rfl
    obtain ⟨_, _, h3⟩ := hf 3 _ rfl
    obtain ⟨_, _, h4⟩ := hf 4 _ rfl
    obtain ⟨x0, e0, _, g0⟩ := DataW.trod_int Tryd.underlying5 h0
    obtain ⟨x1, e1, _, g1⟩ := DataW.trod_int Tryd.underlying5 h1
    obtain ⟨x2, e2, _, g2⟩ := DataW.trod_int Tryd.underlying5 h2
    obtain ⟨x3, e3, _, g3⟩ := DataW.trod_int Tryd.underlying5 h3
    obtain ⟨x4, e4, _, g4⟩ := DataW.trod_int Tryd.underlying5 h4
    obtain ⟨x0, rfl, m0⟩ := u8_nat g0
    obtain ⟨x1, rfl, m1⟩ := u8_nat g1
    obtain ⟨x2, rfl, m2⟩ := u8_nat g2
    obtain ⟨x3, rfl, m3⟩ := u8_nat g3
    obtain ⟨x4, rfl, m4⟩ := u8_nat g4
    refine ⟨⟨x0, x1, x2, x3, x4, ⟨m0, m1, m2, m3, m4⟩⟩, fun j u hu => ?_⟩
    match j, hu with
    | 0, hu => simp [eSp] at hu; simpa [hu] using e0
    | 1, hu => simp [eSp] at hu; simpa [hu] using e1
    | 2, hu => simp [eSp] at hu; simpa [hu] using e2
    | 3, hu => simp [eSp] at hu; simpa [hu] using e3
    | 4, hu => simp [eSp] at hu; simpa [hu] using e4
    | j + 5, hu => simp [eSp] at hu) hv h
end
end Go.Proofs.YthdidjnhfkeokaaDoor
