/- The opening of arguments: rules. The walk of the law OpticsCarries. -/
import Derived.Test.YtddajmagdjkodaaDoorQo
import Derived.Test.YtddajmagdjkodaaDoorQl
import Derived.Test.YtddajmagdjkodaaDoorVo
import Derived.Test.YtddajmagdjkodaaDoorVs
import Derived.Test.YtddajmagdjkodaaDoorVt
namespace Go.Proofs.YtddajmagdjkodaaDoor
open Go.RowKit
section
variable {H : Type} {enc : TypeId × Value → H} {W : World} {r : Reach} {b0 : Nat} {v : Value} {d : DataW H} {ps : List MemPlace}
set_option maxRecDepth 100000 in
theorem open_rules (hv : Value.okWide Tryd.prog W r b0 51 v) (h : DataW.Trod enc Tryd.prog W 0 (fun _ => true) true 51 v d ps) : ∃ A n c L, v = .slice A n c ∧ Rd eRu W W.heap.size A n c L :=
  open_rows eRu Tryd.underlying51 Tryd.underlying62 (by kernel_rfl) (by kernel_rfl) rfl (fun vs hf => by
    obtain ⟨_, _, h0⟩ := hf 0 _ rfl
    obtain ⟨_, _, h1⟩ := hf 1 _ rfl
    obtain ⟨_, _, h2⟩ := hf 2 _ rfl
    obtain ⟨_, _, h3⟩ := hf 3 _ rfl
    obtain ⟨_, _, h4⟩ := hf 4 _ rfl
    obtain ⟨x0, e0, _⟩ := DataW.trod_int Tryd.underlying3 h0
    obtain ⟨x1, e1, _⟩ := DataW.trod_int Tryd.underlying3 h1
    obtain ⟨x2, e2, _⟩ := DataW.trod_int Tryd.underlying3 h2
    obtain ⟨x3, e3, _⟩ := DataW.trod_int Tryd.underlying3 h3
    obtain ⟨x4, e4, _⟩ := DataW.trod_int Tryd.underlying3 h4
    refine ⟨⟨x0, x1, x2, x3, x4⟩, fun j u hu => ?_⟩
    match j, hu with
    | 0, hu => simp [eRu] at hu; simpa [hu] using e0
    | 1, hu => simp [eRu] at hu; simpa [hu] using e1
    | 2, hu => simp [eRu] at hu; simpa [hu] using e2
    | 3, hu => simp [eRu] at hu; simpa [hu] using e3
    | 4, hu => simp [eRu] at hu; simpa [hu] using e4
    | j + 5, hu => simp [eRu] at hu) hv h
end

set_option maxRecDepth 100000 in
set_option maxHeartbeats 3200000 in
theorem carries_c (A : Option Addr) (n c : Nat) (L : List Ru) (A' : Option Addr) (n' c' : Nat) (P : List Pu) (sd : Nat) (w : World) (s : Rd eRu w w.heap.size A n c L) (p : Rd ePu w w.heap.size A' n' c' P) (ht : Tab w) :
    Calls Tryd.prog 6 #[.slice A n c, .slice A' n' c', .int .u64 (sd : Int)] w fun e w' => e = .returned (.bool true) ∧ Below w.heap.size w w' := by
  have hee : (carryErr L P == carryErr L P) = true := by simp
  have hm := s.max
  have hcap := s.cap
  have hm' := p.max
  have hcap' := p.cap
  by_cases h1 : 100 < (n : Int)
  · go_enter Tryd.func6, Tryd.ntmps6
    go_wp2_with (go_at_call 18; refine (works_c _ ht).mono ?_; rintro e w' ⟨rfl, hb1⟩)
    go_ret
    exact ⟨rfl, hb1⟩
  by_cases h2 : 600 < (n' : Int)
  · go_enter Tryd.func6, Tryd.ntmps6
    go_wp2_with (go_at_call 18; refine (works_c _ ht).mono ?_; rintro e w' ⟨rfl, hb1⟩)
    go_ret
    exact ⟨rfl, hb1⟩
  go_enter Tryd.func6, Tryd.ntmps6
  go_wp2_with (go_at_call 32; refine (carry_c A n c L A' n' c' P sd w s p).mono ?_; rintro e w1 ⟨A1, n1, c1, B1, m1, d1, rfl, a1, b1, hb1⟩; refine Hid.out ?_)
  have s1 := s.on hb1
  have p1 := p.on hb1
  have ht1 := ht.on hb1
  refine hide ?_
  go_wp2_with (go_at_call 33; refine (rcarry_c A n c L A' n' c' P sd w1 s1 p1).mono ?_; rintro e w2 ⟨A2, n2, c2, B2, m2, d2, rfl, a2, b2, hb2⟩; refine Hid.out ?_)
  have a1' := a1.on hb2
  have b1' := b1.on hb2
  have hb3 := below_on hb1 hb2
  have ht2 := ht1.on hb2
  refine hide ?_
  go_wp2_with (go_at_call 34; refine (sameLight_c A1 A2 n1 c1 n2 c2 _ w2 a1' a2).mono ?_; rintro e w3 ⟨rfl, hb4⟩; refine Hid.out ?_)
  have b1'' := b1'.on hb4
  have b2' := b2.on hb4
  have hb5 := below_on hb3 hb4
  have ht3 := ht2.on hb4
  refine hide ?_
  go_wp2_with (go_at_call 35; refine (sameNotes_c B1 B2 m1 d1 m2 d2 _ w3 b1'' b2').mono ?_; rintro e w4 ⟨rfl, hb6⟩; refine Hid.out ?_)
  refine hide ?_
  go_wp2_with (go_at_call 18; refine (works_c _ (ht3.on hb6)).mono ?_; rintro e w' ⟨rfl, hb7⟩)
  go_ret
  exact ⟨rfl, below_on (below_on hb5 hb6) hb7⟩
theorem carries_w (A : Option Addr) (n c : Nat) (L : List Ru) (A' : Option Addr) (n' c' : Nat) (P : List Pu) (sd : Int) (wsd : (Lit.int .u64 sd).wf = true) (w : World) (s : Rd eRu w w.heap.size A n c L) (p : Rd ePu w w.heap.size A' n' c' P) (ht : Tab w) :
    Calls Tryd.prog 6 #[.slice A n c, .slice A' n' c', .int .u64 sd] w fun e w' => e = .returned (.bool true) ∧ Below w.heap.size w w' := by
  have h0 : 0 ≤ sd := by simp [Lit.wf, IntKind.min, IntKind.max, IntKind.signed, IntKind.bits] at wsd; omega
  obtain ⟨q, rfl⟩ := Int.eq_ofNat_of_zero_le h0
  exact carries_c A n c L A' n' c' P q w s p ht
end Go.Proofs.YtddajmagdjkodaaDoor
