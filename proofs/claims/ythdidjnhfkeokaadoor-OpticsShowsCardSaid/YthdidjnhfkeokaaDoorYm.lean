/- The walk of the law OpticsShows. -/
import Derived.Test.YthdidjnhfkeokaaDoorYq
import Derived.Test.YthdidjnhfkeokaaDoorZj
import Derived.Test.YthdidjnhfkeokaaDoorYf
import Derived.Test.YthdidjnhfkeokaaDoorYi
import Derived.Test.YthdidjnhfkeokaaDoorYv
import Derived.Test.YthdidjnhfkeokaaDoorQt
import Derived.Test.YthdidjnhfkeokaaDoorQl
import Derived.BigQuiet
import Derived.Deep.RegionHeld3
import Derived.Deep.DeepCutAuto
namespace Go.Proofs.YthdidjnhfkeokaaDoor
open Go.RowKit

def kShows : List Int := [4, 1, 5]
theorem kShows_ok : OkK kShows := ⟨by decide, by decide, by decide⟩
theorem kShows_mem {S : List Sp} : ∀ r ∈ genL kShows S, r.k = 1 ∨ r.k = 4 ∨ r.k = 5 := fun r hr => by
  have := (genL_mem kShows_ok hr).2.2
  simp [kShows] at this; omega
/-- What the law's own list marks: slots with a note of another basis. -/
def otherStep (P : List Pu) (K : List Bool) (y : No) : List Bool := match P[y.slot.toNat]? with
  | some p => if y.b = p.b then K else K.set y.slot.toNat true
  | none => K
def others (P : List Pu) (N : List No) : List Bool := N.foldl (otherStep P) (List.replicate P.length false)
theorem others_yes {P : List Pu} {N : List No} {k : Nat} {y : No} {p : Pu} {q : Nat} (hy : N[k]? = some y) (hq : y.slot = q) (hp : P[q]? = some p) (h : ¬ y.b = p.b) : others P (N.take (k + 1)) = (others P (N.take k)).set q true := by
  unfold others; rw [List.take_add_one, hy, List.foldl_append]
  simp only [Option.toList_some, List.foldl_cons, List.foldl_nil]
  rw [otherStep, hq]; simp only [Int.toNat_natCast, hp]; rw [if_neg h]
theorem others_no {P : List Pu} {N : List No} {k : Nat} {y : No} {p : Pu} {q : Nat} (hy : N[k]? = some y) (hq : y.slot = q) (hp : P[q]? = some p) (h : y.b = p.b) : others P (N.take (k + 1)) = others P (N.take k) := by
  unfold others; rw [List.take_add_one, hy, List.foldl_append]
  simp only [Option.toList_some, List.foldl_cons, List.foldl_nil]
  rw [otherStep, hq]; simp only [Int.toNat_natCast, hp]; rw [if_pos h]
theorem others_get {P : List Pu} {i : Nat} {p : Pu} (hp : P[i]? = some p) (N : List No) (hN : ∀ y ∈ N, 0 ≤ y.slot) : (others P N)[i]? = some (N.any fun y => decide (y.slot = i ∧ y.b ≠ p.b)) := by
  have hi : i < P.length := (List.getElem?_eq_some_iff.1 hp).1
  have key : ∀ (N : List No) (K : List Bool), K.length = P.length → (∀ y ∈ N, 0 ≤ y.slot) → (N.foldl (otherStep P) K)[i]? = some (K.getD i false || N.any fun y => decide (y.slot = i ∧ y.b ≠ p.b)) := by
    intro N
    induction N with
    | nil =>
      intro K hK _
      simp only [List.foldl_nil, List.any_nil, Bool.or_false]
      rw [List.getD_eq_getElem?_getD, List.getElem?_eq_getElem (by omega)]; rfl
    | cons y N ih =>
      intro K hK hN
      have h0 := hN y (by simp)
      have hl : (otherStep P K y).length = P.length := by
        unfold otherStep; split
        · split
          · exact hK
          · rw [List.length_set]; exact hK
        · exact hK
      rw [List.foldl_cons, ih _ hl (fun z hz => hN z (by simp [hz])), List.any_cons, ← Bool.or_assoc]
      congr 2
      rw [List.getD_eq_getElem?_getD, List.getD_eq_getElem?_getD]
      unfold otherStep
      by_cases he : y.slot.toNat = i
      · rw [he, hp]
        have hs : y.slot = (i : Int) := by omega
        by_cases hb : y.b = p.b
        · simp [hb]
        · simp only [hb, if_false]
          rw [List.getElem?_set, if_pos rfl, if_pos (by omega)]; simp [hs, hb]
      · have hs : ¬ y.slot = (i : Int) := by omega
        have : (match P[y.slot.toNat]? with | some p => if y.b = p.b then K else K.set y.slot.toNat true | none => K)[i]? = K[i]? := by
          split
          · split
            · rfl
            · rw [List.getElem?_set, if_neg he]
          · rfl
        rw [this]; simp [hs]
  have := key N (List.replicate P.length false) (by simp) hN
  unfold others; rw [this]; simp [hi]
section
variable {L : List Ru} {P : List Pu} {s m : Nat}
theorem note_slot (hP : P.length = m) {k : Nat} {y : No} (hy : (carrF L P s m).2.1[k]? = some y) : ∃ q : Nat, y.slot = q ∧ q < m := by
  obtain ⟨i, p, hi, _, h⟩ := (carrF_mem m (by omega)).1 (List.mem_of_getElem? hy)
  exact ⟨i, chan_slot L _ _ h, hi⟩
theorem note_fine (hL : ∀ r ∈ L, r.k = 1 ∨ r.k = 4 ∨ r.k = 5) (hP : P.length = m) {k q : Nat} {y : No} {p : Pu} (hy : (carrF L P s m).2.1[k]? = some y) (hq : y.slot = q) (hp : P[q]? = some p) (ho : (others P ((carrF L P s m).2.1.take k))[q]? = some false) (hb : y.b = p.b) : y.bit = p.bit := by
  have hN : ∀ z ∈ (carrF L P s m).2.1.take k, 0 ≤ z.slot := fun z hz => by
    obtain ⟨j, hj⟩ := List.getElem?_of_mem (List.mem_of_mem_take hz)
    obtain ⟨q, h1, _⟩ := note_slot hP hj
    omega
  rw [others_get hp _ hN] at ho
  have ho' := Option.some.inj ho
  have hk : k < (carrF L P s m).2.1.length := (List.getElem?_eq_some_iff.1 hy).1
  have e : (carrF L P s m).2.1 = (carrF L P s m).2.1.take k ++ y :: (carrF L P s m).2.1.drop (k + 1) := by
    rw [← (List.getElem?_eq_some_iff.1 hy).2, List.getElem_cons_drop, List.take_append_drop]
  refine carrF_shows hL m (by omega) _ y _ p e (by rw [hq, Int.toNat_natCast]; exact hp) (fun z hz hs => ?_) hb
  have h1 := List.any_eq_false.1 ho' z hz
  by_cases h2 : z.b = p.b
  · exact h2
  · exact absurd (by simp only [decide_eq_true_eq]; exact ⟨by omega, h2⟩) h1
theorem wrong_other (hL : ∀ r ∈ L, r.k = 1 ∨ r.k = 4 ∨ r.k = 5) (hP : P.length = m) {i t : Nat} {eta : Int} (hw : i ∈ slotsOf (dif (dets eta 0 0 (carrF L P s m).1 t m).1 0) P m) : i < m ∧ (others P (carrF L P s m).2.1)[i]? = some true := by
  obtain ⟨hi, p, hp, _⟩ := mem_slotsOf.1 hw
  obtain ⟨y, hy, hs, hb⟩ := wrong_shows hL hP hw
  refine ⟨hi, ?_⟩
  rw [others_get hp _ (fun z hz => by
    obtain ⟨j, hj⟩ := List.getElem?_of_mem hz
    obtain ⟨q, h1, _⟩ := note_slot hP hj
    omega)]
  congr 1
  rw [List.any_eq_true]
  exact ⟨y, hy, by simp only [decide_eq_true_eq]; exact ⟨hs, hb p hp⟩⟩
end
/-- A flight stored cell by cell into a block of its own. -/
theorem fl_four {w : World} {g : Nat} {a0 a1 a2 a3 : Value} (b : Blk w g 42 #[a0, a1, a2, a3]) (v0 v1 v2 v3 : Value) : w.grownBy ((((w.setCell ⟨g, 0, none⟩ v0).setCell ⟨g, 1, none⟩ v1).setCell ⟨g, 2, none⟩ v2).setCell ⟨g, 3, none⟩ v3) (some g) ∧ Blk ((((w.setCell ⟨g, 0, none⟩ v0).setCell ⟨g, 1, none⟩ v1).setCell ⟨g, 2, none⟩ v2).setCell ⟨g, 3, none⟩ v3) g 42 #[v0, v1, v2, v3] := by
  refine ⟨(((grownBy_setCell w g 0 v0).trans (grownBy_setCell _ g 1 v1)).trans (grownBy_setCell _ g 2 v2)).trans (grownBy_setCell _ g 3 v3), ?_⟩
  have q := (((b.set_ 0 v0).set_ 1 v1).set_ 2 v2).set_ 3 v3
  simpa using q

theorem conv_u8 (m : Nat) (hm : m < 256) (W : World) : (convert 5 3 (.int .u8 (m : Int))).run Tryd.prog W = .ok (.int .i64 (m : Int)) W := by
  have hw : IntKind.i64.wrap (m : Int) = (m : Int) := by simp only [IntKind.wrap, IntKind.bits, IntKind.signed]; simp; omega
  have h : (convert 5 3 (.int .u8 (m : Int))).run Tryd.prog W = .ok (.int .i64 (IntKind.i64.wrap (m : Int))) W := by kernel_rfl
  rw [h, hw]
set_option linter.unusedSimpArgs false in
set_option maxRecDepth 100000 in
set_option maxHeartbeats 6400000 in
theorem shows_c (f : Nat → Int) (A : Option Addr) (k0 c0 : Nat) (S : List Sp) (m : Nat) (hm : m < 256) (a b c : Nat) (w : World) (s : Rd eSp w w.heap.size A k0 c0 S) (ht : Tab w) :
    Calls Tryd.prog 5 #[.agg (cells18 f), .slice A k0 c0, .int .u8 (m : Int), .int .u64 (a : Int), .int .u64 (b : Int), .int .u64 (c : Int)] w fun e w' => e = .returned (.bool true) ∧ Below w.heap.size w w' := by
  have hO := Blk.newAt w 26 (cells18 (undark f)) w.heap.size rfl
  have hb := below_alloc w (.cells (cells18 (undark f)) 26)
  have ht1 := ht.on hb
  have s1 := s.on hb
  go_enter Tryd.func5, Tryd.ntmps5
  go_upto_region 2 with fail
  obtain ⟨W, hW⟩ : ∃ W, W = w.alloc (.cells (cells18 (undark f)) 26) := ⟨_, rfl⟩
  rw [undark_set]
  rw [← hW] at hO hb ht1 s1 ⊢
  clear hW
  obtain ⟨gO, hgO⟩ : ∃ q, q = w.heap.size := ⟨_, rfl⟩
  rw [← hgO] at hO ⊢
  have HGO := hide hgO
  clear hgO ht s
  by_cases h0 : checkErr (undark f) = 0
  case neg =>
    have h2 := check_two h0
    have hne2 : ((2 : Int) != 0) = true := rfl
    have HC1 := hide (fun W => (by have q := check_c ((undark f)) W; rw [h2] at q; exact q : Calls Tryd.prog 10 #[.agg (cells18 ((undark f)))] W fun e w' => e = .returned (.int .i64 2) ∧ Below W.heap.size W w'))
    have HC2 := hide (fun W => (by have q := rcheck_c ((undark f)) W; rw [h2] at q; exact q : Calls Tryd.prog 11 #[.agg (cells18 ((undark f)))] W fun e w' => e = .returned (.int .i64 2) ∧ Below W.heap.size W w'))
    clear h0 h2
    go_wp2_with (first | (refine wl_load (o := ⟨some 24, _, _, _, _, _⟩) rfl 26 _ rfl gO rfl 26 (cells18 (undark f)) _ hO Tryd.underlying26 rfl (by kernel_rfl) ?_) | (go_at_call 10; refine (HC1.out _).mono ?_; rintro e w1 ⟨rfl, hb1⟩; have hO1 := hO.keep hb1; have ht2 := ht1.on hb1) | (refine wl_load (o := ⟨some 27, _, _, _, _, _⟩) rfl 26 _ rfl gO rfl 26 (cells18 (undark f)) _ hO1 Tryd.underlying26 rfl (by kernel_rfl) ?_) | (go_at_call 11; refine (HC2.out _).mono ?_; rintro e w2 ⟨rfl, hb2⟩; have ht3 := ht2.on hb2) | (go_at_call 12; refine (works_c _ ht3).mono ?_; rintro e w' ⟨rfl, hbz⟩))
    go_ret
    exact ⟨rfl, below_on (below_on (below_on hb hb1) hb2) hbz⟩
  have HC1 := hide (fun W => (by have q := check_c ((undark f)) W; rw [h0] at q; exact q : Calls Tryd.prog 10 #[.agg (cells18 ((undark f)))] W fun e w' => e = .returned (.int .i64 0) ∧ Below W.heap.size W w'))
  have HF := hide h0
  clear h0
  go_upto_region 4 with (first | (refine wl_load (o := ⟨some 24, _, _, _, _, _⟩) rfl 26 _ rfl gO rfl 26 (cells18 (undark f)) _ hO Tryd.underlying26 rfl (by kernel_rfl) ?_) | (go_at_call 10; refine (HC1.out _).mono ?_; rintro e w1 ⟨rfl, hb1⟩))
  have hO1 := hO.keep hb1
  have ht2 := ht1.on hb1
  have s2 := s1.on hb1
  have hb2 := below_on hb hb1
  clear hO ht1 s1 hb1 HC1
  have HFT := hide (show ∀ (A0 : Option Addr) (n0 c4 : Nat) (W : World), Rd eRu W W.heap.size A0 n0 c4 (genL kShows S) → Calls Tryd.prog 15 #[.agg (cells18 (undark f)), .slice A0 n0 c4, .int .i64 (m : Int), .agg #[.int .u64 (a : Int), .int .u64 (b : Int), .int .u64 (c : Int)]] W (SFl (undark f) (genL kShows S) m a b c W) from fun A0 n0 c4 W r3 => flight_c (undark f) A0 n0 c4 _ m a b c W r3 HF.out (genL_ok kShows_ok S).1 (genL_ok kShows_ok S).2 (by omega))
  have HCV := hide (show ∀ W, (convert 5 3 (.int .u8 (m : Int))).run Tryd.prog W = .ok (.int .i64 (m : Int)) W from conv_u8 m hm)
  have HBL := hide (show ∀ W, (Instr.build 48 #[(0, .int .u64 (a : Int)), (1, .int .u64 (b : Int)), (2, .int .u64 (c : Int))]).run Tryd.prog W = .ok (.agg #[.int .u64 (a : Int), .int .u64 (b : Int), .int .u64 (c : Int)]) W from fun W => by kernel_rfl)
  have HRU := hide (fun gL W (s9 : Rd eSp W W.heap.size A k0 c0 S) (q9 : Rd eInt W W.heap.size (some ⟨gL, 0, none⟩) 3 3 kShows) => rules_c kShows kShows_ok S A k0 c0 (some ⟨gL, 0, none⟩) 3 3 W s9 q9)
  go_cut [13, 14] (fun fv gv wx => ∃ (gF : Nat) (A1 : Option Addr) (c1 : Nat) (A2 : Option Addr) (c2 : Nat) (A3 : Option Addr) (n3 c3 : Nat), fv = .pointer (some ⟨gF, 0, none⟩) ∧ gv = .bool true ∧ Blk wx gF 42 #[.slice A1 m c1, .slice A2 m c2, .slice A3 n3 c3, .int .i64 0] ∧ Rd ePu wx wx.heap.size A1 m c1 (emiF (undark f) a m).1 ∧ Rd eCk wx wx.heap.size A2 m c2 (dets (undark f 16) (undark f 17) 0 (carrF (genL kShows S) (emiF (undark f) a m).1 b m).1 c m).1 ∧ Rd eNo wx wx.heap.size A3 n3 c3 (carrF (genL kShows S) (emiF (undark f) a m).1 b m).2.1 ∧ Below w1.heap.size w1 wx)
  case first =>
    refine wp_region_noPanic ?_
    refine wp_region_held_drew (S := fun W => Blk W gO 26 (cells18 (undark f))) (by kernel_rfl) hO1.drew (fun hHeld => ?_)
    have bV0 := (Below.refl w1.heap.size w1).drew
    obtain ⟨V0, hV0⟩ : ∃ q, q = w1.drew := ⟨_, rfl⟩
    rw [← hV0] at bV0 hHeld ⊢
    clear hV0
    refine wpAnyH_take (i := 0) (v := _) rfl (by kernel_rfl) (by kernel_rfl) (by kernel_rfl) (fun _ _ _ h => h) (yieldsIf_load_blk (by rfl) 26 _ rfl gO rfl 26 (cells18 (undark f)) _ (fun _ h => h) Tryd.underlying26 rfl (by kernel_rfl)) hHeld ?_
    try simp only [Act.put, List.getElem_toArray, List.getElem_cons_succ, List.getElem_cons_zero, List.setIfInBounds_toArray, List.set_cons_zero, List.set_cons_succ]
    refine wpAnyH_take (i := 1) (v := .slice A k0 c0) rfl (by kernel_rfl) (by kernel_rfl) (by kernel_rfl) (fun _ _ _ h => h) (yieldsIf_move (by rfl) _ (Or.inl rfl) _ rfl) hHeld ?_
    try simp only [Act.put, List.getElem_toArray, List.getElem_cons_succ, List.getElem_cons_zero, List.setIfInBounds_toArray, List.set_cons_zero, List.set_cons_succ]
    refine wpAnyH_take (i := 4) (v := .int .u8 (m : Int)) rfl (by kernel_rfl) (by kernel_rfl) (by kernel_rfl) (fun _ _ _ h => h) (yieldsIf_move (by rfl) _ (Or.inl rfl) _ rfl) hHeld ?_
    try simp only [Act.put, List.getElem_toArray, List.getElem_cons_succ, List.getElem_cons_zero, List.setIfInBounds_toArray, List.set_cons_zero, List.set_cons_succ]
    refine wpAnyH_take (i := 5) (v := .int .i64 (m : Int)) rfl (by kernel_rfl) (by kernel_rfl) (by kernel_rfl) (fun _ _ _ h => h) (yieldsIf_convert (by rfl) _ _ _ rfl _ _ rfl HCV.out) hHeld ?_
    try simp only [Act.put, List.getElem_toArray, List.getElem_cons_succ, List.getElem_cons_zero, List.setIfInBounds_toArray, List.set_cons_zero, List.set_cons_succ]
    refine wpAnyH_take (i := 6) (v := .int .u64 (a : Int)) rfl (by kernel_rfl) (by kernel_rfl) (by kernel_rfl) (fun _ _ _ h => h) (yieldsIf_move (by rfl) _ (Or.inl rfl) _ rfl) hHeld ?_
    try simp only [Act.put, List.getElem_toArray, List.getElem_cons_succ, List.getElem_cons_zero, List.setIfInBounds_toArray, List.set_cons_zero, List.set_cons_succ]
    refine wpAnyH_take (i := 7) (v := .int .u64 (b : Int)) rfl (by kernel_rfl) (by kernel_rfl) (by kernel_rfl) (fun _ _ _ h => h) (yieldsIf_move (by rfl) _ (Or.inl rfl) _ rfl) hHeld ?_
    try simp only [Act.put, List.getElem_toArray, List.getElem_cons_succ, List.getElem_cons_zero, List.setIfInBounds_toArray, List.set_cons_zero, List.set_cons_succ]
    refine wpAnyH_take (i := 8) (v := .int .u64 (c : Int)) rfl (by kernel_rfl) (by kernel_rfl) (by kernel_rfl) (fun _ _ _ h => h) (yieldsIf_move (by rfl) _ (Or.inl rfl) _ rfl) hHeld ?_
    try simp only [Act.put, List.getElem_toArray, List.getElem_cons_succ, List.getElem_cons_zero, List.setIfInBounds_toArray, List.set_cons_zero, List.set_cons_succ]
    refine wpAnyH_take (i := 9) (v := .agg #[.int .u64 (a : Int), .int .u64 (b : Int), .int .u64 (c : Int)]) rfl (by kernel_rfl) (by kernel_rfl) (by kernel_rfl) (fun _ _ _ h => h) (yieldsIf_build (by rfl) _ _ rfl #[(0, .int .u64 (a : Int)), (1, .int .u64 (b : Int)), (2, .int .u64 (c : Int))] (by kernel_rfl) _ HBL.out) hHeld ?_
    try simp only [Act.put, List.getElem_toArray, List.getElem_cons_succ, List.getElem_cons_zero, List.setIfInBounds_toArray, List.set_cons_zero, List.set_cons_succ]
    refine wpAnyH_ready (rs := [2, 14]) (by kernel_rfl) (by simp) ?_
    refine AllReadyH.cons (i := 2) rfl (fun K hK => ?_) ?_
    · go_simp
      refine hK.out _ _ (Blk.alloc hHeld _) (fun hHeld => ?_)
      clear hK K
      try simp only [Act.put, List.getElem_toArray, List.getElem_cons_succ, List.getElem_cons_zero, List.setIfInBounds_toArray, List.set_cons_zero, List.set_cons_succ]
      have q9 := Rd.many (e := eInt) V0 3 kShows #[.int .i64 4, .int .i64 1, .int .i64 5] rfl 3 rfl (by omega) V0.heap.size rfl
      have bV1 := below_on bV0 (below_alloc V0 (.cells #[.int .i64 4, .int .i64 1, .int .i64 5] 3))
      obtain ⟨V1, hV1⟩ : ∃ q, q = V0.alloc (.cells #[.int .i64 4, .int .i64 1, .int .i64 5] 3) := ⟨_, rfl⟩
      rw [← hV1] at q9 bV1 hHeld ⊢
      obtain ⟨gL, hgL⟩ : ∃ q, q = V0.heap.size := ⟨_, rfl⟩
      rw [← hgL] at q9 ⊢
      clear hgL hV1
      refine wpAnyH_ready (rs := [3, 14]) (by kernel_rfl) (by simp) ?_
      refine AllReadyH.cons (i := 3) rfl (fun K hK => ?_) ?_
      · go_simp
        refine (HRU.out gL V1 (s2.on bV1) q9).mono ?_
        rintro e V2 ⟨A0, n0, c4, rfl, r3, hb9⟩
        refine hK.out _ _ (Blk.keep hHeld hb9) (fun hHeld => ?_)
        clear hK K q9
        try simp only [Act.put, List.getElem_toArray, List.getElem_cons_succ, List.getElem_cons_zero, List.setIfInBounds_toArray, List.set_cons_zero, List.set_cons_succ]
        have bV2 := below_on bV1 hb9
        clear hb9
        refine wpAnyH_ready (rs := [10, 14]) (by kernel_rfl) (by simp) ?_
        refine AllReadyH.cons (i := 10) rfl (fun K hK => ?_) ?_
        · go_simp
          refine (HFT.out A0 n0 c4 V2 r3).mono ?_
          rintro e V3 ⟨A1, c1, A2, c2, A3, n3, c3, rfl, p4, k4, o4, hb9⟩
          refine hK.out _ _ (Blk.keep hHeld hb9) (fun hHeld => ?_)
          clear hK K r3
          try simp only [Act.put, List.getElem_toArray, List.getElem_cons_succ, List.getElem_cons_zero, List.setIfInBounds_toArray, List.set_cons_zero, List.set_cons_succ]
          have bV3 := below_on bV2 hb9
          clear hb9
          refine wpAnyH_take (i := 11) (v := .tuple #[.agg #[.slice A1 m c1, .slice A2 m c2, .slice A3 n3 c3, .int .i64 0], .bool true]) rfl (by kernel_rfl) (by kernel_rfl) (by kernel_rfl) (fun _ _ _ h => h) (yieldsIf_move (by rfl) _ (Or.inl rfl) _ rfl) hHeld ?_
          try simp only [Act.put, List.getElem_toArray, List.getElem_cons_succ, List.getElem_cons_zero, List.setIfInBounds_toArray, List.set_cons_zero, List.set_cons_succ]
          refine wpAnyH_take (i := 12) (v := .agg #[.slice A1 m c1, .slice A2 m c2, .slice A3 n3 c3, .int .i64 0]) rfl (by kernel_rfl) (by kernel_rfl) (by kernel_rfl) (fun _ _ _ h => h) (yieldsIf_extract (by rfl) _ 0 rfl _ rfl _ (fun _ => rfl)) hHeld ?_
          try simp only [Act.put, List.getElem_toArray, List.getElem_cons_succ, List.getElem_cons_zero, List.setIfInBounds_toArray, List.set_cons_zero, List.set_cons_succ]
          refine wpAnyH_take (i := 13) (v := .bool true) rfl (by kernel_rfl) (by kernel_rfl) (by kernel_rfl) (fun _ _ _ h => h) (yieldsIf_extract (by rfl) _ 1 rfl _ rfl _ (fun _ => rfl)) hHeld ?_
          try simp only [Act.put, List.getElem_toArray, List.getElem_cons_succ, List.getElem_cons_zero, List.setIfInBounds_toArray, List.set_cons_zero, List.set_cons_succ]
          refine wpAnyH_ready (rs := [14]) (by kernel_rfl) (by simp) ?_
          refine AllReadyH.cons (i := 14) rfl (fun K hK => ?_) AllReadyH.nil
          go_simp
          refine hK.out _ _ (Blk.alloc hHeld _) (fun hHeld => ?_)
          clear hK K
          try simp only [Act.put, List.getElem_toArray, List.getElem_cons_succ, List.getElem_cons_zero, List.setIfInBounds_toArray, List.set_cons_zero, List.set_cons_succ]
          have hZ := Blk.newAt V3 42 #[.slice none 0 0, .slice none 0 0, .slice none 0 0, .int .i64 0] V3.heap.size rfl
          have hgF0 : w1.heap.size ≤ V3.heap.size := bV3.size
          have bV4 := below_on bV3 (below_alloc V3 (.cells #[.slice none 0 0, .slice none 0 0, .slice none 0 0, .int .i64 0] 42))
          have p4 := p4.alloc (.cells #[.slice none 0 0, .slice none 0 0, .slice none 0 0, .int .i64 0] 42)
          have k4 := k4.alloc (.cells #[.slice none 0 0, .slice none 0 0, .slice none 0 0, .int .i64 0] 42)
          have o4 := o4.alloc (.cells #[.slice none 0 0, .slice none 0 0, .slice none 0 0, .int .i64 0] 42)
          obtain ⟨V4, hV4⟩ : ∃ q, q = V3.alloc (.cells #[.slice none 0 0, .slice none 0 0, .slice none 0 0, .int .i64 0] 42) := ⟨_, rfl⟩
          rw [← hV4] at hZ bV4 hHeld p4 k4 o4 ⊢
          obtain ⟨gF, hgF⟩ : ∃ q, q = V3.heap.size := ⟨_, rfl⟩
          rw [← hgF] at hZ hgF0 ⊢
          have hne : gO ≠ gF := by have := bV3.size; have := hO1.lt; omega
          clear hgF hV4
          refine wpAnyH_ready (rs := [15]) (by kernel_rfl) (by simp) ?_
          refine AllReadyH.cons (i := 15) rfl (fun K hK => ?_) AllReadyH.nil
          refine step_store rfl 42 _ _ rfl gF #[.slice A1 m c1, .slice A2 m c2, .slice A3 n3 c3, .int .i64 0] rfl rfl 42 #[.slice none 0 0, .slice none 0 0, .slice none 0 0, .int .i64 0] hZ (by kernel_rfl) rfl (by simp [Value.oneCell']) ?_
          intro V5 hZ9 hg9
          refine hK.out _ _ (Blk.grown hHeld hg9 (by simpa using hne)) (fun hHeld => ?_)
          clear hK K
          try simp only [Act.put, List.getElem_toArray, List.getElem_cons_succ, List.getElem_cons_zero, List.setIfInBounds_toArray, List.set_cons_zero, List.set_cons_succ]
          have hZf : Blk V4 gF 42 (flC none none none 0 0 0 0 0 0 0) := hZ
          have p4 := p4.asideT hZf flC_pu hg9
          have k4 := k4.asideT hZf flC_ck hg9
          have o4 := o4.asideT hZf flC_no hg9
          have hZ := hZ9
          have bV5 := below_grown bV4 hg9 hgF0 (Nat.le_refl _)
          clear hZf hZ9 hg9
          refine wpAnyH_take (i := 16) (v := .bool true) rfl (by kernel_rfl) (by kernel_rfl) (by kernel_rfl) (fun _ _ _ h => h) (yieldsIf_move (by rfl) _ (Or.inr rfl) _ rfl) hHeld ?_
          try simp only [Act.put, List.getElem_toArray, List.getElem_cons_succ, List.getElem_cons_zero, List.setIfInBounds_toArray, List.set_cons_zero, List.set_cons_succ]
          refine wpAnyH_done (by kernel_rfl) ?_ _
          refine NoPanic.normal ?_
          go_wp2_with fail
          go_meet
          exact ⟨gF, A1, c1, A2, c2, A3, n3, c3, rfl, rfl, hZ, p4, k4, o4, bV5⟩
        refine AllReadyH.cons (i := 14) rfl (fun K hK => ?_) AllReadyH.nil
        go_simp
        refine hK.out _ _ (Blk.alloc hHeld _) (fun hHeld => ?_)
        clear hK K
        try simp only [Act.put, List.getElem_toArray, List.getElem_cons_succ, List.getElem_cons_zero, List.setIfInBounds_toArray, List.set_cons_zero, List.set_cons_succ]
        have hZ := Blk.newAt V2 42 #[.slice none 0 0, .slice none 0 0, .slice none 0 0, .int .i64 0] V2.heap.size rfl
        have hgF0 : w1.heap.size ≤ V2.heap.size := bV2.size
        have bV6 := below_on bV2 (below_alloc V2 (.cells #[.slice none 0 0, .slice none 0 0, .slice none 0 0, .int .i64 0] 42))
        have r3 := r3.alloc (.cells #[.slice none 0 0, .slice none 0 0, .slice none 0 0, .int .i64 0] 42)
        obtain ⟨V6, hV6⟩ : ∃ q, q = V2.alloc (.cells #[.slice none 0 0, .slice none 0 0, .slice none 0 0, .int .i64 0] 42) := ⟨_, rfl⟩
        rw [← hV6] at hZ bV6 hHeld r3 ⊢
        obtain ⟨gF, hgF⟩ : ∃ q, q = V2.heap.size := ⟨_, rfl⟩
        rw [← hgF] at hZ hgF0 ⊢
        have hne : gO ≠ gF := by have := bV2.size; have := hO1.lt; omega
        clear hgF hV6
        refine wpAnyH_ready (rs := [10]) (by kernel_rfl) (by simp) ?_
        refine AllReadyH.cons (i := 10) rfl (fun K hK => ?_) AllReadyH.nil
        go_simp
        refine (HFT.out A0 n0 c4 V6 r3).mono ?_
        rintro e V7 ⟨A1, c1, A2, c2, A3, n3, c3, rfl, p4, k4, o4, hb9⟩
        refine hK.out _ _ (Blk.keep hHeld hb9) (fun hHeld => ?_)
        clear hK K r3
        try simp only [Act.put, List.getElem_toArray, List.getElem_cons_succ, List.getElem_cons_zero, List.setIfInBounds_toArray, List.set_cons_zero, List.set_cons_succ]
        have bV7 := below_on bV6 hb9
        have hZ := hZ.keep hb9
        clear hb9
        refine wpAnyH_take (i := 11) (v := .tuple #[.agg #[.slice A1 m c1, .slice A2 m c2, .slice A3 n3 c3, .int .i64 0], .bool true]) rfl (by kernel_rfl) (by kernel_rfl) (by kernel_rfl) (fun _ _ _ h => h) (yieldsIf_move (by rfl) _ (Or.inl rfl) _ rfl) hHeld ?_
        try simp only [Act.put, List.getElem_toArray, List.getElem_cons_succ, List.getElem_cons_zero, List.setIfInBounds_toArray, List.set_cons_zero, List.set_cons_succ]
        refine wpAnyH_take (i := 12) (v := .agg #[.slice A1 m c1, .slice A2 m c2, .slice A3 n3 c3, .int .i64 0]) rfl (by kernel_rfl) (by kernel_rfl) (by kernel_rfl) (fun _ _ _ h => h) (yieldsIf_extract (by rfl) _ 0 rfl _ rfl _ (fun _ => rfl)) hHeld ?_
        try simp only [Act.put, List.getElem_toArray, List.getElem_cons_succ, List.getElem_cons_zero, List.setIfInBounds_toArray, List.set_cons_zero, List.set_cons_succ]
        refine wpAnyH_take (i := 13) (v := .bool true) rfl (by kernel_rfl) (by kernel_rfl) (by kernel_rfl) (fun _ _ _ h => h) (yieldsIf_extract (by rfl) _ 1 rfl _ rfl _ (fun _ => rfl)) hHeld ?_
        try simp only [Act.put, List.getElem_toArray, List.getElem_cons_succ, List.getElem_cons_zero, List.setIfInBounds_toArray, List.set_cons_zero, List.set_cons_succ]
        refine wpAnyH_ready (rs := [15]) (by kernel_rfl) (by simp) ?_
        refine AllReadyH.cons (i := 15) rfl (fun K hK => ?_) AllReadyH.nil
        refine step_store rfl 42 _ _ rfl gF #[.slice A1 m c1, .slice A2 m c2, .slice A3 n3 c3, .int .i64 0] rfl rfl 42 #[.slice none 0 0, .slice none 0 0, .slice none 0 0, .int .i64 0] hZ (by kernel_rfl) rfl (by simp [Value.oneCell']) ?_
        intro V8 hZ9 hg9
        refine hK.out _ _ (Blk.grown hHeld hg9 (by simpa using hne)) (fun hHeld => ?_)
        clear hK K
        try simp only [Act.put, List.getElem_toArray, List.getElem_cons_succ, List.getElem_cons_zero, List.setIfInBounds_toArray, List.set_cons_zero, List.set_cons_succ]
        have hZf : Blk V7 gF 42 (flC none none none 0 0 0 0 0 0 0) := hZ
        have p4 := p4.asideT hZf flC_pu hg9
        have k4 := k4.asideT hZf flC_ck hg9
        have o4 := o4.asideT hZf flC_no hg9
        have hZ := hZ9
        have bV8 := below_grown bV7 hg9 hgF0 (Nat.le_refl _)
        clear hZf hZ9 hg9
        refine wpAnyH_take (i := 16) (v := .bool true) rfl (by kernel_rfl) (by kernel_rfl) (by kernel_rfl) (fun _ _ _ h => h) (yieldsIf_move (by rfl) _ (Or.inr rfl) _ rfl) hHeld ?_
        try simp only [Act.put, List.getElem_toArray, List.getElem_cons_succ, List.getElem_cons_zero, List.setIfInBounds_toArray, List.set_cons_zero, List.set_cons_succ]
        refine wpAnyH_done (by kernel_rfl) ?_ _
        refine NoPanic.normal ?_
        go_wp2_with fail
        go_meet
        exact ⟨gF, A1, c1, A2, c2, A3, n3, c3, rfl, rfl, hZ, p4, k4, o4, bV8⟩
      refine AllReadyH.cons (i := 14) rfl (fun K hK => ?_) AllReadyH.nil
      go_simp
      refine hK.out _ _ (Blk.alloc hHeld _) (fun hHeld => ?_)
      clear hK K
      try simp only [Act.put, List.getElem_toArray, List.getElem_cons_succ, List.getElem_cons_zero, List.setIfInBounds_toArray, List.set_cons_zero, List.set_cons_succ]
      have hZ := Blk.newAt V1 42 #[.slice none 0 0, .slice none 0 0, .slice none 0 0, .int .i64 0] V1.heap.size rfl
      have hgF0 : w1.heap.size ≤ V1.heap.size := bV1.size
      have bV9 := below_on bV1 (below_alloc V1 (.cells #[.slice none 0 0, .slice none 0 0, .slice none 0 0, .int .i64 0] 42))
      have q9 := q9.alloc (.cells #[.slice none 0 0, .slice none 0 0, .slice none 0 0, .int .i64 0] 42)
      obtain ⟨V9, hV9⟩ : ∃ q, q = V1.alloc (.cells #[.slice none 0 0, .slice none 0 0, .slice none 0 0, .int .i64 0] 42) := ⟨_, rfl⟩
      rw [← hV9] at hZ bV9 hHeld q9 ⊢
      obtain ⟨gF, hgF⟩ : ∃ q, q = V1.heap.size := ⟨_, rfl⟩
      rw [← hgF] at hZ hgF0 ⊢
      have hne : gO ≠ gF := by have := bV1.size; have := hO1.lt; omega
      clear hgF hV9
      refine wpAnyH_ready (rs := [3]) (by kernel_rfl) (by simp) ?_
      refine AllReadyH.cons (i := 3) rfl (fun K hK => ?_) AllReadyH.nil
      go_simp
      refine (HRU.out gL V9 (s2.on bV9) q9).mono ?_
      rintro e V10 ⟨A0, n0, c4, rfl, r3, hb9⟩
      refine hK.out _ _ (Blk.keep hHeld hb9) (fun hHeld => ?_)
      clear hK K q9
      try simp only [Act.put, List.getElem_toArray, List.getElem_cons_succ, List.getElem_cons_zero, List.setIfInBounds_toArray, List.set_cons_zero, List.set_cons_succ]
      have bV10 := below_on bV9 hb9
      have hZ := hZ.keep hb9
      clear hb9
      refine wpAnyH_ready (rs := [10]) (by kernel_rfl) (by simp) ?_
      refine AllReadyH.cons (i := 10) rfl (fun K hK => ?_) AllReadyH.nil
      go_simp
      refine (HFT.out A0 n0 c4 V10 r3).mono ?_
      rintro e V11 ⟨A1, c1, A2, c2, A3, n3, c3, rfl, p4, k4, o4, hb9⟩
      refine hK.out _ _ (Blk.keep hHeld hb9) (fun hHeld => ?_)
      clear hK K r3
      try simp only [Act.put, List.getElem_toArray, List.getElem_cons_succ, List.getElem_cons_zero, List.setIfInBounds_toArray, List.set_cons_zero, List.set_cons_succ]
      have bV11 := below_on bV10 hb9
      have hZ := hZ.keep hb9
      clear hb9
      refine wpAnyH_take (i := 11) (v := .tuple #[.agg #[.slice A1 m c1, .slice A2 m c2, .slice A3 n3 c3, .int .i64 0], .bool true]) rfl (by kernel_rfl) (by kernel_rfl) (by kernel_rfl) (fun _ _ _ h => h) (yieldsIf_move (by rfl) _ (Or.inl rfl) _ rfl) hHeld ?_
      try simp only [Act.put, List.getElem_toArray, List.getElem_cons_succ, List.getElem_cons_zero, List.setIfInBounds_toArray, List.set_cons_zero, List.set_cons_succ]
      refine wpAnyH_take (i := 12) (v := .agg #[.slice A1 m c1, .slice A2 m c2, .slice A3 n3 c3, .int .i64 0]) rfl (by kernel_rfl) (by kernel_rfl) (by kernel_rfl) (fun _ _ _ h => h) (yieldsIf_extract (by rfl) _ 0 rfl _ rfl _ (fun _ => rfl)) hHeld ?_
      try simp only [Act.put, List.getElem_toArray, List.getElem_cons_succ, List.getElem_cons_zero, List.setIfInBounds_toArray, List.set_cons_zero, List.set_cons_succ]
      refine wpAnyH_take (i := 13) (v := .bool true) rfl (by kernel_rfl) (by kernel_rfl) (by kernel_rfl) (fun _ _ _ h => h) (yieldsIf_extract (by rfl) _ 1 rfl _ rfl _ (fun _ => rfl)) hHeld ?_
      try simp only [Act.put, List.getElem_toArray, List.getElem_cons_succ, List.getElem_cons_zero, List.setIfInBounds_toArray, List.set_cons_zero, List.set_cons_succ]
      refine wpAnyH_ready (rs := [15]) (by kernel_rfl) (by simp) ?_
      refine AllReadyH.cons (i := 15) rfl (fun K hK => ?_) AllReadyH.nil
      refine step_store rfl 42 _ _ rfl gF #[.slice A1 m c1, .slice A2 m c2, .slice A3 n3 c3, .int .i64 0] rfl rfl 42 #[.slice none 0 0, .slice none 0 0, .slice none 0 0, .int .i64 0] hZ (by kernel_rfl) rfl (by simp [Value.oneCell']) ?_
      intro V12 hZ9 hg9
      refine hK.out _ _ (Blk.grown hHeld hg9 (by simpa using hne)) (fun hHeld => ?_)
      clear hK K
      try simp only [Act.put, List.getElem_toArray, List.getElem_cons_succ, List.getElem_cons_zero, List.setIfInBounds_toArray, List.set_cons_zero, List.set_cons_succ]
      have hZf : Blk V11 gF 42 (flC none none none 0 0 0 0 0 0 0) := hZ
      have p4 := p4.asideT hZf flC_pu hg9
      have k4 := k4.asideT hZf flC_ck hg9
      have o4 := o4.asideT hZf flC_no hg9
      have hZ := hZ9
      have bV12 := below_grown bV11 hg9 hgF0 (Nat.le_refl _)
      clear hZf hZ9 hg9
      refine wpAnyH_take (i := 16) (v := .bool true) rfl (by kernel_rfl) (by kernel_rfl) (by kernel_rfl) (fun _ _ _ h => h) (yieldsIf_move (by rfl) _ (Or.inr rfl) _ rfl) hHeld ?_
      try simp only [Act.put, List.getElem_toArray, List.getElem_cons_succ, List.getElem_cons_zero, List.setIfInBounds_toArray, List.set_cons_zero, List.set_cons_succ]
      refine wpAnyH_done (by kernel_rfl) ?_ _
      refine NoPanic.normal ?_
      go_wp2_with fail
      go_meet
      exact ⟨gF, A1, c1, A2, c2, A3, n3, c3, rfl, rfl, hZ, p4, k4, o4, bV12⟩
    refine AllReadyH.cons (i := 14) rfl (fun K hK => ?_) AllReadyH.nil
    go_simp
    refine hK.out _ _ (Blk.alloc hHeld _) (fun hHeld => ?_)
    clear hK K
    try simp only [Act.put, List.getElem_toArray, List.getElem_cons_succ, List.getElem_cons_zero, List.setIfInBounds_toArray, List.set_cons_zero, List.set_cons_succ]
    have hZ := Blk.newAt V0 42 #[.slice none 0 0, .slice none 0 0, .slice none 0 0, .int .i64 0] V0.heap.size rfl
    have hgF0 : w1.heap.size ≤ V0.heap.size := bV0.size
    have bV13 := below_on bV0 (below_alloc V0 (.cells #[.slice none 0 0, .slice none 0 0, .slice none 0 0, .int .i64 0] 42))
    obtain ⟨V13, hV13⟩ : ∃ q, q = V0.alloc (.cells #[.slice none 0 0, .slice none 0 0, .slice none 0 0, .int .i64 0] 42) := ⟨_, rfl⟩
    rw [← hV13] at hZ bV13 hHeld ⊢
    obtain ⟨gF, hgF⟩ : ∃ q, q = V0.heap.size := ⟨_, rfl⟩
    rw [← hgF] at hZ hgF0 ⊢
    have hne : gO ≠ gF := by have := bV0.size; have := hO1.lt; omega
    clear hgF hV13
    refine wpAnyH_ready (rs := [2]) (by kernel_rfl) (by simp) ?_
    refine AllReadyH.cons (i := 2) rfl (fun K hK => ?_) AllReadyH.nil
    go_simp
    refine hK.out _ _ (Blk.alloc hHeld _) (fun hHeld => ?_)
    clear hK K
    try simp only [Act.put, List.getElem_toArray, List.getElem_cons_succ, List.getElem_cons_zero, List.setIfInBounds_toArray, List.set_cons_zero, List.set_cons_succ]
    have q9 := Rd.many (e := eInt) V13 3 kShows #[.int .i64 4, .int .i64 1, .int .i64 5] rfl 3 rfl (by omega) V13.heap.size rfl
    have bV14 := below_on bV13 (below_alloc V13 (.cells #[.int .i64 4, .int .i64 1, .int .i64 5] 3))
    have hZ := Blk.alloc hZ (.cells #[.int .i64 4, .int .i64 1, .int .i64 5] 3)
    obtain ⟨V14, hV14⟩ : ∃ q, q = V13.alloc (.cells #[.int .i64 4, .int .i64 1, .int .i64 5] 3) := ⟨_, rfl⟩
    rw [← hV14] at q9 bV14 hHeld hZ ⊢
    obtain ⟨gL, hgL⟩ : ∃ q, q = V13.heap.size := ⟨_, rfl⟩
    rw [← hgL] at q9 ⊢
    clear hgL hV14
    refine wpAnyH_ready (rs := [3]) (by kernel_rfl) (by simp) ?_
    refine AllReadyH.cons (i := 3) rfl (fun K hK => ?_) AllReadyH.nil
    go_simp
    refine (HRU.out gL V14 (s2.on bV14) q9).mono ?_
    rintro e V15 ⟨A0, n0, c4, rfl, r3, hb9⟩
    refine hK.out _ _ (Blk.keep hHeld hb9) (fun hHeld => ?_)
    clear hK K q9
    try simp only [Act.put, List.getElem_toArray, List.getElem_cons_succ, List.getElem_cons_zero, List.setIfInBounds_toArray, List.set_cons_zero, List.set_cons_succ]
    have bV15 := below_on bV14 hb9
    have hZ := hZ.keep hb9
    clear hb9
    refine wpAnyH_ready (rs := [10]) (by kernel_rfl) (by simp) ?_
    refine AllReadyH.cons (i := 10) rfl (fun K hK => ?_) AllReadyH.nil
    go_simp
    refine (HFT.out A0 n0 c4 V15 r3).mono ?_
    rintro e V16 ⟨A1, c1, A2, c2, A3, n3, c3, rfl, p4, k4, o4, hb9⟩
    refine hK.out _ _ (Blk.keep hHeld hb9) (fun hHeld => ?_)
    clear hK K r3
    try simp only [Act.put, List.getElem_toArray, List.getElem_cons_succ, List.getElem_cons_zero, List.setIfInBounds_toArray, List.set_cons_zero, List.set_cons_succ]
    have bV16 := below_on bV15 hb9
    have hZ := hZ.keep hb9
    clear hb9
    refine wpAnyH_take (i := 11) (v := .tuple #[.agg #[.slice A1 m c1, .slice A2 m c2, .slice A3 n3 c3, .int .i64 0], .bool true]) rfl (by kernel_rfl) (by kernel_rfl) (by kernel_rfl) (fun _ _ _ h => h) (yieldsIf_move (by rfl) _ (Or.inl rfl) _ rfl) hHeld ?_
    try simp only [Act.put, List.getElem_toArray, List.getElem_cons_succ, List.getElem_cons_zero, List.setIfInBounds_toArray, List.set_cons_zero, List.set_cons_succ]
    refine wpAnyH_take (i := 12) (v := .agg #[.slice A1 m c1, .slice A2 m c2, .slice A3 n3 c3, .int .i64 0]) rfl (by kernel_rfl) (by kernel_rfl) (by kernel_rfl) (fun _ _ _ h => h) (yieldsIf_extract (by rfl) _ 0 rfl _ rfl _ (fun _ => rfl)) hHeld ?_
    try simp only [Act.put, List.getElem_toArray, List.getElem_cons_succ, List.getElem_cons_zero, List.setIfInBounds_toArray, List.set_cons_zero, List.set_cons_succ]
    refine wpAnyH_take (i := 13) (v := .bool true) rfl (by kernel_rfl) (by kernel_rfl) (by kernel_rfl) (fun _ _ _ h => h) (yieldsIf_extract (by rfl) _ 1 rfl _ rfl _ (fun _ => rfl)) hHeld ?_
    try simp only [Act.put, List.getElem_toArray, List.getElem_cons_succ, List.getElem_cons_zero, List.setIfInBounds_toArray, List.set_cons_zero, List.set_cons_succ]
    refine wpAnyH_ready (rs := [15]) (by kernel_rfl) (by simp) ?_
    refine AllReadyH.cons (i := 15) rfl (fun K hK => ?_) AllReadyH.nil
    refine step_store rfl 42 _ _ rfl gF #[.slice A1 m c1, .slice A2 m c2, .slice A3 n3 c3, .int .i64 0] rfl rfl 42 #[.slice none 0 0, .slice none 0 0, .slice none 0 0, .int .i64 0] hZ (by kernel_rfl) rfl (by simp [Value.oneCell']) ?_
    intro V17 hZ9 hg9
    refine hK.out _ _ (Blk.grown hHeld hg9 (by simpa using hne)) (fun hHeld => ?_)
    clear hK K
    try simp only [Act.put, List.getElem_toArray, List.getElem_cons_succ, List.getElem_cons_zero, List.setIfInBounds_toArray, List.set_cons_zero, List.set_cons_succ]
    have hZf : Blk V16 gF 42 (flC none none none 0 0 0 0 0 0 0) := hZ
    have p4 := p4.asideT hZf flC_pu hg9
    have k4 := k4.asideT hZf flC_ck hg9
    have o4 := o4.asideT hZf flC_no hg9
    have hZ := hZ9
    have bV17 := below_grown bV16 hg9 hgF0 (Nat.le_refl _)
    clear hZf hZ9 hg9
    refine wpAnyH_take (i := 16) (v := .bool true) rfl (by kernel_rfl) (by kernel_rfl) (by kernel_rfl) (fun _ _ _ h => h) (yieldsIf_move (by rfl) _ (Or.inr rfl) _ rfl) hHeld ?_
    try simp only [Act.put, List.getElem_toArray, List.getElem_cons_succ, List.getElem_cons_zero, List.setIfInBounds_toArray, List.set_cons_zero, List.set_cons_succ]
    refine wpAnyH_done (by kernel_rfl) ?_ _
    refine NoPanic.normal ?_
    go_wp2_with fail
    go_meet
    exact ⟨gF, A1, c1, A2, c2, A3, n3, c3, rfl, rfl, hZ, p4, k4, o4, bV17⟩
  case rest =>
    obtain ⟨gF, A1, c1, A2, c2, A3, n3, c3, rfl, rfl, hF, p5, k5, o5, hb9⟩ := hcut
    clear HFT HCV HBL HRU
    have ht5 := ht2.on hb9
    have hb10 := below_on hb2 hb9
    clear ht2 hb2 hb9 hO1 s2
    have f0 := hF.cell 0
    have f1 := hF.cell 1
    simp only [List.getElem?_toArray, List.getElem?_cons_succ, List.getElem?_cons_zero] at f0 f1
    have hPl : (emiF (undark f) a m).1.length = m := p5.len
    have HNF := hide (fun (k q : Nat) (y : No) (p : Pu) (h1 : (carrF (genL kShows S) (emiF (undark f) a m).1 b m).2.1[k]? = some y) (h2 : y.slot = q) (h3 : (emiF (undark f) a m).1[q]? = some p) h4 h5 => note_fine (kShows_mem (S := S)) hPl h1 h2 h3 h4 h5)
    have HNS := hide (fun (k : Nat) (y : No) (h : (carrF (genL kShows S) (emiF (undark f) a m).1 b m).2.1[k]? = some y) => note_slot hPl h)
    have HWO := hide (fun (i : Nat) (h : i ∈ slotsOf (dif (dets (undark f 16) 0 0 (carrF (genL kShows S) (emiF (undark f) a m).1 b m).1 c m).1 0) (emiF (undark f) a m).1 m) => wrong_other (kShows_mem (S := S)) hPl h)
    have hPok : (emiF (undark f) a m).1.all okPu = true := emiF_ok _ _ _
    have hCok := dets_ok (undark f 16) (undark f 17) 0 (carrF (genL kShows S) (emiF (undark f) a m).1 b m).1 c m
    rw [show undark f 17 = 0 from rfl] at k5 hCok
    obtain ⟨P, hP⟩ : ∃ P, P = (emiF (undark f) a m).1 := ⟨_, rfl⟩
    rw [← hP] at p5 k5 o5 HNF HNS HWO hPok hCok hPl
    obtain ⟨N, hN⟩ : ∃ N, N = (carrF (genL kShows S) P b m).2.1 := ⟨_, rfl⟩
    rw [← hN] at o5 HNF HNS HWO
    obtain ⟨C, hC⟩ : ∃ C, C = (dets (undark f 16) 0 0 (carrF (genL kShows S) P b m).1 c m).1 := ⟨_, rfl⟩
    rw [← hC] at k5 HWO hCok
    clear hP hN hC HF
    have HPL := hide hPl
    clear hPl
    have HAG := hide (agree_fl hPok hCok (by omega) A1 c1 A2 c2 wc p5 k5)
    clear hPok hCok
    go_upto_region 6 with (go_at_call 17; refine HAG.out.mono ?_; rintro e w6 ⟨B1, n1, d1, B2, n2, d2, rfl, g5, q5, hb6⟩)
    have hF6 := hF.keep hb6
    have p6 := p5.on hb6
    have o6 := o5.on hb6
    have ht6 := ht5.on hb6
    have hb11 := below_on hb10 hb6
    clear hF p5 k5 o5 ht5 hb10 hb6 HAG f0 f1 g5
    have hwm : IntKind.i64.wrap (m : Int) = (m : Int) := by simp only [IntKind.wrap, IntKind.bits, IntKind.signed]; simp; omega
    go_upto_region 9 with (at_make; refine wl_mk eBool _ rfl _ _ _ rfl 4 (.bool false) 1 false Tryd.underlying51 info_bool rfl (by omega) _ _ m (by rfl) (by rfl) (by first | rfl | exact hwm) (by first | rfl | exact hwm) (by omega) ?_; intro w7 o7 hg7 hlt7)
    have hb7 : Below w6.heap.size w6 w7 := ⟨hg7.os, hg7.tape, hg7.output, hg7.size, fun i hi => hg7.block i hi (by simp)⟩
    have HPC := p6.cap
    have HPM := p6.max
    have HOC := o6.cap
    have HOM := o6.max
    obtain ⟨gK, hgK⟩ : ∃ q, q = w6.heap.size := ⟨_, rfl⟩
    rw [← hgK] at o7 ⊢
    have HGK := hide hgK
    clear hgK hg7 hlt7
    go_wp2
    go_loopw [19] (fun iv wr => ∃ k : Nat, k ≤ n3 ∧ iv = .int .i64 k ∧ Ow eBool wr gK 4 (some ⟨gK, 0, none⟩) m m (others P (N.take k)) ∧ Below w6.heap.size w6 wr) (fun iv _ => n3 - (intOf iv).toNat)
    case atStart => exact ⟨0, by omega, rfl, by simp only [List.take_zero, others, List.foldl_nil]; rw [HPL.out]; exact o7, hb7⟩
    case round =>
      clear o7 hb7
      obtain ⟨k, hk, rfl, o3, hbw⟩ := hrel
      have hF8 := hF6.keep hbw
      have f0 := hF8.cell 0
      have f2 := hF8.cell 2
      simp only [List.getElem?_toArray, List.getElem?_cons_succ, List.getElem?_cons_zero] at f0 f2
      by_cases hlt : k < n3
      · obtain ⟨b1, off, x, rfl, hbb, hx, hc⟩ := (o6.below hbw).get hlt
        have x0 := hc 0 _ rfl
        have x1 := hc 1 _ rfl
        have x2 := hc 2 _ rfl
        have x3 := hc 3 _ rfl
        simp only [eNo, Nat.add_zero] at x0 x1 x2 x3
        obtain ⟨q, hs, hqm⟩ := HNS.out k x hx
        obtain ⟨xs, xh, xb, xbit⟩ := x
        simp only at x0 x1 x2 x3 hs
        subst hs
        have h8 := hbw.alloc hbw.size (.cells #[.int .i64 (q : Int), .int .i64 xh, .int .i64 xb, .bool xbit] 53)
        obtain ⟨b2, off2, y, rfl, hbb2, hy, hc2⟩ := (p6.below h8).get hqm
        have y0 := hc2 0 _ rfl
        have y1 := hc2 1 _ rfl
        have y2 := hc2 2 _ rfl
        have y3 := hc2 3 _ rfl
        have y4 := hc2 4 _ rfl
        simp only [ePu, Nat.add_zero] at y0 y1 y2 y3 y4
        have h9 := h8.alloc h8.size (.cells #[.int .i64 y.b, .bool y.bit, .int .i64 y.cl, .int .i64 y.ph, .bool y.seen] 55)
        have oW := (o3.alloc (.cells #[.int .i64 (q : Int), .int .i64 xh, .int .i64 xb, .bool xbit] 53)).alloc (.cells #[.int .i64 y.b, .bool y.bit, .int .i64 y.cl, .int .i64 y.ph, .bool y.seen] 55)
        have HFI := hide (fun h4 h5 => HNF.out k q _ y hx rfl hy h4 h5)
        have HY := hide hy
        have HX := hide hx
        obtain ⟨pb, pbit, pcl, pph, pseen⟩ := y
        simp only at y0 y1 y2 y3 y4 oW h9 HFI
        obtain ⟨g, v, eg, _, hgl, hv, hcv⟩ := oW.get hqm
        injection eg with eg
        injection eg with eg
        subst eg
        have k0 := hcv 0 _ rfl
        have kf := oW.frozen q
        simp only [eBool, Nat.add_zero, Nat.mul_one] at k0
        have HV := hide hv
        have hq0 : (0 : Int) ≤ (q : Int) := by omega
        have hq1 : (q : Int) < (m : Int) := by omega
        have hqd1 : decide ((q : Int) < 0) = false := by simp
        have hqd2 : decide ((m : Int) ≤ (q : Int)) = false := decide_eq_false (by omega)
        have f0a := (hF8.alloc (.cells #[.int .i64 (q : Int), .int .i64 xh, .int .i64 xb, .bool xbit] 53)).cell 0
        simp only [List.getElem?_toArray, List.getElem?_cons_succ, List.getElem?_cons_zero] at f0a
        clear hc hc2 hcv hx hy hv hF8
        by_cases hxb : xb = pb
        · subst hxb
          have HM := hide (others_no (P := P) (N := N) HX.out rfl HY.out rfl)
          have hxe : (xb == xb) = true := by simp
          have hxn : (xb != xb) = false := by simp
          cases v
          · obtain rfl : xbit = pbit := HFI.out HV.out rfl
            have hbn : (xbit != xbit) = false := by simp
            have HO := hide oW
            have H9 := hide h9
            clear oW h9 h8 o3 hbw
            go_wp2
            go_roundw
            case rel => exact ⟨k + 1, by omega, by go_num, by rw [HM.out]; exact HO.out, H9.out⟩
            case measure => simp [intOf] <;> omega
          · have HO := hide oW
            have H9 := hide h9
            clear oW h9 h8 o3 hbw
            go_wp2
            go_roundw
            case rel => exact ⟨k + 1, by omega, by go_num, by rw [HM.out]; exact HO.out, H9.out⟩
            case measure => simp [intOf] <;> omega
        · have HM := hide (others_yes (P := P) (N := N) HX.out rfl HY.out hxb)
          have hxe : (xb == pb) = false := by simpa using hxb
          have hxn : (xb != pb) = true := by rw [bne, hxe]; rfl
          have HO := hide (oW.store1 hqm true rfl rfl)
          have H9 := hide (h9.setCell (p := ⟨gK, q, none⟩) (by have := HGK.out; simp only; omega) (.bool true))
          clear hxb oW h9 h8 o3 hbw
          cases v
          · go_wp2
            go_roundw
            case rel => exact ⟨k + 1, by omega, by go_num, by rw [HM.out]; exact HO.out, H9.out⟩
            case measure => simp [intOf] <;> omega
          · go_wp2
            go_roundw
            case rel => exact ⟨k + 1, by omega, by go_num, by rw [HM.out]; exact HO.out, H9.out⟩
            case measure => simp [intOf] <;> omega
      · have hke : N.take k = N := List.take_of_length_le (by have := o6.len; omega)
        rw [hke] at o3
        have ht9 := ht6.on hbw
        have q9 := q5.on hbw
        have hb12 := below_on hb11 hbw
        have hqc := q9.cap
        have hqm := q9.max
        obtain ⟨w9, hw9⟩ : ∃ q, q = wr := ⟨_, rfl⟩
        rw [← hw9] at o3 ht9 q9 hb12 f0 f2 ⊢
        clear hke hbw hw9 hF8
        go_upto_region 20 with fail
        clear f0 f2
        go_wp2
        go_loopw [22] (fun iv wr => ∃ j : Nat, j ≤ n2 ∧ iv = .int .i64 j ∧ wr = w9) (fun iv _ => n2 - (intOf iv).toNat)
        case atStart => exact ⟨0, by omega, rfl, rfl⟩
        case round =>
          obtain ⟨j, hj, rfl, rfl⟩ := hrel
          by_cases hlt2 : j < n2
          · obtain ⟨b1, off, i, rfl, hbb, hx, hc⟩ := q9.get hlt2
            have x0 := hc 0 _ rfl
            simp only [eNat, Nat.add_zero, Nat.mul_one] at x0
            obtain ⟨him, hot⟩ := HWO.out i (List.mem_of_getElem? hx)
            obtain ⟨g, v, eg, _, hgl, hv, hcv⟩ := o3.get him
            injection eg with eg
            injection eg with eg
            subst eg
            rw [hot] at hv
            obtain rfl := Option.some.inj hv
            have k0 := hcv 0 _ rfl
            simp only [eBool, Nat.add_zero, Nat.mul_one] at k0
            have hq0 : (0 : Int) ≤ (i : Int) := by omega
            have hq1 : (i : Int) < (m : Int) := by omega
            have hqd1 : decide ((i : Int) < 0) = false := by simp
            have hqd2 : decide ((m : Int) ≤ (i : Int)) = false := decide_eq_false (by omega)
            clear hc hcv hot hv hx
            go_wp2
            go_roundw
            case rel => exact ⟨j + 1, by omega, by go_num, trivial⟩
            case measure => simp [intOf] <;> omega
          · have HW := hide (works_c _ ht9)
            go_wp2_with (go_at_call 12; refine HW.out.mono ?_; rintro e w' ⟨rfl, hbz⟩)
            go_ret
            exact ⟨rfl, below_on hb12 hbz⟩
theorem shows_w (f : Nat → Int) (_ : True) (A : Option Addr) (k0 c0 : Nat) (S : List Sp) (m : Int) (wm : (Lit.int .u8 m).wf = true) (a : Int) (wa : (Lit.int .u64 a).wf = true) (b : Int) (wb : (Lit.int .u64 b).wf = true) (c : Int) (wc : (Lit.int .u64 c).wf = true) (w : World) (s : Rd eSp w w.heap.size A k0 c0 S) (ht : Tab w) :
    Calls Tryd.prog 5 #[.agg (cells18 f), .slice A k0 c0, .int .u8 m, .int .u64 a, .int .u64 b, .int .u64 c] w fun e w' => e = .returned (.bool true) ∧ Below w.heap.size w w' := by
  obtain ⟨m, rfl, hm⟩ := u8_nat wm
  obtain ⟨a, rfl⟩ := u64_nat' wa
  obtain ⟨b, rfl⟩ := u64_nat' wb
  obtain ⟨c, rfl⟩ := u64_nat' wc
  exact shows_c f A k0 c0 S m hm a b c w s ht
end Go.Proofs.YthdidjnhfkeokaaDoor
