/- Contract of the reference's Emit. -/
import Derived.Test.YtddajmagdjkodaaDoorVx
import Derived.Test.YtddajmagdjkodaaDoorQt
import Derived.Test.YtddajmagdjkodaaDoorVb
namespace Go.Proofs.YtddajmagdjkodaaDoor
open Go.RowKit

def emitErr (f : Nat → Int) (n : Int) : Int := if checkErr f ≠ 0 then checkErr f else if n < 0 ∨ 4096 < n then 3 else 0
def emitL (f : Nat → Int) (n : Int) (s : Nat) : List Pu := if emitErr f n = 0 then (emiF f s n.toNat).1 else []
def SEm (f : Nat → Int) (n : Int) (s : Nat) (w : World) (e : Ending) (w' : World) : Prop :=
  ∃ A k c, e = .returned (.tuple #[.slice A k c, .int .i64 (emitErr f n)]) ∧ Rd ePu w' w'.heap.size A k c (emitL f n s) ∧ Below w.heap.size w w'
theorem SEm.err {f : Nat → Int} {n : Int} {s : Nat} {w w' : World} {x : Int} (h : emitErr f n = x) (hx : x ≠ 0) (hb : Below w.heap.size w w') : SEm f n s w (.returned (.tuple #[.slice none 0 0, .int .i64 x])) w' := by
  refine ⟨none, 0, 0, by rw [h], ?_, hb⟩
  unfold emitL; rw [if_neg (by omega)]; exact Rd.nil _ _ _ _ (by omega)
theorem SEm.ok {f : Nat → Int} {n : Nat} {s : Nat} {w w' : World} {A : Option Addr} {c : Nat} (h : emitErr f n = 0) (hb : Below w.heap.size w w') (hr : Rd ePu w' w'.heap.size A n c (emiF f s n).1) : SEm f n s w (.returned (.tuple #[.slice A n c, .int .i64 0])) w' := by
  refine ⟨A, n, c, by rw [h], ?_, hb⟩
  unfold emitL; rw [if_pos h, Int.toNat_natCast]; exact hr
theorem emitErr_check {f : Nat → Int} {n : Int} (h : checkErr f = 2) : emitErr f n = 2 := by unfold emitErr; rw [h]; rfl
theorem emitErr_range {f : Nat → Int} {n : Int} (h : checkErr f = 0) (hn : n < 0 ∨ 4096 < n) : emitErr f n = 3 := by unfold emitErr; rw [if_neg (by omega), if_pos hn]
theorem emitErr_ok {f : Nat → Int} {n : Int} (h : checkErr f = 0) (hn : ¬ (n < 0 ∨ 4096 < n)) : emitErr f n = 0 := by unfold emitErr; rw [if_neg (by omega), if_neg hn]
theorem check_two {f : Nat → Int} (h : checkErr f ≠ 0) : checkErr f = 2 := by
  unfold checkErr at *; split at h
  · exact absurd rfl h
  · rename_i hn; rw [if_neg hn]
theorem info_pu : (Tryd.prog.info? 59).map (fun i => (i.zero, i.size, i.bytes)) = some (some (.agg #[.int .i64 0, .bool false, .int .i64 0, .int .i64 0, .bool false]), 5, 40) := by kernel_rfl
theorem emiF_succ {f : Nat → Int} {s i t : Nat} {xs : List Pu} (h : emiF f s i = (xs, t)) {p : Pu} {t2 : Nat} (h2 : pulF f t = (p, t2)) : emiF f s (i + 1) = (xs ++ [p], t2) := by rw [emiF, h]; simp only [h2]

/-- The blocks of a round: the arrangement, the pulse, the draws. -/
structure PR (w : World) (gO gP D s : Nat) (f : Nat → Int) (p : Pu) (W : World) : Prop where
  o : Blk W gO 40 (cells18 f)
  p : Blk W gP 59 (puC p)
  d : Rr W D s
  f : w.grownBy W (some D)
structure PQ (w : World) (gO gP D : Nat) : Prop where
  o : gO < w.heap.size
  p : w.heap.size ≤ gP
  d : D < w.heap.size
  od : gO ≠ D
section
variable {w W W' : World} {gO gP D s s' : Nat} {f : Nat → Int} {p p' : Pu}
theorem PR.draw (h : PR w gO gP D s f p W) (g : PQ w gO gP D) (hd : Rr W' D s') (hg : W.grownBy W' (some D)) : PR w gO gP D s' f p W' := by
  obtain ⟨g1, g2, g3, g4⟩ := g
  exact ⟨h.o.grown hg (by simpa using g4), h.p.grown hg (by simp; omega), hd, h.f.trans hg⟩
theorem PR.drew (h : PR w gO gP D s f p W) : PR w gO gP D s f p W.drew := ⟨h.o.drew, h.p.drew, h.d, grownBy_drew h.f⟩
theorem PR.setP (h : PR w gO gP D s f p W) (g : PQ w gO gP D) (i : Nat) (v : Value) (hx : (puC p).setIfInBounds i v = puC p') : PR w gO gP D s f p' (W.setCell ⟨gP, i, none⟩ v) := by
  obtain ⟨g1, g2, g3, g4⟩ := g
  exact ⟨h.o.far (by simp; omega) v, hx ▸ h.p.set_ i v, Blk.far h.d (by simp; omega) v, grownBy_set h.f (by simp; omega) v⟩
end

set_option maxRecDepth 100000 in
set_option maxHeartbeats 12800000 in
theorem remit_c (f : Nat → Int) (n : Int) (s : Nat) (w : World) : Calls Tryd.prog 30 #[.agg (cells18 f), .int .i64 n, .int .u64 (s : Int)] w (SEm f n s w) := by
  have hO := Blk.newAt w 40 (cells18 f) w.heap.size rfl
  have hb := below_alloc w (.cells (cells18 f) 40)
  obtain ⟨W, hW⟩ : ∃ W, W = w.alloc (.cells (cells18 f) 40) := ⟨_, rfl⟩
  rw [← hW] at hO hb
  have HW := hide hW
  have hck := rcheck_c f W
  have hlt0 := hO.lt
  clear hW
  by_cases h0 : checkErr f = 0
  · rw [h0] at hck
    have HCK := hide hck
    have H0 := hide h0
    clear hck h0
    by_cases hr : n < 0 ∨ 4096 < n
    · have HE := hide (emitErr_range H0.out hr)
      by_cases hr1 : n < 0
      · clear hr
        go_enter Tryd.func30, Tryd.ntmps30
        go_upto_region 1 with fail
        rw [← HW.out]
        go_wp2_with (first | (refine wl_load (o := ⟨some 13, _, _, _, _, _⟩) rfl 40 _ rfl w.heap.size rfl 40 (cells18 f) _ hO Tryd.underlying40 rfl (by kernel_rfl) ?_) | (go_at_call 41; refine HCK.out.mono ?_; rintro e w1 ⟨rfl, hb1⟩))
        go_ret2
        exact SEm.err HE.out (by omega) (below_on hb hb1)
      · have hr2 : 4096 < n := by omega
        clear hr
        go_enter Tryd.func30, Tryd.ntmps30
        go_upto_region 1 with fail
        rw [← HW.out]
        go_wp2_with (first | (refine wl_load (o := ⟨some 13, _, _, _, _, _⟩) rfl 40 _ rfl w.heap.size rfl 40 (cells18 f) _ hO Tryd.underlying40 rfl (by kernel_rfl) ?_) | (go_at_call 41; refine HCK.out.mono ?_; rintro e w1 ⟨rfl, hb1⟩))
        go_ret2
        exact SEm.err HE.out (by omega) (below_on hb hb1)
    · have HE := hide (emitErr_ok H0.out hr)
      obtain ⟨n, rfl⟩ := Int.eq_ofNat_of_zero_le (show 0 ≤ n by omega)
      have hn2 : n ≤ 4096 := by omega
      clear hr
      go_enter Tryd.func30, Tryd.ntmps30
      go_upto_region 1 with fail
      rw [← HW.out]
      go_wp2_with (first | (refine wl_load (o := ⟨some 13, _, _, _, _, _⟩) rfl 40 _ rfl w.heap.size rfl 40 (cells18 f) _ hO Tryd.underlying40 rfl (by kernel_rfl) ?_) | (go_at_call 41; refine HCK.out.mono ?_; rintro e w1 ⟨rfl, hb1⟩) | (go_at_call 67; refine (rnew_c s _).mono ?_; rintro e w3 ⟨rfl, hD0, hw3⟩; have HW3 := hide hw3; clear hw3))
      have hO1 := hO.keep hb1
      have hbb1 := below_on hb hb1
      have hz3 : w3.heap.size = w1.heap.size + 1 := by rw [HW3.out]; simp
      have hb3 : Below w.heap.size w w3 := by rw [HW3.out]; exact hbb1.alloc hbb1.size _
      have hO3 : Blk w3 w.heap.size 40 (cells18 f) := by rw [HW3.out]; exact hO1.alloc _
      have hgO := hO1.lt
      have hsz := hbb1.size
      clear hb hb1 hO1 hO hbb1 HW3 hlt0 HCK
      obtain ⟨gO, hgOe⟩ : ∃ d, d = w.heap.size := ⟨_, rfl⟩
      rw [← hgOe] at hO3 hgO ⊢
      obtain ⟨D, hDe⟩ : ∃ d, d = w1.heap.size := ⟨_, rfl⟩
      rw [← hDe] at hD0 hz3 hgO ⊢
      obtain ⟨base, hBe⟩ : ∃ d, d = D + 1 := ⟨_, rfl⟩
      have hzb : base ≤ w3.heap.size := by omega
      have hDB : D < base := by omega
      have hOD : gO ≠ D := by omega
      have hwB : w.heap.size ≤ D := by omega
      clear hDe hBe hz3 hgOe hsz
      go_loopw [9, 10] (fun ov iv wr => ∃ (i : Nat) (A : Option Addr) (c : Nat), i ≤ n ∧ iv = .int .i64 i ∧ ov = .slice A i c ∧ Ow ePu wr base 59 A i c (emiF f s i).1 ∧ Rr wr D (emiF f s i).2 ∧ Blk wr gO 40 (cells18 f) ∧ Below w.heap.size w wr ∧ base ≤ wr.heap.size) (fun _ iv _ => n - (intOf iv).toNat)
      case atStart => exact ⟨0, none, 0, by omega, rfl, rfl, Ow.nil _ _ _, hD0, hO3, hb3, hzb⟩
      case round =>
        clear hD0 hb3 hzb hO3
        obtain ⟨i, A, c, hi, rfl, rfl, o1, hD, hO3, hbr, hzb⟩ := hrel
        by_cases hlt : i < n
        · obtain ⟨xs, t, het⟩ : ∃ a b, emiF f s i = (a, b) := ⟨_, _, rfl⟩
          rw [het] at o1 hD
          simp only at o1 hD
          have HET := hide het
          clear het
          have HB := hide (rbelow_c D t 2 wr hD (by omega) (by omega))
          go_upto_region 11 with (go_at_call 70; refine HB.out.mono ?_; rintro e w1 ⟨rfl, hD1, hg1⟩)
          obtain ⟨bb, hbb⟩ : ∃ q : Int, q = (bel t 2 : Nat) := ⟨_, rfl⟩
          rw [← hbb]
          have k2 : PR wr gO w1.heap.size D (nx t) f ⟨bb, false, 2, 0, true⟩ (w1.alloc (.cells #[.int .i64 bb, .bool false, .int .i64 2, .int .i64 0, .bool true] 59)) := ⟨(hO3.grown hg1 (by simpa using hOD)).alloc _, Blk.new w1 59 _, Blk.alloc hD1 _, grownBy_alloc hg1 _⟩
          have g : PQ wr gO w1.heap.size D := ⟨hO3.lt, hg1.size, Blk.lt hD, hOD⟩
          obtain ⟨w2, hw2⟩ : ∃ q, q = w1.alloc (.cells #[.int .i64 bb, .bool false, .int .i64 2, .int .i64 0, .bool true] 59) := ⟨_, rfl⟩
          rw [← hw2] at k2 ⊢
          have HBB := hide hbb
          obtain ⟨gP, hgP⟩ : ∃ q, q = w1.heap.size := ⟨_, rfl⟩
          rw [← hgP] at k2 g ⊢
          clear hw2 hbb hD1 hg1 HB hgP hD hO3
          have hOP : ¬ gO = gP := by have := g.o; have := g.p; omega
          have hPO : ¬ gP = gO := by have := g.o; have := g.p; omega
          have HB := hide (rbelow_c D (nx t) 2 w2 k2.d (by omega) (by omega))
          go_upto_region 12 with (go_at_call 70; refine HB.out.mono ?_; rintro e w3 ⟨rfl, hD3, hg3⟩; have h3 := k2.draw g hD3 hg3; have p1 := h3.p.cell 1; have pf1 := h3.p.frozen 1; simp only [puC, List.getElem?_toArray, List.getElem?_cons_zero, List.getElem?_cons_succ] at p1)
          obtain ⟨bt, hbt⟩ : ∃ q : Bool, q = ((bel (nx t) 2 : Int) == 1) := ⟨_, rfl⟩
          rw [← hbt]
          have k4 := h3.setP g 1 (.bool bt) (p' := ⟨bb, bt, 2, 0, true⟩) (by simp [puC])
          obtain ⟨w4, hw4⟩ : ∃ q, q = w3.setCell ⟨gP, 1, none⟩ (.bool bt) := ⟨_, rfl⟩
          rw [← hw4] at k4 ⊢
          rw [pbel1] at hbt
          have HBT := hide hbt
          clear hw4 hbt h3 p1 pf1 hD3 hg3 HB k2
          have o0 := (k4.o.cell 0).trans (cells18_get f (by omega))
          by_cases h1 : f 0 = 1
          · have HPUL := hide (pulF_one (s := t) h1)
            have hk1 : (f 0 == 1) = true := by simpa using h1
            have hk2 : (f 0 == 2) = false := by simp; omega
            clear h1
            have hcls := rweighed_c D (nx (nx t)) gO 1 3 40 (cells18 f) (clsOf f) w4 k4.d k4.o hOD (inrow_cls f) rfl (by omega) (by omega) (check_cls H0.out)
            obtain ⟨cc, hcc⟩ : ∃ q : Nat, q = wgt (clsOf f) (bel (nx (nx t)) 256) := ⟨_, rfl⟩
            rw [← hcc] at hcls HPUL
            have hc2 : cc ≤ 2 := by rw [hcc]; have := wgt_lt (ws := clsOf f) (bel (nx (nx t)) 256) (by simp [clsOf]); simp [clsOf] at this; simp [clsOf]; omega
            have hci0 : (0 : Int) ≤ (cc : Int) := by omega
            have hci1 : (cc : Int) < 3 := by omega
            have HCLS := hide hcls
            clear hcls hcc
            go_upto_region 14 with (go_at_call 71; refine HCLS.out.mono ?_; rintro e w8 ⟨rfl, hD8, hg8⟩; have h8 := k4.draw g hD8 hg8; have p2 := h8.p.cell 2; have pf2 := h8.p.frozen 2; simp only [puC, List.getElem?_toArray, List.getElem?_cons_zero, List.getElem?_cons_succ] at p2)
            have k5 := h8.setP g 2 (.int .i64 (cc : Int)) (p' := ⟨bb, bt, cc, 0, true⟩) (by simp [puC])
            obtain ⟨w5, hw5⟩ : ∃ q, q = w8.setCell ⟨gP, 2, none⟩ (.int .i64 (cc : Int)) := ⟨_, rfl⟩
            rw [← hw5] at k5 ⊢
            clear hw5 h8 p2 pf2 hD8 hg8 HCLS k4 o0
            have hrow := rweighed_c D (nx (nx (nx t))) gO (4 + cc * 4) 4 40 (cells18 f) (rowOf f cc) w5 k5.d k5.o hOD (inrow_row f hc2) rfl (by omega) (by omega) (check_row H0.out (by omega))
            obtain ⟨ph, hph⟩ : ∃ q : Nat, q = wgt (rowOf f cc) (bel (nx (nx (nx t))) 256) := ⟨_, rfl⟩
            rw [← hph] at hrow
            have hph3 : ph ≤ 3 := by rw [hph]; have := wgt_lt (ws := rowOf f cc) (bel (nx (nx (nx t))) 256) (by simp [rowOf]); simp [rowOf] at this; simp [rowOf]; omega
            have HPH := hide hph
            have HROW := hide hrow
            clear hrow hph
            have p2 := k5.p.cell 2
            simp only [puC, List.getElem?_toArray, List.getElem?_cons_zero, List.getElem?_cons_succ] at p2
            go_upto_region 15 with (go_at_call 71; refine HROW.out.mono ?_; rintro e w6 ⟨rfl, hD6, hg6⟩; have h6 := k5.draw g hD6 hg6; have p3 := h6.p.cell 3; have pf3 := h6.p.frozen 3; simp only [puC, List.getElem?_toArray, List.getElem?_cons_zero, List.getElem?_cons_succ] at p3)
            have k7 := h6.setP g 3 (.int .i64 (ph : Int)) (p' := ⟨bb, bt, cc, ph, true⟩) (by simp [puC])
            obtain ⟨w7, hw7⟩ : ∃ q, q = w6.setCell ⟨gP, 3, none⟩ (.int .i64 (ph : Int)) := ⟨_, rfl⟩
            rw [← hw7] at k7 ⊢
            clear hw7 h6 p3 pf3 hD6 hg6 HROW p2 k5
            have o0 := (k7.o.cell 0).trans (cells18_get f (by omega))
            have p0 := k7.p.cell 0
            have p1 := k7.p.cell 1
            have p2 := k7.p.cell 2
            have p3 := k7.p.cell 3
            have p4 := k7.p.cell 4
            simp only [puC, List.getElem?_toArray, List.getElem?_cons_zero, List.getElem?_cons_succ] at p0 p1 p2 p3 p4
            have oA := o1.grown k7.f (fun g eg e => by have := (o1.lt eg).1; injection e with e; omega)
            have hzW : base ≤ w7.heap.size := Nat.le_trans hzb k7.f.size
            have hbW : Below w.heap.size w w7 := below_grown hbr k7.f hwB (Nat.le_refl _)
            have hR := Rd.newAt (e := ePu) w7 59 (⟨bb, bt, cc, ph, true⟩ : Pu) (puC ⟨bb, bt, cc, ph, true⟩) rfl w7.heap.size rfl
            have hAD : some D ≠ A.map (·.block) := fun e => by have := (o1.block _ e.symm).1; omega
            have hAO : some gO ≠ A.map (·.block) := fun e => by have := (o1.block _ e.symm).1; have := g.o; omega
            simp only [puC] at hR
            go_upto_region 22 with fail
            go_wp2_with (at_builtin; refine wl_app ePu _ rfl (.tmp 68) (.tmp 70) _ rfl base 59 (.agg #[.int .i64 0, .bool false, .int .i64 0, .int .i64 0, .bool false]) 40 Tryd.underlying22 info_pu rfl (by omega) _ _ _ _ (by rfl) (oA.alloc _) _ 1 1 [⟨bb, bt, cc, ph, true⟩] (by rfl) _ hR (by omega) (by simp; omega) ?_; intro A5 c5 w9 o9 hg9 hA9)
            have e1 := HBB.out
            have e2 := HBT.out
            have e3 := HPH.out
            have HEM := hide (show emiF f s (i + 1) = (xs ++ [⟨bb, bt, cc, ph, true⟩], nx (nx (nx (nx t)))) from emiF_succ HET.out (by rw [HPUL.out, ← e1, ← e2, ← e3]))
            clear e1 e2 e3
            go_roundw
            case rel => exact ⟨i + 1, A5, c5, by omega, by go_num, rfl, by rw [HEM.out]; exact o9, by rw [HEM.out]; exact Blk.grown (Blk.alloc k7.d _) hg9 hAD, (k7.o.alloc _).grown hg9 (by have := o1.block; intro e; exact hAO e), below_app (hbW.alloc hbW.size _) (oA.alloc _) hg9 (by omega) (Nat.le_refl _), by have := hg9.size; simp at this; omega⟩
            case measure => simp [intOf] <;> omega
          · have hk1 : (f 0 == 1) = false := by simpa using h1
            obtain ⟨w5, hw5⟩ : ∃ q, q = w4 := ⟨_, rfl⟩
            rw [← hw5] at k4 o0 ⊢
            clear hw5
            have k5 := k4
            clear k4
            by_cases h2 : f 0 = 2
            · have HPUL := hide (pulF_two (s := t) h2)
              have hk2 : (f 0 == 2) = true := by simpa using h2
              clear h1 h2
              go_upto_region 14 with fail
              clear o0
              have hrow := rweighed_c D (nx (nx t)) gO 12 4 40 (cells18 f) (rowOf f 2) w5 k5.d k5.o hOD (inrow_row f (c := 2) (by omega)) rfl (by omega) (by omega) (check_row H0.out (by omega))
              obtain ⟨ph, hph⟩ : ∃ q : Nat, q = wgt (rowOf f 2) (bel (nx (nx t)) 256) := ⟨_, rfl⟩
              rw [← hph] at hrow
              have hph3 : ph ≤ 3 := by rw [hph]; have := wgt_lt (ws := rowOf f 2) (bel (nx (nx t)) 256) (by simp [rowOf]); simp [rowOf] at this; simp [rowOf]; omega
              have HPH := hide hph
              have HROW := hide hrow
              clear hrow hph
              have p2 := k5.p.cell 2
              simp only [puC, List.getElem?_toArray, List.getElem?_cons_zero, List.getElem?_cons_succ] at p2
              go_upto_region 15 with (go_at_call 71; refine HROW.out.mono ?_; rintro e w6 ⟨rfl, hD6, hg6⟩; have h6 := k5.draw g hD6 hg6; have p3 := h6.p.cell 3; have pf3 := h6.p.frozen 3; simp only [puC, List.getElem?_toArray, List.getElem?_cons_zero, List.getElem?_cons_succ] at p3)
              have k7 := h6.setP g 3 (.int .i64 (ph : Int)) (p' := ⟨bb, bt, 2, ph, true⟩) (by simp [puC])
              obtain ⟨w7, hw7⟩ : ∃ q, q = w6.setCell ⟨gP, 3, none⟩ (.int .i64 (ph : Int)) := ⟨_, rfl⟩
              rw [← hw7] at k7 ⊢
              clear hw7 h6 p3 pf3 hD6 hg6 HROW p2 k5
              have o0 := (k7.o.cell 0).trans (cells18_get f (by omega))
              have p4 := k7.p.cell 4
              have pf4 := k7.p.frozen 4
              simp only [puC, List.getElem?_toArray, List.getElem?_cons_zero, List.getElem?_cons_succ] at p4
              go_upto_region 17 with fail
              have k8 := k7.setP g 4 (.bool false) (p' := ⟨bb, bt, 2, ph, false⟩) (by simp [puC])
              obtain ⟨w8, hw8⟩ : ∃ q, q = w7.setCell ⟨gP, 4, none⟩ (.bool false) := ⟨_, rfl⟩
              rw [← hw8] at k8 ⊢
              clear hw8 k7 p4 pf4 o0
              go_wp2
              go_loopw [12] (fun jv wq => ∃ j : Nat, j ≤ ph ∧ jv = .int .i64 j ∧ PR wr gO gP D (seenF (f 16) (nx (nx (nx t))) j).2 f ⟨bb, bt, 2, ph, (seenF (f 16) (nx (nx (nx t))) j).1⟩ wq) (fun jv _ => ph - (intOf jv).toNat)
              case atStart => exact ⟨0, by omega, rfl, k8⟩
              case round =>
                clear k8
                obtain ⟨j, hj, rfl, k8⟩ := hrel
                obtain ⟨v, t2, hvt⟩ : ∃ v t2, seenF (f 16) (nx (nx (nx t))) j = (v, t2) := ⟨_, _, rfl⟩
                rw [hvt] at k8
                simp only at k8
                have p3 := k8.p.cell 3
                simp only [puC, List.getElem?_toArray, List.getElem?_cons_zero, List.getElem?_cons_succ] at p3
                by_cases hltj : j < ph
                · have HSN := hide (show seenF (f 16) (nx (nx (nx t))) (j + 1) = (v || decide ((bel t2 256 : Int) < f 16), nx t2) by rw [seenF, hvt]; rfl)
                  clear hvt
                  have o16 := (k8.o.cell 16).trans (cells18_get f (by omega))
                  have hB := rbelow_c D t2 256 wr.drew k8.d (by omega) (by omega)
                  obtain ⟨u, hu⟩ : ∃ u : Int, u = (bel t2 256 : Int) := ⟨_, rfl⟩
                  rw [← hu] at hB HSN
                  have HB := hide hB
                  clear hB hu
                  have hODs : some gO ≠ some D := by simpa using hOD
                  go_upto_region 20 with fail
                  go_region_held3 (fun w' => w'.cell? ⟨gO, 16, none⟩ = some (.int .i64 (f 16))) (first | exact o16 | exact hg9.cell o16 hODs) (first | (go_at_call 70; refine HB.out.mono ?_; rintro e w9 ⟨rfl, hD9, hg9⟩))
                  have h9 := k8.drew.draw g hD9 hg9
                  have p4 := h9.p.cell 4
                  have pf4 := h9.p.frozen 4
                  simp only [puC, List.getElem?_toArray, List.getElem?_cons_zero, List.getElem?_cons_succ] at p4
                  clear p3 o16 HB
                  by_cases hit : u < f 16
                  · have HSN2 := hide (show seenF (f 16) (nx (nx (nx t))) (j + 1) = (true, nx t2) by rw [HSN.out, decide_eq_true hit, Bool.or_true])
                    go_wp2
                    go_roundw
                    case rel => exact ⟨j + 1, by omega, by go_num, by rw [HSN2.out]; exact h9.setP g 4 _ (by simp [puC])⟩
                    case measure => simp [intOf] <;> omega
                  · have HSN2 := hide (show seenF (f 16) (nx (nx (nx t))) (j + 1) = (v, nx t2) by rw [HSN.out, decide_eq_false hit, Bool.or_false])
                    go_wp2
                    go_roundw
                    case rel => exact ⟨j + 1, by omega, by go_num, by rw [HSN2.out]; exact h9⟩
                    case measure => simp [intOf] <;> omega
                · obtain rfl : j = ph := by omega
                  have HSN := hide hvt
                  clear hvt p3
                  have p0 := k8.p.cell 0
                  have p1 := k8.p.cell 1
                  have p2 := k8.p.cell 2
                  have p3 := k8.p.cell 3
                  have p4 := k8.p.cell 4
                  simp only [puC, List.getElem?_toArray, List.getElem?_cons_zero, List.getElem?_cons_succ] at p0 p1 p2 p3 p4
                  have oA := o1.grown k8.f (fun g eg e => by have := (o1.lt eg).1; injection e with e; omega)
                  have hzW : base ≤ wr.heap.size := Nat.le_trans hzb k8.f.size
                  have hbW : Below w.heap.size w wr := below_grown hbr k8.f hwB (Nat.le_refl _)
                  have hR := Rd.newAt (e := ePu) wr 59 (⟨bb, bt, 2, j, v⟩ : Pu) (puC ⟨bb, bt, 2, j, v⟩) rfl wr.heap.size rfl
                  have hAD : some D ≠ A.map (·.block) := fun e => by have := (o1.block _ e.symm).1; omega
                  have hAO : some gO ≠ A.map (·.block) := fun e => by have := (o1.block _ e.symm).1; have := g.o; omega
                  simp only [puC] at hR
                  go_upto_region 22 with fail
                  go_wp2_with (at_builtin; refine wl_app ePu _ rfl (.tmp 68) (.tmp 70) _ rfl base 59 (.agg #[.int .i64 0, .bool false, .int .i64 0, .int .i64 0, .bool false]) 40 Tryd.underlying22 info_pu rfl (by omega) _ _ _ _ (by rfl) (oA.alloc _) _ 1 1 [⟨bb, bt, 2, j, v⟩] (by rfl) _ hR (by omega) (by simp; omega) ?_; intro A5 c5 w9 o9 hg9 hA9)
                  have e1 := HBB.out
                  have e2 := HBT.out
                  have e3 := HPH.out
                  have e4 := HSN.out
                  have HEM := hide (show emiF f s (i + 1) = (xs ++ [⟨bb, bt, 2, j, v⟩], t2) from emiF_succ HET.out (by rw [HPUL.out, ← e1, ← e2, ← e3, e4]))
                  clear e1 e2 e3
                  go_roundw
                  case rel => exact ⟨i + 1, A5, c5, by omega, by go_num, rfl, by rw [HEM.out]; exact o9, by rw [HEM.out]; exact Blk.grown (Blk.alloc k8.d _) hg9 hAD, (k8.o.alloc _).grown hg9 (by have := o1.block; intro e; exact hAO e), below_app (hbW.alloc hbW.size _) (oA.alloc _) hg9 (by omega) (Nat.le_refl _), by have := hg9.size; simp at this; omega⟩
                  case measure => simp [intOf] <;> omega
            · have HPUL := hide (pulF_zero (s := t) h1 h2)
              have hk2 : (f 0 == 2) = false := by simpa using h2
              clear h1 h2
              go_upto_region 14 with fail
              clear o0
              have hrow := rweighed_c D (nx (nx t)) gO 12 4 40 (cells18 f) (rowOf f 2) w5 k5.d k5.o hOD (inrow_row f (c := 2) (by omega)) rfl (by omega) (by omega) (check_row H0.out (by omega))
              obtain ⟨ph, hph⟩ : ∃ q : Nat, q = wgt (rowOf f 2) (bel (nx (nx t)) 256) := ⟨_, rfl⟩
              rw [← hph] at hrow
              have hph3 : ph ≤ 3 := by rw [hph]; have := wgt_lt (ws := rowOf f 2) (bel (nx (nx t)) 256) (by simp [rowOf]); simp [rowOf] at this; simp [rowOf]; omega
              have HPH := hide hph
              have HROW := hide hrow
              clear hrow hph
              have p2 := k5.p.cell 2
              simp only [puC, List.getElem?_toArray, List.getElem?_cons_zero, List.getElem?_cons_succ] at p2
              go_upto_region 15 with (go_at_call 71; refine HROW.out.mono ?_; rintro e w6 ⟨rfl, hD6, hg6⟩; have h6 := k5.draw g hD6 hg6; have p3 := h6.p.cell 3; have pf3 := h6.p.frozen 3; simp only [puC, List.getElem?_toArray, List.getElem?_cons_zero, List.getElem?_cons_succ] at p3)
              have k7 := h6.setP g 3 (.int .i64 (ph : Int)) (p' := ⟨bb, bt, 2, ph, true⟩) (by simp [puC])
              obtain ⟨w7, hw7⟩ : ∃ q, q = w6.setCell ⟨gP, 3, none⟩ (.int .i64 (ph : Int)) := ⟨_, rfl⟩
              rw [← hw7] at k7 ⊢
              clear hw7 h6 p3 pf3 hD6 hg6 HROW p2 k5
              have o0 := (k7.o.cell 0).trans (cells18_get f (by omega))
              have p0 := k7.p.cell 0
              have p1 := k7.p.cell 1
              have p2 := k7.p.cell 2
              have p3 := k7.p.cell 3
              have p4 := k7.p.cell 4
              simp only [puC, List.getElem?_toArray, List.getElem?_cons_zero, List.getElem?_cons_succ] at p0 p1 p2 p3 p4
              have oA := o1.grown k7.f (fun g eg e => by have := (o1.lt eg).1; injection e with e; omega)
              have hzW : base ≤ w7.heap.size := Nat.le_trans hzb k7.f.size
              have hbW : Below w.heap.size w w7 := below_grown hbr k7.f hwB (Nat.le_refl _)
              have hR := Rd.newAt (e := ePu) w7 59 (⟨bb, bt, 2, ph, true⟩ : Pu) (puC ⟨bb, bt, 2, ph, true⟩) rfl w7.heap.size rfl
              have hAD : some D ≠ A.map (·.block) := fun e => by have := (o1.block _ e.symm).1; omega
              have hAO : some gO ≠ A.map (·.block) := fun e => by have := (o1.block _ e.symm).1; have := g.o; omega
              simp only [puC] at hR
              go_upto_region 22 with fail
              go_wp2_with (at_builtin; refine wl_app ePu _ rfl (.tmp 68) (.tmp 70) _ rfl base 59 (.agg #[.int .i64 0, .bool false, .int .i64 0, .int .i64 0, .bool false]) 40 Tryd.underlying22 info_pu rfl (by omega) _ _ _ _ (by rfl) (oA.alloc _) _ 1 1 [⟨bb, bt, 2, ph, true⟩] (by rfl) _ hR (by omega) (by simp; omega) ?_; intro A5 c5 w9 o9 hg9 hA9)
              have e1 := HBB.out
              have e2 := HBT.out
              have e3 := HPH.out
              have HEM := hide (show emiF f s (i + 1) = (xs ++ [⟨bb, bt, 2, ph, true⟩], nx (nx (nx t))) from emiF_succ HET.out (by rw [HPUL.out, ← e1, ← e2, ← e3]))
              clear e1 e2 e3
              go_roundw
              case rel => exact ⟨i + 1, A5, c5, by omega, by go_num, rfl, by rw [HEM.out]; exact o9, by rw [HEM.out]; exact Blk.grown (Blk.alloc k7.d _) hg9 hAD, (k7.o.alloc _).grown hg9 (by have := o1.block; intro e; exact hAO e), below_app (hbW.alloc hbW.size _) (oA.alloc _) hg9 (by omega) (Nat.le_refl _), by have := hg9.size; simp at this; omega⟩
              case measure => simp [intOf] <;> omega
        · obtain rfl : i = n := by omega
          have HR := hide o1.rd
          go_wp2
          go_ret2
          exact SEm.ok HE.out hbr HR.out
  · have h2 := check_two h0
    rw [h2] at hck
    have HCK := hide hck
    have HE := hide (emitErr_check (n := n) h2)
    clear hck h0 h2
    go_enter Tryd.func30, Tryd.ntmps30
    go_upto_region 1 with fail
    rw [← HW.out]
    go_wp2_with (first | (refine wl_load (o := ⟨some 13, _, _, _, _, _⟩) rfl 40 _ rfl w.heap.size rfl 40 (cells18 f) _ hO Tryd.underlying40 rfl (by kernel_rfl) ?_) | (go_at_call 41; refine HCK.out.mono ?_; rintro e w1 ⟨rfl, hb1⟩))
    go_ret2
    exact SEm.err HE.out (by omega) (below_on hb hb1)
end Go.Proofs.YtddajmagdjkodaaDoor
