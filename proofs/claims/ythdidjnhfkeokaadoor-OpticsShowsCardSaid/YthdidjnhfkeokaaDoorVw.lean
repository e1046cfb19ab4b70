/- Contract of optics.pulse. -/
import Derived.Test.YthdidjnhfkeokaaDoorVv
namespace Go.Proofs.YthdidjnhfkeokaaDoor
open Go.RowKit

def puC (p : Pu) : Array Value := #[.int .i64 p.b, .bool p.bit, .int .i64 p.cl, .int .i64 p.ph, .bool p.seen]
/-- The blocks of a call of pulse. -/
structure PS (w : World) (gO gZ gP D s : Nat) (f : Nat → Int) (p : Pu) (W : World) : Prop where
  o : Blk W gO 26 (cells18 f)
  z : Blk W gZ 55 #[.int .i64 0, .bool false, .int .i64 0, .int .i64 0, .bool false]
  p : Blk W gP 55 (puC p)
  d : Dr W D s
  f : w.grownBy W (some D)
structure PG (w : World) (gO gZ gP D : Nat) : Prop where
  o : gO = w.heap.size
  z : gZ = w.heap.size + 1
  p : gP = w.heap.size + 2
  d : D < w.heap.size
section
variable {w W W' : World} {gO gZ gP D s s' : Nat} {f : Nat → Int} {p p' : Pu}
theorem PS.draw (h : PS w gO gZ gP D s f p W) (g : PG w gO gZ gP D) (hd : Dr W' D s') (hg : W.grownBy W' (some D)) : PS w gO gZ gP D s' f p W' := by
  obtain ⟨g1, g2, g3, g4⟩ := g
  exact ⟨h.o.grown hg (by simp; omega), h.z.grown hg (by simp; omega), h.p.grown hg (by simp; omega), hd, h.f.trans hg⟩
theorem PS.setP (h : PS w gO gZ gP D s f p W) (g : PG w gO gZ gP D) (i : Nat) (v : Value) (hx : (puC p).setIfInBounds i v = puC p') : PS w gO gZ gP D s f p' (W.setCell ⟨gP, i, none⟩ v) := by
  obtain ⟨g1, g2, g3, g4⟩ := g
  exact ⟨h.o.far (by simp; omega) v, h.z.far (by simp; omega) v, hx ▸ h.p.set_ i v, Blk.far h.d (by simp; omega) v, grownBy_set h.f (by simp; omega) v⟩
theorem PS.fin (h : PS w gO gZ gP D s f p W) (g : PG w gO gZ gP D) (hg : W.grownBy W' (some gZ)) : Dr W' D s ∧ w.grownBy W' (some D) := by
  obtain ⟨g1, g2, g3, g4⟩ := g
  refine ⟨Blk.grown h.d hg (by simp; omega), ⟨hg.os.trans h.f.os, hg.tape.trans h.f.tape, hg.output.trans h.f.output, Nat.le_trans h.f.size hg.size, fun i hi hne => ?_⟩⟩
  exact (hg.block i (Nat.lt_of_lt_of_le hi h.f.size) (by simp; omega)).trans (h.f.block i hi hne)
end
theorem part_bounds {n : Int} (h : part n = true) : 0 ≤ n ∧ n ≤ 256 := by simpa [part] using h
theorem wts_parts {l : List Int} (h : wts l = true) : ∀ x ∈ l, 0 ≤ x ∧ x ≤ 256 := fun x hx => by
  unfold wts at h
  rw [Bool.and_eq_true] at h
  exact part_bounds (List.all_eq_true.1 h.1 x hx)
theorem check_ok {f : Nat → Int} (h : checkErr f = 0) : okA f = true ∧ rowsOk f 3 = true := by
  unfold checkErr at h
  split at h
  · rename_i ho
    unfold okO at ho
    simp only [Bool.and_eq_true] at ho
    exact ⟨ho.1.1.1, ho.1.1.2⟩
  · omega
theorem check_kind {f : Nat → Int} (h : checkErr f = 0) : 0 ≤ f 0 ∧ f 0 ≤ 2 := by
  have := (check_ok h).1
  unfold okA at this
  simp only [Bool.and_eq_true, decide_eq_true_eq] at this
  exact this.1.1.1
theorem check_cls {f : Nat → Int} (h : checkErr f = 0) : ∀ x ∈ clsOf f, 0 ≤ x ∧ x ≤ 256 := by
  have := (check_ok h).1
  unfold okA at this
  simp only [Bool.and_eq_true] at this
  exact wts_parts this.1.1.2
theorem check_row {f : Nat → Int} (h : checkErr f = 0) {c : Nat} (hc : c ≤ 2) : ∀ x ∈ rowOf f c, 0 ≤ x ∧ x ≤ 256 :=
  wts_parts (List.all_eq_true.1 (check_ok h).2 c (by simp; omega))
theorem inrow_cls (f : Nat → Int) : InRow (cells18 f) 1 (clsOf f) := fun j x hx => by
  match j, hx with
  | 0, hx => simp [clsOf] at hx; subst hx; rfl
  | 1, hx => simp [clsOf] at hx; subst hx; rfl
  | 2, hx => simp [clsOf] at hx; subst hx; rfl
  | j + 3, hx => simp [clsOf] at hx
theorem inrow_row (f : Nat → Int) {c : Nat} (hc : c ≤ 2) : InRow (cells18 f) (4 + c * 4) (rowOf f c) := fun j x hx => by
  have hj : j < 4 := by have := (List.getElem?_eq_some_iff.1 hx).1; simpa [rowOf] using this
  rw [cells18_get f (by omega)]
  match j, hj, hx with
  | 0, _, hx => simp [rowOf] at hx; subst hx; rw [show 4 + c * 4 + 0 = 4 + 4 * c by omega]
  | 1, _, hx => simp [rowOf] at hx; subst hx; rw [show 4 + c * 4 + 1 = 5 + 4 * c by omega]
  | 2, _, hx => simp [rowOf] at hx; subst hx; rw [show 4 + c * 4 + 2 = 6 + 4 * c by omega]
  | 3, _, hx => simp [rowOf] at hx; subst hx; rw [show 4 + c * 4 + 3 = 7 + 4 * c by omega]
theorem pbel1 (s : Nat) : ((bel s 2 : Int) == 1) = decide (bel s 2 = 1) := by
  show decide ((bel s 2 : Int) = 1) = _
  rw [decide_eq_decide]; omega
theorem pulF_one {f : Nat → Int} {s : Nat} (h : f 0 = 1) : pulF f s = (⟨(bel s 2 : Nat), decide (bel (nx s) 2 = 1), (wgt (clsOf f) (bel (nx (nx s)) 256) : Nat), (wgt (rowOf f (wgt (clsOf f) (bel (nx (nx s)) 256))) (bel (nx (nx (nx s))) 256) : Nat), true⟩, nx (nx (nx (nx s)))) := by
  unfold pulF clsF phF; rw [if_pos h, if_neg (by omega), if_neg (by omega)]
theorem pulF_two {f : Nat → Int} {s : Nat} (h : f 0 = 2) : pulF f s = (⟨(bel s 2 : Nat), decide (bel (nx s) 2 = 1), 2, (wgt (rowOf f 2) (bel (nx (nx s)) 256) : Nat), (seenF (f 16) (nx (nx (nx s))) (wgt (rowOf f 2) (bel (nx (nx s)) 256))).1⟩, (seenF (f 16) (nx (nx (nx s))) (wgt (rowOf f 2) (bel (nx (nx s)) 256))).2) := by
  unfold pulF clsF phF; rw [if_neg (show ¬ f 0 = 1 by omega), if_pos h, if_pos h]; rfl
theorem pulF_zero {f : Nat → Int} {s : Nat} (h1 : ¬ f 0 = 1) (h2 : ¬ f 0 = 2) : pulF f s = (⟨(bel s 2 : Nat), decide (bel (nx s) 2 = 1), 2, (wgt (rowOf f 2) (bel (nx (nx s)) 256) : Nat), true⟩, nx (nx (nx s))) := by
  unfold pulF clsF phF; rw [if_neg h1, if_neg h2, if_neg h2]; rfl
def SPul (f : Nat → Int) (D s : Nat) (w : World) (e : Ending) (w' : World) : Prop :=
  e = .returned (.agg (puC (pulF f s).1)) ∧ Dr w' D (pulF f s).2 ∧ w.grownBy w' (some D)

set_option maxRecDepth 100000 in
set_option maxHeartbeats 6400000 in
theorem pulse_c (f : Nat → Int) (hok : checkErr f = 0) (D s : Nat) (w : World) (hD : Dr w D s) :
    Calls Tryd.prog 91 #[.agg (cells18 f), .pointer (some ⟨D, 0, none⟩)] w (SPul f D s w) := by
  have h : PS w w.heap.size (w.heap.size + 1) (w.heap.size + 2) D s f ⟨0, false, 2, 0, true⟩ (((w.alloc (.cells (cells18 f) 26)).alloc (.cells #[.int .i64 0, .bool false, .int .i64 0, .int .i64 0, .bool false] 55)).alloc (.cells #[.int .i64 0, .bool false, .int .i64 2, .int .i64 0, .bool true] 55)) :=
    ⟨((Blk.newAt w 26 _ w.heap.size rfl).alloc _).alloc _, (Blk.newAt (w.alloc (.cells (cells18 f) 26)) 55 _ (w.heap.size + 1) (by simp)).alloc _, Blk.newAt ((w.alloc (.cells (cells18 f) 26)).alloc (.cells #[.int .i64 0, .bool false, .int .i64 0, .int .i64 0, .bool false] 55)) 55 _ (w.heap.size + 2) (by simp), Blk.alloc (Blk.alloc (Blk.alloc hD _) _) _, grownBy_alloc (grownBy_alloc (grownBy_alloc (World.grownBy.refl w _) _) _) _⟩
  have g : PG w w.heap.size (w.heap.size + 1) (w.heap.size + 2) D := ⟨rfl, rfl, rfl, Blk.lt hD⟩
  go_enter Tryd.func91, Tryd.ntmps91
  go_upto_region 2 with fail
  obtain ⟨W, hW⟩ : ∃ q, q = (((w.alloc (.cells (cells18 f) 26)).alloc (.cells #[.int .i64 0, .bool false, .int .i64 0, .int .i64 0, .bool false] 55)).alloc (.cells #[.int .i64 0, .bool false, .int .i64 2, .int .i64 0, .bool true] 55)) := ⟨_, rfl⟩
  rw [← hW] at h ⊢
  clear hW hD
  rw [show w.heap.size + 1 + 1 = w.heap.size + 2 from rfl]
  obtain ⟨gO, hgO⟩ : ∃ q, q = w.heap.size := ⟨_, rfl⟩
  obtain ⟨gZ, hgZ⟩ : ∃ q, q = w.heap.size + 1 := ⟨_, rfl⟩
  obtain ⟨gP, hgP⟩ : ∃ q, q = w.heap.size + 2 := ⟨_, rfl⟩
  rw [← hgZ, ← hgP, ← hgO] at h g ⊢
  clear hgO hgZ hgP
  have hOD : gO ≠ D := by have := g.o; have := g.d; omega
  have hOP : ¬ gO = gP := by have := g.o; have := g.p; omega
  have hPO : ¬ gP = gO := by have := g.o; have := g.p; omega
  have HB := hide (below_c D s 2 W h.d (by omega) (by omega))
  go_upto_region 3 with (go_at_call 102; refine HB.out.mono ?_; rintro e w1 ⟨rfl, hD1, hg1⟩; have h1 := h.draw g hD1 hg1; have p0 := h1.p.cell 0; have pf0 := h1.p.frozen 0; simp only [puC, List.getElem?_toArray, List.getElem?_cons_zero] at p0)
  obtain ⟨bb, hbb⟩ : ∃ q : Int, q = (bel s 2 : Nat) := ⟨_, rfl⟩
  rw [← hbb]
  have k2 := h1.setP g 0 (.int .i64 bb) (p' := ⟨bb, false, 2, 0, true⟩) (by simp [puC])
  obtain ⟨w2, hw2⟩ : ∃ q, q = w1.setCell ⟨gP, 0, none⟩ (.int .i64 bb) := ⟨_, rfl⟩
  rw [← hw2] at k2 ⊢
  have HBB := hide hbb
  clear hw2 hbb h h1 p0 pf0 hD1 hg1 HB
  have HB := hide (below_c D (nx s) 2 w2 k2.d (by omega) (by omega))
  go_upto_region 4 with (go_at_call 102; refine HB.out.mono ?_; rintro e w3 ⟨rfl, hD3, hg3⟩; have h3 := k2.draw g hD3 hg3; have p1 := h3.p.cell 1; have pf1 := h3.p.frozen 1; simp only [puC, List.getElem?_toArray, List.getElem?_cons_zero, List.getElem?_cons_succ] at p1)
  obtain ⟨bt, hbt⟩ : ∃ q : Bool, q = ((bel (nx s) 2 : Int) == 1) := ⟨_, rfl⟩
  rw [← hbt]
  have k4 := h3.setP g 1 (.bool bt) (p' := ⟨bb, bt, 2, 0, true⟩) (by simp [puC])
  obtain ⟨w4, hw4⟩ : ∃ q, q = w3.setCell ⟨gP, 1, none⟩ (.bool bt) := ⟨_, rfl⟩
  rw [← hw4] at k4 ⊢
  rw [pbel1] at hbt
  have HBT := hide hbt
  clear hw4 hbt h3 p1 pf1 hD3 hg3 HB k2
  have o0 := (k4.o.cell 0).trans (cells18_get f (by omega))
  by_cases h1 : f 0 = 1
  · have HPUL := hide (pulF_one (s := s) h1)
    have hk1 : (f 0 == 1) = true := by simpa using h1
    have hk2 : (f 0 == 2) = false := by simp; omega
    clear h1
    have hcls := weighed_c D (nx (nx s)) gO 1 3 26 (cells18 f) (clsOf f) w4 k4.d k4.o hOD (inrow_cls f) rfl (by omega) (by omega) (check_cls hok)
    obtain ⟨cc, hcc⟩ : ∃ q : Nat, q = wgt (clsOf f) (bel (nx (nx s)) 256) := ⟨_, rfl⟩
    rw [← hcc] at hcls HPUL
    have hc2 : cc ≤ 2 := by rw [hcc]; have := wgt_lt (ws := clsOf f) (bel (nx (nx s)) 256) (by simp [clsOf]); simp [clsOf] at this; simp [clsOf]; omega
    have hci0 : (0 : Int) ≤ (cc : Int) := by omega
    have hci1 : (cc : Int) < 3 := by omega
    have HCLS := hide hcls
    clear hcls hcc
    go_upto_region 6 with (go_at_call 114; refine HCLS.out.mono ?_; rintro e w8 ⟨rfl, hD8, hg8⟩; have h8 := k4.draw g hD8 hg8; have p2 := h8.p.cell 2; have pf2 := h8.p.frozen 2; simp only [puC, List.getElem?_toArray, List.getElem?_cons_zero, List.getElem?_cons_succ] at p2)
    have k5 := h8.setP g 2 (.int .i64 (cc : Int)) (p' := ⟨bb, bt, cc, 0, true⟩) (by simp [puC])
    obtain ⟨w5, hw5⟩ : ∃ q, q = w8.setCell ⟨gP, 2, none⟩ (.int .i64 (cc : Int)) := ⟨_, rfl⟩
    rw [← hw5] at k5 ⊢
    clear hw5 h8 p2 pf2 hD8 hg8 HCLS k4 o0
    have hrow := weighed_c D (nx (nx (nx s))) gO (4 + cc * 4) 4 26 (cells18 f) (rowOf f cc) w5 k5.d k5.o hOD (inrow_row f hc2) rfl (by omega) (by omega) (check_row hok (by omega))
    obtain ⟨ph, hph⟩ : ∃ q : Nat, q = wgt (rowOf f cc) (bel (nx (nx (nx s))) 256) := ⟨_, rfl⟩
    rw [← hph] at hrow
    have hph3 : ph ≤ 3 := by rw [hph]; have := wgt_lt (ws := rowOf f cc) (bel (nx (nx (nx s))) 256) (by simp [rowOf]); simp [rowOf] at this; simp [rowOf]; omega
    have HPH := hide hph
    have HROW := hide hrow
    clear hrow hph
    have p2 := k5.p.cell 2
    simp only [puC, List.getElem?_toArray, List.getElem?_cons_zero, List.getElem?_cons_succ] at p2
    go_upto_region 7 with (go_at_call 114; refine HROW.out.mono ?_; rintro e w6 ⟨rfl, hD6, hg6⟩; have h6 := k5.draw g hD6 hg6; have p3 := h6.p.cell 3; have pf3 := h6.p.frozen 3; simp only [puC, List.getElem?_toArray, List.getElem?_cons_zero, List.getElem?_cons_succ] at p3)
    have k7 := h6.setP g 3 (.int .i64 (ph : Int)) (p' := ⟨bb, bt, cc, ph, true⟩) (by simp [puC])
    obtain ⟨w7, hw7⟩ : ∃ q, q = w6.setCell ⟨gP, 3, none⟩ (.int .i64 (ph : Int)) := ⟨_, rfl⟩
    rw [← hw7] at k7 ⊢
    clear hw7 h6 p3 pf3 hD6 hg6 HROW p2 k5
    have o0 := (k7.o.cell 0).trans (cells18_get f (by omega))
    have p0 := k7.p.cell 0
    have p1 := k7.p.cell 1
    have p2 := k7.p.cell 2
    have p3 := k7.p.cell 3
    have p4 := k7.p.cell 4
    simp only [puC, List.getElem?_toArray, List.getElem?_cons_zero, List.getElem?_cons_succ] at p0 p1 p2 p3 p4
    go_upto_region 14 with fail
    go_wp2_with (refine wl_store (o := ⟨none, _, _, _, _, _⟩) rfl 55 _ _ rfl gZ (puC ⟨bb, bt, cc, ph, true⟩) rfl rfl 55 _ k7.z (by kernel_rfl) rfl (by simp [puC, Value.oneCell']) ?_; intro w9 hZ9 hg9)
    have hfin := k7.fin g hg9
    refine bodyPost_ret (results_cell_row rfl _ _ gZ _ _ (0, 0) _ rfl hZ9 Tryd.underlying55 rfl (by kernel_rfl)) rfl ?_
    have e1 := HBB.out
    have e2 := HBT.out
    have e3 := HPH.out
    unfold SPul
    rw [HPUL.out, ← e1, ← e2, ← e3]
    exact ⟨rfl, hfin.1, hfin.2⟩
  · have hk1 : (f 0 == 1) = false := by simpa using h1
    obtain ⟨w5, hw5⟩ : ∃ q, q = w4 := ⟨_, rfl⟩
    rw [← hw5] at k4 o0 ⊢
    clear hw5
    have k5 := k4
    clear k4
    by_cases h2 : f 0 = 2
    · have HPUL := hide (pulF_two (s := s) h2)
      have hk2 : (f 0 == 2) = true := by simpa using h2
      clear h1 h2
      go_upto_region 6 with fail
      clear o0
      have hrow := weighed_c D (nx (nx s)) gO 12 4 26 (cells18 f) (rowOf f 2) w5 k5.d k5.o hOD (inrow_row f (c := 2) (by omega)) rfl (by omega) (by omega) (check_row hok (by omega))
      obtain ⟨ph, hph⟩ : ∃ q : Nat, q = wgt (rowOf f 2) (bel (nx (nx s)) 256) := ⟨_, rfl⟩
      rw [← hph] at hrow
      have hph3 : ph ≤ 3 := by rw [hph]; have := wgt_lt (ws := rowOf f 2) (bel (nx (nx s)) 256) (by simp [rowOf]); simp [rowOf] at this; simp [rowOf]; omega
      have HPH := hide hph
      have HROW := hide hrow
      clear hrow hph
      have p2 := k5.p.cell 2
      simp only [puC, List.getElem?_toArray, List.getElem?_cons_zero, List.getElem?_cons_succ] at p2
      go_upto_region 7 with (go_at_call 114; refine HROW.out.mono ?_; rintro e w6 ⟨rfl, hD6, hg6⟩; have h6 := k5.draw g hD6 hg6; have p3 := h6.p.cell 3; have pf3 := h6.p.frozen 3; simp only [puC, List.getElem?_toArray, List.getElem?_cons_zero, List.getElem?_cons_succ] at p3)
      have k7 := h6.setP g 3 (.int .i64 (ph : Int)) (p' := ⟨bb, bt, 2, ph, true⟩) (by simp [puC])
      obtain ⟨w7, hw7⟩ : ∃ q, q = w6.setCell ⟨gP, 3, none⟩ (.int .i64 (ph : Int)) := ⟨_, rfl⟩
      rw [← hw7] at k7 ⊢
      clear hw7 h6 p3 pf3 hD6 hg6 HROW p2 k5
      have o0 := (k7.o.cell 0).trans (cells18_get f (by omega))
      have p4 := k7.p.cell 4
      have pf4 := k7.p.frozen 4
      simp only [puC, List.getElem?_toArray, List.getElem?_cons_zero, List.getElem?_cons_succ] at p4
      go_upto_region 9 with fail
      have k8 := k7.setP g 4 (.bool false) (p' := ⟨bb, bt, 2, ph, false⟩) (by simp [puC])
      obtain ⟨w8, hw8⟩ : ∃ q, q = w7.setCell ⟨gP, 4, none⟩ (.bool false) := ⟨_, rfl⟩
      rw [← hw8] at k8 ⊢
      clear hw8 k7 p4 pf4 o0
      have p3 := k8.p.cell 3
      simp only [puC, List.getElem?_toArray, List.getElem?_cons_zero, List.getElem?_cons_succ] at p3
      go_wp2
      go_loopw [37] (fun iv wr => ∃ j : Nat, j ≤ ph ∧ iv = .int .i64 j ∧ PS w gO gZ gP D (seenF (f 16) (nx (nx (nx s))) j).2 f ⟨bb, bt, 2, ph, (seenF (f 16) (nx (nx (nx s))) j).1⟩ wr) (fun iv _ => ph - (intOf iv).toNat)
      case atStart => exact ⟨0, by omega, rfl, k8⟩
      case round =>
        clear k8 p3
        obtain ⟨j, hj, rfl, k8⟩ := hrel
        obtain ⟨v, t, hvt⟩ : ∃ v t, seenF (f 16) (nx (nx (nx s))) j = (v, t) := ⟨_, _, rfl⟩
        rw [hvt] at k8
        simp only at k8
        by_cases hlt : j < ph
        · have HSN := hide (show seenF (f 16) (nx (nx (nx s))) (j + 1) = (v || decide ((bel t 256 : Int) < f 16), nx t) by rw [seenF, hvt]; rfl)
          clear hvt
          have o16 := (k8.o.cell 16).trans (cells18_get f (by omega))
          have hch := chance_c D t (f 16) wr k8.d
          obtain ⟨u, hu⟩ : ∃ u, u = decide ((bel t 256 : Int) < f 16) := ⟨_, rfl⟩
          rw [← hu] at hch HSN
          have HCH := hide hch
          clear hch hu
          cases v
          all_goals cases u
          all_goals
            go_wp2_with (go_at_call 95; refine HCH.out.mono ?_; rintro e w9 ⟨rfl, hD9, hg9⟩; have h9 := k8.draw g hD9 hg9; have p4 := h9.p.cell 4; have pf4 := h9.p.frozen 4; simp only [puC, List.getElem?_toArray, List.getElem?_cons_zero, List.getElem?_cons_succ] at p4)
            go_roundw
            case rel => exact ⟨j + 1, by omega, by go_num, by rw [HSN.out]; exact h9.setP g 4 _ (by simp [puC])⟩
            case measure => simp [intOf] <;> omega
        · obtain rfl : j = ph := by omega
          have HSN := hide hvt
          clear hvt
          have p0 := k8.p.cell 0
          have p1 := k8.p.cell 1
          have p2 := k8.p.cell 2
          have p3 := k8.p.cell 3
          have p4 := k8.p.cell 4
          simp only [puC, List.getElem?_toArray, List.getElem?_cons_zero, List.getElem?_cons_succ] at p0 p1 p2 p3 p4
          go_upto_region 14 with fail
          go_wp2_with (refine wl_store (o := ⟨none, _, _, _, _, _⟩) rfl 55 _ _ rfl gZ (puC ⟨bb, bt, 2, j, v⟩) rfl rfl 55 _ k8.z (by kernel_rfl) rfl (by simp [puC, Value.oneCell']) ?_; intro w9 hZ9 hg9)
          have hfin := k8.fin g hg9
          refine bodyPost_ret (results_cell_row rfl _ _ gZ _ _ (0, 0) _ rfl hZ9 Tryd.underlying55 rfl (by kernel_rfl)) rfl ?_
          have e1 := HBB.out
          have e2 := HBT.out
          have e3 := HPH.out
          have e4 := HSN.out
          unfold SPul
          rw [HPUL.out, ← e1, ← e2, ← e3, e4]
          exact ⟨rfl, hfin.1, hfin.2⟩
    · have HPUL := hide (pulF_zero (s := s) h1 h2)
      have hk2 : (f 0 == 2) = false := by simpa using h2
      clear h1 h2
      go_upto_region 6 with fail
      clear o0
      have hrow := weighed_c D (nx (nx s)) gO 12 4 26 (cells18 f) (rowOf f 2) w5 k5.d k5.o hOD (inrow_row f (c := 2) (by omega)) rfl (by omega) (by omega) (check_row hok (by omega))
      obtain ⟨ph, hph⟩ : ∃ q : Nat, q = wgt (rowOf f 2) (bel (nx (nx s)) 256) := ⟨_, rfl⟩
      rw [← hph] at hrow
      have hph3 : ph ≤ 3 := by rw [hph]; have := wgt_lt (ws := rowOf f 2) (bel (nx (nx s)) 256) (by simp [rowOf]); simp [rowOf] at this; simp [rowOf]; omega
      have HPH := hide hph
      have HROW := hide hrow
      clear hrow hph
      have p2 := k5.p.cell 2
      simp only [puC, List.getElem?_toArray, List.getElem?_cons_zero, List.getElem?_cons_succ] at p2
      go_upto_region 7 with (go_at_call 114; refine HROW.out.mono ?_; rintro e w6 ⟨rfl, hD6, hg6⟩; have h6 := k5.draw g hD6 hg6; have p3 := h6.p.cell 3; have pf3 := h6.p.frozen 3; simp only [puC, List.getElem?_toArray, List.getElem?_cons_zero, List.getElem?_cons_succ] at p3)
      have k7 := h6.setP g 3 (.int .i64 (ph : Int)) (p' := ⟨bb, bt, 2, ph, true⟩) (by simp [puC])
      obtain ⟨w7, hw7⟩ : ∃ q, q = w6.setCell ⟨gP, 3, none⟩ (.int .i64 (ph : Int)) := ⟨_, rfl⟩
      rw [← hw7] at k7 ⊢
      clear hw7 h6 p3 pf3 hD6 hg6 HROW p2 k5
      have o0 := (k7.o.cell 0).trans (cells18_get f (by omega))
      have p0 := k7.p.cell 0
      have p1 := k7.p.cell 1
      have p2 := k7.p.cell 2
      have p3 := k7.p.cell 3
      have p4 := k7.p.cell 4
      simp only [puC, List.getElem?_toArray, List.getElem?_cons_zero, List.getElem?_cons_succ] at p0 p1 p2 p3 p4
      go_upto_region 14 with fail
      go_wp2_with (refine wl_store (o := ⟨none, _, _, _, _, _⟩) rfl 55 _ _ rfl gZ (puC ⟨bb, bt, 2, ph, true⟩) rfl rfl 55 _ k7.z (by kernel_rfl) rfl (by simp [puC, Value.oneCell']) ?_; intro w9 hZ9 hg9)
      have hfin := k7.fin g hg9
      refine bodyPost_ret (results_cell_row rfl _ _ gZ _ _ (0, 0) _ rfl hZ9 Tryd.underlying55 rfl (by kernel_rfl)) rfl ?_
      have e1 := HBB.out
      have e2 := HBT.out
      have e3 := HPH.out
      unfold SPul
      rw [HPUL.out, ← e1, ← e2, ← e3]
      exact ⟨rfl, hfin.1, hfin.2⟩
end Go.Proofs.YthdidjnhfkeokaaDoor
