/- Contract of optics.weighed. Contract of optics.pulse. A law for 'for p := range seq { .. }' whose iterator keeps its state in a block of its own: the round's word must abide the turns of blocks of that one type. After the kit's own law for a loop that never leaves early. -/
import Derived.Test.YtchhkokpjdkkiaaTopSiftsa02
import Derived.Test.YtchhkokpjdkkiaaTopSiftsa04
import Derived.RangeFuncNested
import Derived.RangeFuncBound
import Derived.RangeFuncCalls
import Derived.RangeFuncLeaves
import Derived.Shelf.Abstract
import Derived.Shelf.RegionOpen
import Derived.WalkKit
import Derived.OwnWalkIn
import Derived.TacticsInMore
import Derived.LoopNIn
import Derived.LoopIn
namespace Go.Proofs.Ytchhkokpjdkkiaa
open Go.RowKit

theorem sumK_bound {ws : List Int} (hw : ∀ x ∈ ws, 0 ≤ x ∧ x ≤ 256) (i : Nat) : 0 ≤ sumK ws i ∧ sumK ws i ≤ 256 * i := by
  induction i with
  | zero => simp [sumK]
  | succ i ih =>
    cases h : ws[i]? with
    | none =>
      have hl : ws.length ≤ i := by simpa using h
      have e : sumK ws (i + 1) = sumK ws i := by unfold sumK; rw [List.take_of_length_le (by omega), List.take_of_length_le hl]
      rw [e]; omega
    | some x =>
      rw [sumK_succ h]
      have := hw x (List.mem_of_getElem? h)
      omega
/-- The numbers ws lie in block g from 'off' on. -/
def InRow (cs : Array Value) (off : Nat) (ws : List Int) : Prop := ∀ (j : Nat) (x : Int), ws[j]? = some x → cs[off + j]? = some (.int .i64 x)

set_option maxRecDepth 100000 in
set_option maxHeartbeats 3200000 in
theorem weighed_c (D s g off m : Nat) (T : TypeId) (cs : Array Value) (ws : List Int) (w : World) (h : Dr w D s) (b : Blk w g T cs) (hgD : g ≠ D) (hr : InRow cs off ws) (hl : ws.length = m) (hm : m ≤ 4) (hm0 : 0 < m) (hw : ∀ x ∈ ws, 0 ≤ x ∧ x ≤ 256) :
    Calls Try.prog 129 #[.pointer (some ⟨D, 0, none⟩), .slice (some ⟨g, off, none⟩) m m] w fun e w' => e = .returned (.int .i64 (wgt ws (bel s 256) : Nat)) ∧ Dr w' D (nx s) ∧ w.grownBy w' (some D) := by
  have hbl := bel_lt s 256 (by omega)
  have hc := below_c D s 256 w h (by omega) (by omega)
  obtain ⟨q, hq⟩ : ∃ q : Int, q = (bel s 256 : Int) := ⟨_, rfl⟩
  rw [← hq] at hc
  have hq0 : 0 ≤ q := by omega
  have hq1 : q ≤ 255 := by omega
  have HQ := hide hq
  have HC := hide hc
  have HL := hide hl
  clear hc hq hbl hl
  go_enter Try.func129, Try.ntmps129
  go_wp2_with (go_at_call 106; refine HC.out.mono ?_; rintro e w1 ⟨rfl, hD1, hg1⟩)
  have b1 := b.grown hg1 (by simpa using hgD)
  go_loop [5, 12] (fun kv iv => ∃ i : Nat, i ≤ m ∧ iv = .int .i64 i ∧ kv = .int .i64 (q - sumK ws i) ∧ ∀ j, j < i → ¬ q < sumK ws (j + 1)) (fun _ iv => m - (intOf iv).toNat)
  case atStart => exact ⟨0, by omega, rfl, by simp [sumK], fun j hj => by omega⟩
  case round =>
    obtain ⟨i, hi, rfl, rfl, hno⟩ := hrel
    have HNO := hide hno
    clear hno
    by_cases hlt : i < m
    · obtain ⟨x, hx⟩ : ∃ x, ws[i]? = some x := ⟨_, List.getElem?_eq_getElem (by rw [HL.out]; exact hlt)⟩
      have c0 := (b1.cell (off + i)).trans (hr i x hx)
      have hxb := hw x (List.mem_of_getElem? hx)
      have hsb := sumK_bound hw i
      have HS := hide (sumK_succ hx)
      obtain ⟨y, hy⟩ : ∃ y, q - sumK ws i = y := ⟨_, rfl⟩
      rw [hy]
      have hy0 : -1024 ≤ y := by omega
      have hy1 : y ≤ 255 := by omega
      have hx0 := hxb.1
      have hx1 := hxb.2
      have HY := hide hy
      clear hx hxb hsb hy
      by_cases hk : y < x
      · have HR := hide (show wgt ws q = i from wgt_at (by rw [HL.out]; exact hlt) HNO.out (by have := HS.out; have := HY.out; omega))
        go_wp2
        go_ret
        exact ⟨by rw [← HQ.out, HR.out]; rfl, hD1, hg1⟩
      · have HN2 := hide (show ∀ j, j < i + 1 → ¬ q < sumK ws (j + 1) from fun j hj => by
          by_cases e : j = i
          · subst e; have := HS.out; have := HY.out; omega
          · exact HNO.out j (by omega))
        go_wp2
        go_round
        case rel => exact ⟨i + 1, by omega, by go_num, by rw [HS.out]; have := HY.out; rw [show q - (sumK ws i + x) = y - x by omega], HN2.out⟩
        case measure => simp [intOf] <;> omega
    · obtain rfl : i = m := by omega
      have HR := hide (show wgt ws q = i - 1 by rw [wgt_none (fun j hj => HNO.out j (by rw [HL.out] at hj; exact hj)), HL.out])
      have hm1 : (1 : Int) ≤ (i : Int) := by omega
      go_wp2
      go_ret
      exact ⟨by rw [← HQ.out, HR.out]; go_num, hD1, hg1⟩
end Go.Proofs.Ytchhkokpjdkkiaa

namespace Go.Proofs.Ytchhkokpjdkkiaa
open Go.RowKit

def puC (p : Pu) : Array Value := #[.int .i64 p.b, .bool p.bit, .int .i64 p.cl, .int .i64 p.ph, .bool p.seen]
/-- The blocks of a call of pulse. -/
structure PS (w : World) (gO gZ gP D s : Nat) (f : Nat → Int) (p : Pu) (W : World) : Prop where
  o : Blk W gO 57 (cells18 f)
  z : Blk W gZ 79 #[.int .i64 0, .bool false, .int .i64 0, .int .i64 0, .bool false]
  p : Blk W gP 79 (puC p)
  d : Dr W D s
  f : w.grownBy W (some D)
structure PG (w : World) (gO gZ gP D : Nat) : Prop where
  o : gO = w.heap.size
  z : gZ = w.heap.size + 1
  p : gP = w.heap.size + 2
  d : D < w.heap.size
section
variable {w W W' : World} {gO gZ gP D s s' : Nat} {f : Nat → Int} {p p' : Pu}
theorem PS.draw (h : PS w gO gZ gP D s f p W) (g : PG w gO gZ gP D) (hd : Dr W' D s') (hg : W.grownBy W' (some D)) : PS w gO gZ gP D s' f p W' := by
  obtain ⟨g1, g2, g3, g4⟩ := g
  exact ⟨h.o.grown hg (by simp; omega), h.z.grown hg (by simp; omega), h.p.grown hg (by simp; omega), hd, h.f.trans hg⟩
theorem PS.setP (h : PS w gO gZ gP D s f p W) (g : PG w gO gZ gP D) (i : Nat) (v : Value) (hx : (puC p).setIfInBounds i v = puC p') : PS w gO gZ gP D s f p' (W.setCell ⟨gP, i, none⟩ v) := by
  obtain ⟨g1, g2, g3, g4⟩ := g
  exact ⟨h.o.far (by simp; omega) v, h.z.far (by simp; omega) v, hx ▸ h.p.set_ i v, Blk.far h.d (by simp; omega) v, grownBy_set h.f (by simp; omega) v⟩
theorem PS.fin (h : PS w gO gZ gP D s f p W) (g : PG w gO gZ gP D) (hg : W.grownBy W' (some gZ)) : Dr W' D s ∧ w.grownBy W' (some D) := by
  obtain ⟨g1, g2, g3, g4⟩ := g
  refine ⟨Blk.grown h.d hg (by simp; omega), ⟨hg.os.trans h.f.os, hg.tape.trans h.f.tape, hg.output.trans h.f.output, Nat.le_trans h.f.size hg.size, fun i hi hne => ?_⟩⟩
  exact (hg.block i (Nat.lt_of_lt_of_le hi h.f.size) (by simp; omega)).trans (h.f.block i hi hne)
end
theorem part_bounds {n : Int} (h : part n = true) : 0 ≤ n ∧ n ≤ 256 := by simpa [part] using h
theorem wts_parts {l : List Int} (h : wts l = true) : ∀ x ∈ l, 0 ≤ x ∧ x ≤ 256 := fun x hx => by
  unfold wts at h
  rw [Bool.and_eq_true] at h
  exact part_bounds (List.all_eq_true.1 h.1 x hx)
theorem check_ok {f : Nat → Int} (h : checkErr f = 0) : okA f = true ∧ rowsOk f 3 = true := by
  unfold checkErr at h
  split at h
  · rename_i ho
    unfold okO at ho
    simp only [Bool.and_eq_true] at ho
    exact ⟨ho.1.1.1, ho.1.1.2⟩
  · omega
theorem check_kind {f : Nat → Int} (h : checkErr f = 0) : 0 ≤ f 0 ∧ f 0 ≤ 2 := by
  have := (check_ok h).1
  unfold okA at this
  simp only [Bool.and_eq_true, decide_eq_true_eq] at this
  exact this.1.1.1
theorem check_cls {f : Nat → Int} (h : checkErr f = 0) : ∀ x ∈ clsOf f, 0 ≤ x ∧ x ≤ 256 := by
  have := (check_ok h).1
  unfold okA at this
  simp only [Bool.and_eq_true] at this
  exact wts_parts this.1.1.2
theorem check_row {f : Nat → Int} (h : checkErr f = 0) {c : Nat} (hc : c ≤ 2) : ∀ x ∈ rowOf f c, 0 ≤ x ∧ x ≤ 256 :=
  wts_parts (List.all_eq_true.1 (check_ok h).2 c (by simp; omega))
theorem inrow_cls (f : Nat → Int) : InRow (cells18 f) 1 (clsOf f) := fun j x hx => by
  match j, hx with
  | 0, hx => simp [clsOf] at hx; subst hx; rfl
  | 1, hx => simp [clsOf] at hx; subst hx; rfl
  | 2, hx => simp [clsOf] at hx; subst hx; rfl
  | j + 3, hx => simp [clsOf] at hx
theorem inrow_row (f : Nat → Int) {c : Nat} (hc : c ≤ 2) : InRow (cells18 f) (4 + c * 4) (rowOf f c) := fun j x hx => by
  have hj : j < 4 := by have := (List.getElem?_eq_some_iff.1 hx).1; simpa [rowOf] using this
  rw [cells18_get f (by omega)]
  match j, hj, hx with
  | 0, _, hx => simp [rowOf] at hx; subst hx; rw [show 4 + c * 4 + 0 = 4 + 4 * c by omega]
  | 1, _, hx => simp [rowOf] at hx; subst hx; rw [show 4 + c * 4 + 1 = 5 + 4 * c by omega]
  | 2, _, hx => simp [rowOf] at hx; subst hx; rw [show 4 + c * 4 + 2 = 6 + 4 * c by omega]
  | 3, _, hx => simp [rowOf] at hx; subst hx; rw [show 4 + c * 4 + 3 = 7 + 4 * c by omega]
theorem pbel1 (s : Nat) : ((bel s 2 : Int) == 1) = decide (bel s 2 = 1) := by
  show decide ((bel s 2 : Int) = 1) = _
  rw [decide_eq_decide]; omega
theorem pulF_one {f : Nat → Int} {s : Nat} (h : f 0 = 1) : pulF f s = (⟨(bel s 2 : Nat), decide (bel (nx s) 2 = 1), (wgt (clsOf f) (bel (nx (nx s)) 256) : Nat), (wgt (rowOf f (wgt (clsOf f) (bel (nx (nx s)) 256))) (bel (nx (nx (nx s))) 256) : Nat), true⟩, nx (nx (nx (nx s)))) := by
  unfold pulF clsF phF; rw [if_pos h, if_neg (by omega), if_neg (by omega)]
theorem pulF_two {f : Nat → Int} {s : Nat} (h : f 0 = 2) : pulF f s = (⟨(bel s 2 : Nat), decide (bel (nx s) 2 = 1), 2, (wgt (rowOf f 2) (bel (nx (nx s)) 256) : Nat), (seenF (f 16) (nx (nx (nx s))) (wgt (rowOf f 2) (bel (nx (nx s)) 256))).1⟩, (seenF (f 16) (nx (nx (nx s))) (wgt (rowOf f 2) (bel (nx (nx s)) 256))).2) := by
  unfold pulF clsF phF; rw [if_neg (show ¬ f 0 = 1 by omega), if_pos h, if_pos h]; rfl
theorem pulF_zero {f : Nat → Int} {s : Nat} (h1 : ¬ f 0 = 1) (h2 : ¬ f 0 = 2) : pulF f s = (⟨(bel s 2 : Nat), decide (bel (nx s) 2 = 1), 2, (wgt (rowOf f 2) (bel (nx (nx s)) 256) : Nat), true⟩, nx (nx (nx s))) := by
  unfold pulF clsF phF; rw [if_neg h1, if_neg h2, if_neg h2]; rfl
def SPul (f : Nat → Int) (D s : Nat) (w : World) (e : Ending) (w' : World) : Prop :=
  e = .returned (.agg (puC (pulF f s).1)) ∧ Dr w' D (pulF f s).2 ∧ w.grownBy w' (some D)

set_option maxRecDepth 100000 in
set_option maxHeartbeats 6400000 in
theorem pulse_c (f : Nat → Int) (hok : checkErr f = 0) (D s : Nat) (w : World) (hD : Dr w D s) :
    Calls Try.prog 95 #[.agg (cells18 f), .pointer (some ⟨D, 0, none⟩)] w (SPul f D s w) := by
  have h : PS w w.heap.size (w.heap.size + 1) (w.heap.size + 2) D s f ⟨0, false, 2, 0, true⟩ (((w.alloc (.cells (cells18 f) 57)).alloc (.cells #[.int .i64 0, .bool false, .int .i64 0, .int .i64 0, .bool false] 79)).alloc (.cells #[.int .i64 0, .bool false, .int .i64 2, .int .i64 0, .bool true] 79)) :=
    ⟨((Blk.newAt w 57 _ w.heap.size rfl).alloc _).alloc _, (Blk.newAt (w.alloc (.cells (cells18 f) 57)) 79 _ (w.heap.size + 1) (by simp)).alloc _, Blk.newAt ((w.alloc (.cells (cells18 f) 57)).alloc (.cells #[.int .i64 0, .bool false, .int .i64 0, .int .i64 0, .bool false] 79)) 79 _ (w.heap.size + 2) (by simp), Blk.alloc (Blk.alloc (Blk.alloc hD _) _) _, grownBy_alloc (grownBy_alloc (grownBy_alloc (World.grownBy.refl w _) _) _) _⟩
  have g : PG w w.heap.size (w.heap.size + 1) (w.heap.size + 2) D := ⟨rfl, rfl, rfl, Blk.lt hD⟩
  go_enter Try.func95, Try.ntmps95
  go_upto_region 2 with fail
  obtain ⟨W, hW⟩ : ∃ q, q = (((w.alloc (.cells (cells18 f) 57)).alloc (.cells #[.int .i64 0, .bool false, .int .i64 0, .int .i64 0, .bool false] 79)).alloc (.cells #[.int .i64 0, .bool false, .int .i64 2, .int .i64 0, .bool true] 79)) := ⟨_, rfl⟩
  rw [← hW] at h ⊢
  clear hW hD
  rw [show w.heap.size + 1 + 1 = w.heap.size + 2 from rfl]
  obtain ⟨gO, hgO⟩ : ∃ q, q = w.heap.size := ⟨_, rfl⟩
  obtain ⟨gZ, hgZ⟩ : ∃ q, q = w.heap.size + 1 := ⟨_, rfl⟩
  obtain ⟨gP, hgP⟩ : ∃ q, q = w.heap.size + 2 := ⟨_, rfl⟩
  rw [← hgZ, ← hgP, ← hgO] at h g ⊢
  clear hgO hgZ hgP
  have hOD : gO ≠ D := by have := g.o; have := g.d; omega
  have hOP : ¬ gO = gP := by have := g.o; have := g.p; omega
  have hPO : ¬ gP = gO := by have := g.o; have := g.p; omega
  have HB := hide (below_c D s 2 W h.d (by omega) (by omega))
  go_upto_region 3 with (go_at_call 106; refine HB.out.mono ?_; rintro e w1 ⟨rfl, hD1, hg1⟩; have h1 := h.draw g hD1 hg1; have p0 := h1.p.cell 0; have pf0 := h1.p.frozen 0; simp only [puC, List.getElem?_toArray, List.getElem?_cons_zero] at p0)
  obtain ⟨bb, hbb⟩ : ∃ q : Int, q = (bel s 2 : Nat) := ⟨_, rfl⟩
  rw [← hbb]
  have k2 := h1.setP g 0 (.int .i64 bb) (p' := ⟨bb, false, 2, 0, true⟩) (by simp [puC])
  obtain ⟨w2, hw2⟩ : ∃ q, q = w1.setCell ⟨gP, 0, none⟩ (.int .i64 bb) := ⟨_, rfl⟩
  rw [← hw2] at k2 ⊢
  have HBB := hide hbb
  clear hw2 hbb h h1 p0 pf0 hD1 hg1 HB
  have HB := hide (below_c D (nx s) 2 w2 k2.d (by omega) (by omega))
  go_upto_region 4 with (go_at_call 106; refine HB.out.mono ?_; rintro e w3 ⟨rfl, hD3, hg3⟩; have h3 := k2.draw g hD3 hg3; have p1 := h3.p.cell 1; have pf1 := h3.p.frozen 1; simp only [puC, List.getElem?_toArray, List.getElem?_cons_zero, List.getElem?_cons_succ] at p1)
  obtain ⟨bt, hbt⟩ : ∃ q : Bool, q = ((bel (nx s) 2 : Int) == 1) := ⟨_, rfl⟩
  rw [← hbt]
  have k4 := h3.setP g 1 (.bool bt) (p' := ⟨bb, bt, 2, 0, true⟩) (by simp [puC])
  obtain ⟨w4, hw4⟩ : ∃ q, q = w3.setCell ⟨gP, 1, none⟩ (.bool bt) := ⟨_, rfl⟩
  rw [← hw4] at k4 ⊢
  rw [pbel1] at hbt
  have HBT := hide hbt
  clear hw4 hbt h3 p1 pf1 hD3 hg3 HB k2
  have o0 := (k4.o.cell 0).trans (cells18_get f (by omega))
  by_cases h1 : f 0 = 1
  · have HPUL := hide (pulF_one (s := s) h1)
    have hk1 : (f 0 == 1) = true := by simpa using h1
    have hk2 : (f 0 == 2) = false := by simp; omega
    clear h1
    have hcls := weighed_c D (nx (nx s)) gO 1 3 57 (cells18 f) (clsOf f) w4 k4.d k4.o hOD (inrow_cls f) rfl (by omega) (by omega) (check_cls hok)
    obtain ⟨cc, hcc⟩ : ∃ q : Nat, q = wgt (clsOf f) (bel (nx (nx s)) 256) := ⟨_, rfl⟩
    rw [← hcc] at hcls HPUL
    have hc2 : cc ≤ 2 := by rw [hcc]; have := wgt_lt (ws := clsOf f) (bel (nx (nx s)) 256) (by simp [clsOf]); simp [clsOf] at this; simp [clsOf]; omega
    have hci0 : (0 : Int) ≤ (cc : Int) := by omega
    have hci1 : (cc : Int) < 3 := by omega
    have HCLS := hide hcls
    clear hcls hcc
    go_upto_region 6 with (go_at_call 129; refine HCLS.out.mono ?_; rintro e w8 ⟨rfl, hD8, hg8⟩; have h8 := k4.draw g hD8 hg8; have p2 := h8.p.cell 2; have pf2 := h8.p.frozen 2; simp only [puC, List.getElem?_toArray, List.getElem?_cons_zero, List.getElem?_cons_succ] at p2)
    have k5 := h8.setP g 2 (.int .i64 (cc : Int)) (p' := ⟨bb, bt, cc, 0, true⟩) (by simp [puC])
    obtain ⟨w5, hw5⟩ : ∃ q, q = w8.setCell ⟨gP, 2, none⟩ (.int .i64 (cc : Int)) := ⟨_, rfl⟩
    rw [← hw5] at k5 ⊢
    clear hw5 h8 p2 pf2 hD8 hg8 HCLS k4 o0
    have hrow := weighed_c D (nx (nx (nx s))) gO (4 + cc * 4) 4 57 (cells18 f) (rowOf f cc) w5 k5.d k5.o hOD (inrow_row f hc2) rfl (by omega) (by omega) (check_row hok (by omega))
    obtain ⟨ph, hph⟩ : ∃ q : Nat, q = wgt (rowOf f cc) (bel (nx (nx (nx s))) 256) := ⟨_, rfl⟩
    rw [← hph] at hrow
    have hph3 : ph ≤ 3 := by rw [hph]; have := wgt_lt (ws := rowOf f cc) (bel (nx (nx (nx s))) 256) (by simp [rowOf]); simp [rowOf] at this; simp [rowOf]; omega
    have HPH := hide hph
    have HROW := hide hrow
    clear hrow hph
    have p2 := k5.p.cell 2
    simp only [puC, List.getElem?_toArray, List.getElem?_cons_zero, List.getElem?_cons_succ] at p2
    go_upto_region 7 with (go_at_call 129; refine HROW.out.mono ?_; rintro e w6 ⟨rfl, hD6, hg6⟩; have h6 := k5.draw g hD6 hg6; have p3 := h6.p.cell 3; have pf3 := h6.p.frozen 3; simp only [puC, List.getElem?_toArray, List.getElem?_cons_zero, List.getElem?_cons_succ] at p3)
    have k7 := h6.setP g 3 (.int .i64 (ph : Int)) (p' := ⟨bb, bt, cc, ph, true⟩) (by simp [puC])
    obtain ⟨w7, hw7⟩ : ∃ q, q = w6.setCell ⟨gP, 3, none⟩ (.int .i64 (ph : Int)) := ⟨_, rfl⟩
    rw [← hw7] at k7 ⊢
    clear hw7 h6 p3 pf3 hD6 hg6 HROW p2 k5
    have o0 := (k7.o.cell 0).trans (cells18_get f (by omega))
    have p0 := k7.p.cell 0
    have p1 := k7.p.cell 1
    have p2 := k7.p.cell 2
    have p3 := k7.p.cell 3
    have p4 := k7.p.cell 4
    simp only [puC, List.getElem?_toArray, List.getElem?_cons_zero, List.getElem?_cons_succ] at p0 p1 p2 p3 p4
    go_upto_region 14 with fail
    go_wp2_with (refine wl_store (o := ⟨none, _, _, _, _, _⟩) rfl 79 _ _ rfl gZ (puC ⟨bb, bt, cc, ph, true⟩) rfl rfl 79 _ k7.z (by kernel_rfl) rfl (by simp [puC, Value.oneCell']) ?_; intro w9 hZ9 hg9)
    have hfin := k7.fin g hg9
    refine bodyPost_ret (results_cell_row rfl _ _ gZ _ _ (0, 0) _ rfl hZ9 Try.underlying79 rfl (by kernel_rfl)) rfl ?_
    have e1 := HBB.out
    have e2 := HBT.out
    have e3 := HPH.out
    unfold SPul
    rw [HPUL.out, ← e1, ← e2, ← e3]
    exact ⟨rfl, hfin.1, hfin.2⟩
  · have hk1 : (f 0 == 1) = false := by simpa using h1
    obtain ⟨w5, hw5⟩ : ∃ q, q = w4 := ⟨_, rfl⟩
    rw [← hw5] at k4 o0 ⊢
    clear hw5
    have k5 := k4
    clear k4
    by_cases h2 : f 0 = 2
    · have HPUL := hide (pulF_two (s := s) h2)
      have hk2 : (f 0 == 2) = true := by simpa using h2
      clear h1 h2
      go_upto_region 6 with fail
      clear o0
      have hrow := weighed_c D (nx (nx s)) gO 12 4 57 (cells18 f) (rowOf f 2) w5 k5.d k5.o hOD (inrow_row f (c := 2) (by omega)) rfl (by omega) (by omega) (check_row hok (by omega))
      obtain ⟨ph, hph⟩ : ∃ q : Nat, q = wgt (rowOf f 2) (bel (nx (nx s)) 256) := ⟨_, rfl⟩
      rw [← hph] at hrow
      have hph3 : ph ≤ 3 := by rw [hph]; have := wgt_lt (ws := rowOf f 2) (bel (nx (nx s)) 256) (by simp [rowOf]); simp [rowOf] at this; simp [rowOf]; omega
      have HPH := hide hph
      have HROW := hide hrow
      clear hrow hph
      have p2 := k5.p.cell 2
      simp only [puC, List.getElem?_toArray, List.getElem?_cons_zero, List.getElem?_cons_succ] at p2
      go_upto_region 7 with (go_at_call 129; refine HROW.out.mono ?_; rintro e w6 ⟨rfl, hD6, hg6⟩; have h6 := k5.draw g hD6 hg6; have p3 := h6.p.cell 3; have pf3 := h6.p.frozen 3; simp only [puC, List.getElem?_toArray, List.getElem?_cons_zero, List.getElem?_cons_succ] at p3)
      have k7 := h6.setP g 3 (.int .i64 (ph : Int)) (p' := ⟨bb, bt, 2, ph, true⟩) (by simp [puC])
      obtain ⟨w7, hw7⟩ : ∃ q, q = w6.setCell ⟨gP, 3, none⟩ (.int .i64 (ph : Int)) := ⟨_, rfl⟩
      rw [← hw7] at k7 ⊢
      clear hw7 h6 p3 pf3 hD6 hg6 HROW p2 k5
      have o0 := (k7.o.cell 0).trans (cells18_get f (by omega))
      have p4 := k7.p.cell 4
      have pf4 := k7.p.frozen 4
      simp only [puC, List.getElem?_toArray, List.getElem?_cons_zero, List.getElem?_cons_succ] at p4
      go_upto_region 9 with fail
      have k8 := k7.setP g 4 (.bool false) (p' := ⟨bb, bt, 2, ph, false⟩) (by simp [puC])
      obtain ⟨w8, hw8⟩ : ∃ q, q = w7.setCell ⟨gP, 4, none⟩ (.bool false) := ⟨_, rfl⟩
      rw [← hw8] at k8 ⊢
      clear hw8 k7 p4 pf4 o0
      have p3 := k8.p.cell 3
      simp only [puC, List.getElem?_toArray, List.getElem?_cons_zero, List.getElem?_cons_succ] at p3
      go_wp2
      go_loopw [37] (fun iv wr => ∃ j : Nat, j ≤ ph ∧ iv = .int .i64 j ∧ PS w gO gZ gP D (seenF (f 16) (nx (nx (nx s))) j).2 f ⟨bb, bt, 2, ph, (seenF (f 16) (nx (nx (nx s))) j).1⟩ wr) (fun iv _ => ph - (intOf iv).toNat)
      case atStart => exact ⟨0, by omega, rfl, k8⟩
      case round =>
        clear k8 p3
        obtain ⟨j, hj, rfl, k8⟩ := hrel
        obtain ⟨v, t, hvt⟩ : ∃ v t, seenF (f 16) (nx (nx (nx s))) j = (v, t) := ⟨_, _, rfl⟩
        rw [hvt] at k8
        simp only at k8
        by_cases hlt : j < ph
        · have HSN := hide (show seenF (f 16) (nx (nx (nx s))) (j + 1) = (v || decide ((bel t 256 : Int) < f 16), nx t) by rw [seenF, hvt]; rfl)
          clear hvt
          have o16 := (k8.o.cell 16).trans (cells18_get f (by omega))
          have hch := chance_c D t (f 16) wr k8.d
          obtain ⟨u, hu⟩ : ∃ u, u = decide ((bel t 256 : Int) < f 16) := ⟨_, rfl⟩
          rw [← hu] at hch HSN
          have HCH := hide hch
          clear hch hu
          cases v
          all_goals cases u
          all_goals
            go_wp2_with (go_at_call 99; refine HCH.out.mono ?_; rintro e w9 ⟨rfl, hD9, hg9⟩; have h9 := k8.draw g hD9 hg9; have p4 := h9.p.cell 4; have pf4 := h9.p.frozen 4; simp only [puC, List.getElem?_toArray, List.getElem?_cons_zero, List.getElem?_cons_succ] at p4)
            go_roundw
            case rel => exact ⟨j + 1, by omega, by go_num, by rw [HSN.out]; exact h9.setP g 4 _ (by simp [puC])⟩
            case measure => simp [intOf] <;> omega
        · obtain rfl : j = ph := by omega
          have HSN := hide hvt
          clear hvt
          have p0 := k8.p.cell 0
          have p1 := k8.p.cell 1
          have p2 := k8.p.cell 2
          have p3 := k8.p.cell 3
          have p4 := k8.p.cell 4
          simp only [puC, List.getElem?_toArray, List.getElem?_cons_zero, List.getElem?_cons_succ] at p0 p1 p2 p3 p4
          go_upto_region 14 with fail
          go_wp2_with (refine wl_store (o := ⟨none, _, _, _, _, _⟩) rfl 79 _ _ rfl gZ (puC ⟨bb, bt, 2, j, v⟩) rfl rfl 79 _ k8.z (by kernel_rfl) rfl (by simp [puC, Value.oneCell']) ?_; intro w9 hZ9 hg9)
          have hfin := k8.fin g hg9
          refine bodyPost_ret (results_cell_row rfl _ _ gZ _ _ (0, 0) _ rfl hZ9 Try.underlying79 rfl (by kernel_rfl)) rfl ?_
          have e1 := HBB.out
          have e2 := HBT.out
          have e3 := HPH.out
          have e4 := HSN.out
          unfold SPul
          rw [HPUL.out, ← e1, ← e2, ← e3, e4]
          exact ⟨rfl, hfin.1, hfin.2⟩
    · have HPUL := hide (pulF_zero (s := s) h1 h2)
      have hk2 : (f 0 == 2) = false := by simpa using h2
      clear h1 h2
      go_upto_region 6 with fail
      clear o0
      have hrow := weighed_c D (nx (nx s)) gO 12 4 57 (cells18 f) (rowOf f 2) w5 k5.d k5.o hOD (inrow_row f (c := 2) (by omega)) rfl (by omega) (by omega) (check_row hok (by omega))
      obtain ⟨ph, hph⟩ : ∃ q : Nat, q = wgt (rowOf f 2) (bel (nx (nx s)) 256) := ⟨_, rfl⟩
      rw [← hph] at hrow
      have hph3 : ph ≤ 3 := by rw [hph]; have := wgt_lt (ws := rowOf f 2) (bel (nx (nx s)) 256) (by simp [rowOf]); simp [rowOf] at this; simp [rowOf]; omega
      have HPH := hide hph
      have HROW := hide hrow
      clear hrow hph
      have p2 := k5.p.cell 2
      simp only [puC, List.getElem?_toArray, List.getElem?_cons_zero, List.getElem?_cons_succ] at p2
      go_upto_region 7 with (go_at_call 129; refine HROW.out.mono ?_; rintro e w6 ⟨rfl, hD6, hg6⟩; have h6 := k5.draw g hD6 hg6; have p3 := h6.p.cell 3; have pf3 := h6.p.frozen 3; simp only [puC, List.getElem?_toArray, List.getElem?_cons_zero, List.getElem?_cons_succ] at p3)
      have k7 := h6.setP g 3 (.int .i64 (ph : Int)) (p' := ⟨bb, bt, 2, ph, true⟩) (by simp [puC])
      obtain ⟨w7, hw7⟩ : ∃ q, q = w6.setCell ⟨gP, 3, none⟩ (.int .i64 (ph : Int)) := ⟨_, rfl⟩
      rw [← hw7] at k7 ⊢
      clear hw7 h6 p3 pf3 hD6 hg6 HROW p2 k5
      have o0 := (k7.o.cell 0).trans (cells18_get f (by omega))
      have p0 := k7.p.cell 0
      have p1 := k7.p.cell 1
      have p2 := k7.p.cell 2
      have p3 := k7.p.cell 3
      have p4 := k7.p.cell 4
      simp only [puC, List.getElem?_toArray, List.getElem?_cons_zero, List.getElem?_cons_succ] at p0 p1 p2 p3 p4
      go_upto_region 14 with fail
      go_wp2_with (refine wl_store (o := ⟨none, _, _, _, _, _⟩) rfl 79 _ _ rfl gZ (puC ⟨bb, bt, 2, ph, true⟩) rfl rfl 79 _ k7.z (by kernel_rfl) rfl (by simp [puC, Value.oneCell']) ?_; intro w9 hZ9 hg9)
      have hfin := k7.fin g hg9
      refine bodyPost_ret (results_cell_row rfl _ _ gZ _ _ (0, 0) _ rfl hZ9 Try.underlying79 rfl (by kernel_rfl)) rfl ?_
      have e1 := HBB.out
      have e2 := HBT.out
      have e3 := HPH.out
      unfold SPul
      rw [HPUL.out, ← e1, ← e2, ← e3]
      exact ⟨rfl, hfin.1, hfin.2⟩
end Go.Proofs.Ytchhkokpjdkkiaa

namespace Go.Proofs.Ytchhkokpjdkkiaa
open Go.RowKit Go.Shelf

/-- Blocks that an iterator with a state of type TD, or a loop's book-keeping, may turn. -/
def Turns (TD : TypeId) (B : Nat) (W : World) (row : Option Nat) : Prop :=
  ∀ r, row = some r → B ≤ r ∧ ∃ o : Obj, W.heap[r]? = some o ∧ (o.isCells = false ∨ ∃ cs, o = .cells cs TD (0, 0))
def Abd {β : Type} (TD : TypeId) (B : Nat) (J : β → World → Prop) : Prop := ∀ s W W' row, J s W → W.grownBy W' row → Turns TD B W row → J s W'
/-- The iterator's own turns: blocks of type TD that were made since. -/
def OwnTurns (TD : TypeId) (B : Nat) (W : World) (row : Option Nat) : Prop := ∀ r, row = some r → B ≤ r ∧ ∃ cs, W.heap[r]? = some (.cells cs TD (0, 0))
def OwnAbd {β : Type} (TD : TypeId) (B : Nat) (J : β → World → Prop) : Prop := ∀ s W W' row, J s W → W.grownBy W' row → OwnTurns TD B W row → J s W'
theorem Abd.alloc {β : Type} {TD : TypeId} {B : Nat} {J : β → World → Prop} (h : Abd TD B J) {s : β} {W : World} (o : Obj) (hs : J s W) : J s (W.alloc o) :=
  h s W _ none hs (World.grownBy_alloc W o none) (fun r e => by cases e)
theorem Abd.putObj {β : Type} {TD : TypeId} {B : Nat} {J : β → World → Prop} (h : Abd TD B J) {s : β} {W : World} {l : Nat} {o o' : Obj} (hs : J s W) (hB : B ≤ l) (hl : W.heap[l]? = some o) (ho : o.isCells = false) : J s (W.putObj l o') :=
  h s W _ (some l) hs (grownBy_putObj' W l o') (fun r e => by cases e; exact ⟨hB, o, hl, Or.inl ho⟩)
/-- Where the body of a round goes on. -/
def goesOn {α : Type} (B : Nat) (Kp : World → World → Prop) (I : List α → World → Prop) (xs : List α) (W : World) : Exit → Act → World → Prop
  | .normal, _, W' => KeepsFrom B W W' ∧ Kp W W' ∧ I xs W'
  | _, _, _ => False

theorem wpIn_rangeFunc_state {F : Fence} {n : Nat} {P : Program} {α : Type} {g : Operand} {ps : Array Tmp} {assign body : Code} {Q : Exit → Act → World → Prop} {a : Act} {w : World} (TD : TypeId)
    (hro : F.round = none) (h1 : 1 ≤ n) {gf : Nat} {lb : Array Value} (hg : a.eval g = .func (.func gf) #[] lb) (hFg : F.fn gf) (eg : ∀ args w, (callFunc gf args).run P w = .ok (.enter gf args) w)
    (encs : α → Array Value) (Kp : World → World → Prop) (XS : List α) (Nx : List α → α → Prop)
    (hseq : ∀ (l : Nat) (J : List α → World → Prop) (W : World), Below w.heap.size w W → OwnAbd TD W.heap.size J →
      (∀ pre x W1, J pre W1 → Nx pre x → YieldAt F (n - 1 - 1) P l (encs x) W1 fun e W' => e = .returned (.bool true) ∧ J (pre ++ [x]) W' ∧ Kp W1 W') →
      J [] W → CallsIn F (n - 1) P gf (#[.func (.yield l) #[] #[]] ++ lb) W fun e W' => (∃ v, e = .returned v) ∧ J XS W')
    (hKt : ∀ {A B C : World}, Kp A B → Kp B C → Kp A C) (hKb : ∀ (W : World) (l : Nat) (o o' : Obj), w.heap.size ≤ l → W.heap[l]? = some o → o.isCells = false → Kp W (W.putObj l o')) (hps : ∀ x, (encs x).size = ps.size)
    (I : List α → World → Prop) (hI : Abd TD w.heap.size I) (h0 : I [] w) (Ax : α → Act → World → Prop) (hAx : ∀ x a', Abd TD w.heap.size (fun (_ : Unit) W => Ax x a' W))
    (hassign : ∀ (l : Nat) (pre : List α) (x : α) (W : World) (K : Act → World → Prop), I pre W → (∀ a' W', KeepsFrom w.heap.size W W' → Kp W W' → I pre W' → Ax x a' W' → K a' W') →
      assign.wpIn (F.inRound l) (n - 1 - 1) P (Exit.then K (fun _ _ _ => False)) { tmps := (ps.zip (encs x)).foldl (fun t (p, v) => t.setIfInBounds p v) a.tmps, defers := [] } W)
    (hbody : ∀ (l : Nat) (pre : List α) (x : α) (a' : Act) (W : World), w.heap.size ≤ l → l < W.heap.size → I pre W → Ax x a' W → Nx pre x → body.wpIn (F.inRound l) (n - 1 - 1) P (goesOn w.heap.size Kp I (pre ++ [x]) W) a' W)
    (hdone : ∀ (D : Nat) (W : World), w.heap.size ≤ D → I XS W → W.heap[D]? = some (.deferred (some [])) → Q .normal { a with defers := { target := .collected D, args := #[] } :: a.defers } W) :
    (Code.rangeFunc g ps assign body).wpIn F n P Q a w := by
  refine wpIn_rangeFunc ?_
  intro fn hfn
  rw [hro]
  obtain ⟨rec, hrec⟩ : ∃ rec : LoopState → Option Code → Loop, rec = fun st pe => { state := st, pending := pe, fn, tmps := a.tmps, params := ps, assign, body, defers := w.heap.size } := ⟨_, rfl⟩
  obtain ⟨W1, hW1⟩ : ∃ W1, (w.alloc (.deferred (some []))).alloc (.loop (rec .ready none)) = W1 := ⟨_, rfl⟩
  have hL1 : W1.heap[w.heap.size + 1]? = some (.loop (rec .ready none)) := by
    rw [← hW1]; have := World.alloc_heap_new (w.alloc (.deferred (some []))) (.loop (rec .ready none)); rwa [World.size_alloc] at this
  have hK1 : W1.heap[w.heap.size]? = some (.deferred (some [])) := by
    rw [← hW1]; exact (Below.heap_alloc _ _ _ (by simp)).trans (World.alloc_heap_new w _)
  have hI1 : I [] W1 := by rw [← hW1]; exact hI.alloc _ (hI.alloc _ h0)
  have hb1 : Below w.heap.size w W1 := by
    rw [← hW1]; exact ((Below.refl _ w).alloc (Nat.le_refl _) _).alloc (by simp) _
  have hsz1 : W1.heap.size = w.heap.size + 2 := by rw [← hW1]; simp
  refine ⟨w.heap.size + 1, [{ target := .collected w.heap.size, args := #[] }], W1, { target := .fn (.func gf) lb, args := #[.func (.yield (w.heap.size + 1)) #[] #[]] }, W1, gf,
    #[.func (.yield (w.heap.size + 1)) #[] #[]] ++ lb, W1, ?_, ?_, ?_, ?_, fun _ => h1, ?_⟩
  · rw [← hW1, hrec]; exact run_enterLoop_outer _ _ _ _ _
  · simp only [resolve, hg]
    simp [go_sem]
  · intro f' hf'; simp [Target.leads] at hf'; subst hf'; exact hFg
  · simp [invoke, go_sem, eg]
  · have other : ∀ {A B : World} {row : Option Nat} {k : Nat} {o : Obj}, A.grownBy B row → OwnTurns TD W1.heap.size A row → A.heap[k]? = some o → o.isCells = false → B.heap[k]? = some o := by
      intro A B row k o hg' hr hk ho
      refine (hg'.block k (Array.getElem?_eq_some_iff.1 hk).1 (fun e => ?_)).trans hk
      obtain ⟨_, cs, hc⟩ := hr k e.symm
      rw [hk] at hc
      cases hc
      cases ho
    refine (hseq (w.heap.size + 1) (fun pre W => I pre W ∧ W.heap[w.heap.size + 1]? = some (.loop (rec .ready none)) ∧ W.heap[w.heap.size]? = some (.deferred (some []))) W1 hb1
      (fun s A B row hs hg' hr => ⟨hI s A B row hs.1 hg' (fun r e => by obtain ⟨hB, cs, hc⟩ := hr r e; exact ⟨by omega, _, hc, Or.inr ⟨cs, rfl⟩⟩), other hg' hr hs.2.1 rfl, other hg' hr hs.2.2 rfl⟩)
      ?_ ⟨hI1, hL1, hK1⟩).mono ?_
    · rintro pre x W ⟨hi, hl, hk⟩ hnx
      have hlt : w.heap.size + 1 < W.heap.size := (Array.getElem?_eq_some_iff.1 hl).1
      have hy := run_yield (P := P) (args := encs x) hl (by rw [hrec]; exact hps x)
      rw [hrec] at hy
      refine ⟨fn, _, assign, body, hy, roundIn_of_wpIn hfn (hassign _ pre x W _ hi ?_)⟩
      clear hy
      intro a' Wa hkfa hkpa hia hax
      replace hl := hkfa.same _ _ (by omega) hl rfl
      replace hk := hkfa.same _ _ (Nat.le_refl _) hk rfl
      have hlt2 : w.heap.size + 1 < Wa.heap.size := (Array.getElem?_eq_some_iff.1 hl).1
      refine ⟨_, run_beginRound hl (by rw [hrec]), ?_⟩
      have hl2 : (Wa.putObj (w.heap.size + 1) (.loop { rec .ready none with state := .busy })).heap[w.heap.size + 1]? = some (.loop { rec .ready none with state := .busy }) := World.putObj_heap_same hlt2
      have hk2 : (Wa.putObj (w.heap.size + 1) (.loop { rec .ready none with state := .busy })).heap[w.heap.size]? = some (.deferred (some [])) := (World.putObj_heap_other (by omega)).trans hk
      have hw2 : Kp Wa (Wa.putObj (w.heap.size + 1) (.loop { rec .ready none with state := .busy })) := hKb _ _ _ _ (by omega) hl rfl
      refine wpIn_mono (hbody _ pre x a' _ (by omega) (Array.getElem?_eq_some_iff.1 hl2).1 (hI.putObj hia (by omega) hl rfl) ((hAx x a').putObj (s := ()) hax (by omega) hl rfl) hnx) ?_
      rintro e a3 W3 hp
      cases e with
      | normal =>
        obtain ⟨hk3, hkp3, hi3⟩ := hp
        have hl3 := hk3.same _ _ (by omega) hl2 rfl
        have hr := run_endRound (P := P) none hl3
        rw [hrec] at hr
        have hl3' := hl3
        rw [hrec] at hl3'
        refine ⟨_, _, hr, rfl, ⟨hI.putObj hi3 (by omega) hl3' rfl, ?_, ?_⟩, hKt hkpa (hKt (hKt hw2 hkp3) (hKb _ _ _ _ (by omega) hl3' rfl))⟩
        · rw [hrec]
          exact World.putObj_heap_same (Array.getElem?_eq_some_iff.1 hl3).1
        · exact (World.putObj_heap_other (by omega)).trans (hk3.same _ _ (Nat.le_refl _) hk2 rfl)
      | ret => exact hp.elim
      | exit id => exact hp.elim
      | goto t => exact hp.elim
      | panic ch => exact hp.elim
      | outgrown => exact hp.elim
    · rintro e W2 ⟨⟨v, rfl⟩, hi, hl, hk⟩
      refine ⟨none, _, by have := run_endLoop (P := P) hl (by rw [hrec]; simp); rw [hrec] at this; exact this, ?_⟩
      exact hdone _ _ (Nat.le_refl _) (hI.putObj hi (by omega) hl rfl) ((World.putObj_heap_other (by omega)).trans hk)
end Go.Proofs.Ytchhkokpjdkkiaa
