/- Contracts of both Count, of Ints. -/
import Derived.Test.YtddajmagdjkodaaDoorQb
namespace Go.Proofs.YtddajmagdjkodaaDoor
open Go.RowKit

/-- How many pulses have this class and these photons. -/
def cnt (L : List Pu) (j : Nat) : Nat := (L.filter fun p => decide (p.cl * 4 + p.ph = (j : Int))).length
def cells12 (f : Nat → Nat) : Array Value := #[.int .i64 (f 0), .int .i64 (f 1), .int .i64 (f 2), .int .i64 (f 3), .int .i64 (f 4), .int .i64 (f 5), .int .i64 (f 6), .int .i64 (f 7), .int .i64 (f 8), .int .i64 (f 9), .int .i64 (f 10), .int .i64 (f 11)]
theorem cells12_one (f : Nat → Nat) : (cells12 f).all (·.oneCell') = true := by simp [cells12, Value.oneCell']
theorem cells12_get (f : Nat → Nat) {j : Nat} (hj : j < 12) : (cells12 f)[j]? = some (.int .i64 (f j)) := by
  match j, hj with
  | 0, _ | 1, _ | 2, _ | 3, _ | 4, _ | 5, _ | 6, _ | 7, _ | 8, _ | 9, _ | 10, _ | 11, _ => rfl
theorem cells12_set (f f' : Nat → Nat) {j : Nat} (hj : j < 12) (h1 : f' j = f j + 1) (h2 : ∀ i, i ≠ j → f' i = f i) : (cells12 f).setIfInBounds j (.int .i64 ((f j : Int) + 1)) = cells12 f' := by
  have e : ((f j : Int) + 1) = ((f' j : Nat) : Int) := by rw [h1]; rfl
  rw [e]
  match j, hj, h2 with
  | 0, _, h2 => simp [cells12, h2 1, h2 2, h2 3, h2 4, h2 5, h2 6, h2 7, h2 8, h2 9, h2 10, h2 11]
  | 1, _, h2 => simp [cells12, h2 0, h2 2, h2 3, h2 4, h2 5, h2 6, h2 7, h2 8, h2 9, h2 10, h2 11]
  | 2, _, h2 => simp [cells12, h2 1, h2 0, h2 3, h2 4, h2 5, h2 6, h2 7, h2 8, h2 9, h2 10, h2 11]
  | 3, _, h2 => simp [cells12, h2 1, h2 2, h2 0, h2 4, h2 5, h2 6, h2 7, h2 8, h2 9, h2 10, h2 11]
  | 4, _, h2 => simp [cells12, h2 1, h2 2, h2 3, h2 0, h2 5, h2 6, h2 7, h2 8, h2 9, h2 10, h2 11]
  | 5, _, h2 => simp [cells12, h2 1, h2 2, h2 3, h2 4, h2 0, h2 6, h2 7, h2 8, h2 9, h2 10, h2 11]
  | 6, _, h2 => simp [cells12, h2 1, h2 2, h2 3, h2 4, h2 5, h2 0, h2 7, h2 8, h2 9, h2 10, h2 11]
  | 7, _, h2 => simp [cells12, h2 1, h2 2, h2 3, h2 4, h2 5, h2 6, h2 0, h2 8, h2 9, h2 10, h2 11]
  | 8, _, h2 => simp [cells12, h2 1, h2 2, h2 3, h2 4, h2 5, h2 6, h2 7, h2 0, h2 9, h2 10, h2 11]
  | 9, _, h2 => simp [cells12, h2 1, h2 2, h2 3, h2 4, h2 5, h2 6, h2 7, h2 8, h2 0, h2 10, h2 11]
  | 10, _, h2 => simp [cells12, h2 1, h2 2, h2 3, h2 4, h2 5, h2 6, h2 7, h2 8, h2 9, h2 0, h2 11]
  | 11, _, h2 => simp [cells12, h2 1, h2 2, h2 3, h2 4, h2 5, h2 6, h2 7, h2 8, h2 9, h2 10, h2 0]
theorem cnt_len (L : List Pu) (j : Nat) : cnt L j ≤ L.length := List.length_filter_le _ _
theorem cnt_snoc {L : List Pu} {k : Nat} {p : Pu} (h : L[k]? = some p) (j : Nat) : cnt (L.take (k + 1)) j = cnt (L.take k) j + if p.cl * 4 + p.ph = (j : Int) then 1 else 0 := by
  unfold cnt; rw [List.take_add_one, h, List.filter_append, List.length_append]
  by_cases hj : p.cl * 4 + p.ph = (j : Int) <;> simp [hj]
theorem pulsesErr_ok_at {L : List Pu} (h : pulsesErr L = 0) {k : Nat} {x : Pu} (hx : L[k]? = some x) : okPu x = true := by
  unfold pulsesErr at h
  split at h
  · omega
  · split at h
    · rename_i ha; exact List.all_eq_true.1 ha x (List.mem_of_getElem? hx)
    · omega
theorem pulsesErr_le' {L : List Pu} (h : pulsesErr L = 0) : L.length ≤ 4096 := by
  unfold pulsesErr at h; split at h
  · omega
  · omega
/-- What Count returns. -/
def countErr (L : List Pu) : Int := pulsesErr L
def countOf (L : List Pu) (j : Nat) : Nat := if pulsesErr L = 0 then cnt L j else 0
def SCount (L : List Pu) (w : World) (e : Ending) (w' : World) : Prop := e = .returned (.tuple #[.agg (cells12 (countOf L)), .int .i64 (countErr L)]) ∧ Below w.heap.size w w'

theorem SCount.err {L : List Pu} {w w' : World} (h : ¬ pulsesErr L = 0) (hb : Below w.heap.size w w') : SCount L w (.returned (.tuple #[.agg (cells12 fun _ => 0), .int .i64 (pulsesErr L)])) w' := by
  refine ⟨?_, hb⟩
  rw [show countOf L = fun _ => 0 by funext j; unfold countOf; rw [if_neg h]]; rfl
theorem SCount.ok {L : List Pu} {w w' : World} (h : pulsesErr L = 0) (hb : Below w.heap.size w w') : SCount L w (.returned (.tuple #[.agg (cells12 (cnt L)), .int .i64 0])) w' := by
  refine ⟨?_, hb⟩
  rw [show countOf L = cnt L by funext j; unfold countOf; rw [if_pos h], show countErr L = 0 from h]
theorem cnt_at {L : List Pu} {k : Nat} {x : Pu} {p q : Nat} (hx : L[k]? = some x) (h : (x.cl, x.ph) = ((p : Int), (q : Int))) : cnt (L.take (k + 1)) (p * 4 + q) = cnt (L.take k) (p * 4 + q) + 1 := by
  injection h with h1 h2
  rw [cnt_snoc hx, if_pos (by rw [h1, h2]; omega)]
theorem cnt_other {L : List Pu} {k : Nat} {x : Pu} {p q : Nat} (hx : L[k]? = some x) (h : (x.cl, x.ph) = ((p : Int), (q : Int))) : ∀ i, i ≠ p * 4 + q → cnt (L.take (k + 1)) i = cnt (L.take k) i := by
  injection h with h1 h2
  intro i hi
  rw [cnt_snoc hx, if_neg (by rw [h1, h2]; omega), Nat.add_zero]

set_option maxRecDepth 100000 in
set_option maxHeartbeats 3200000 in
theorem count_c (A : Option Addr) (n c : Nat) (L : List Pu) (w : World) (s : Rd ePu w w.heap.size A n c L) :
    Calls Tryd.prog 24 #[.slice A n c] w (SCount L w) := by
  have hl := s.len
  have hm := s.max
  have hcap := s.cap
  have HL := hide hl
  clear hl
  have hv := fun W => valid_c A n c L W
  by_cases h0 : pulsesErr L = 0
  · simp only [h0] at hv
    have HV := hide hv
    have H0 := hide h0
    clear hv h0
    go_enter Tryd.func24, Tryd.ntmps24
    have hn : n ≤ 4096 := by have := HL.out; have := pulsesErr_le' H0.out; omega
    go_wp2_with (go_at_call 61; refine (HV.out _ ?_).mono ?_; exact (s.alloc _).alloc _; rintro e w1 ⟨rfl, hb1⟩)
    have hX := (Blk.newAt w 34 (cells12 fun _ => 0) w.heap.size rfl).alloc (.cells (cells12 fun _ => 0) 34) |>.keep hb1
    have hY := (Blk.newAt (w.alloc (.cells (cells12 fun _ => 0) 34)) 34 (cells12 fun _ => 0) (w.heap.size + 1) (by simp)).keep hb1
    have hb := below_on (below_alloc w (.cells (cells12 fun _ => 0) 34)) (below_on (below_alloc _ (.cells (cells12 fun _ => 0) 34)) hb1)
    clear hb1
    go_loopw [16] (fun iv wr => ∃ k : Nat, k ≤ n ∧ iv = .int .i64 k ∧ Blk wr (w.heap.size + 1) 34 (cells12 (cnt (L.take k))) ∧ Blk wr w.heap.size 34 (cells12 fun _ => 0) ∧ Below w.heap.size w wr) (fun iv _ => n - (intOf iv).toNat)
    case atStart => exact ⟨0, by omega, rfl, hY, hX, hb⟩
    case round =>
      clear hX hY hb
      obtain ⟨k, hk, rfl, hY, hX, hbw⟩ := hrel
      have hz := hbw.size
      by_cases hlt : k < n
      · obtain ⟨b, off, x, rfl, hb, hx, hc⟩ := (s.below hbw).get hlt
        have c0 := hc 0 _ rfl
        have c1 := hc 1 _ rfl
        have c2 := hc 2 _ rfl
        have c3 := hc 3 _ rfl
        have c4 := hc 4 _ rfl
        simp only [ePu, Nat.add_zero] at c0 c1 c2 c3 c4
        have HX := hide hx
        have hok := pulsesErr_ok_at H0.out hx
        clear hc hx
        obtain ⟨xb, xbit, xcl, xph, xseen⟩ := x
        simp only [okPu, decide_eq_true_eq] at hok
        simp only at c0 c1 c2 c3 c4
        obtain ⟨_, _, o3, o4, o5, o6⟩ := hok
        obtain ⟨p, rfl⟩ := Int.eq_ofNat_of_zero_le o3
        obtain ⟨q, rfl⟩ := Int.eq_ofNat_of_zero_le o5
        have hp : p ≤ 2 := by omega
        have hq : q ≤ 3 := by omega
        have hYa := hY.alloc (.cells #[.int .i64 xb, .bool xbit, .int .i64 (p : Int), .int .i64 (q : Int), .bool xseen] 59)
        have yc := hYa.cell (p * 4 + q)
        rw [cells12_get _ (by omega)] at yc
        have yf := hYa.frozen (p * 4 + q)
        have hcl := cnt_len (L.take k) (p * 4 + q)
        have hcl2 : (cnt (L.take k) (p * 4 + q) : Int) ≤ 4096 := by rw [List.length_take] at hcl; omega
        have hcl3 : (0 : Int) ≤ (cnt (L.take k) (p * 4 + q) : Int) := by omega
        clear hcl
        go_wp2
        go_region
        all_goals
          go_wp2
          go_roundw
          case rel => exact ⟨k + 1, by omega, by go_num, by rw [← cells12_set _ _ (show p * 4 + q < 12 by omega) (cnt_at HX.out rfl) (cnt_other HX.out rfl)]; exact hYa.set_ _ _, (hX.alloc _).far (p := ⟨w.heap.size + 1, _, none⟩) (by simp) _, ((hbw.alloc hz _).setCell (p := ⟨w.heap.size + 1, _, none⟩) (by simp) _).drew⟩
          case measure => simp [intOf] <;> omega
      · have hke : L.take k = L := List.take_of_length_le (by have := HL.out; omega)
        rw [hke] at hY
        go_wp2_with (first | (refine wl_load (o := ⟨some 31, _, _, _, _, _⟩) rfl 34 _ rfl (w.heap.size + 1) rfl 34 (cells12 (cnt L)) _ hY Tryd.underlying34 rfl (by kernel_rfl) ?_) | (refine wl_store (o := ⟨none, _, _, _, _, _⟩) rfl 34 _ _ rfl w.heap.size (cells12 (cnt L)) rfl rfl 34 (cells12 fun _ => 0) hX (by kernel_rfl) rfl (cells12_one _) ?_; intro w2 hX2 hg2))
        refine bodyPost_ret (results_row_tmp rfl _ _ w.heap.size 34 _ _ rfl hX2 Tryd.underlying34 rfl (by kernel_rfl)) rfl ?_
        exact SCount.ok H0.out (below_grown hbw hg2 (Nat.le_refl _) (Nat.le_refl _))
  · have H0 := hide h0
    have HV := hide hv
    have hne : (pulsesErr L != 0) = true := by simpa using h0
    clear hv h0
    go_enter Tryd.func24, Tryd.ntmps24
    go_wp2_with (go_at_call 61; refine (HV.out _ ?_).mono ?_; exact (s.alloc _).alloc _; rintro e w1 ⟨rfl, hb1⟩; refine Hid.out ?_)
    refine hide ?_
    have hX := (Blk.newAt w 34 (cells12 fun _ => 0) w.heap.size rfl).alloc (.cells (cells12 fun _ => 0) 34) |>.keep hb1
    have hY := (Blk.newAt (w.alloc (.cells (cells12 fun _ => 0) 34)) 34 (cells12 fun _ => 0) (w.heap.size + 1) (by simp)).keep hb1
    have hb := below_on (below_alloc w (.cells (cells12 fun _ => 0) 34)) (below_on (below_alloc _ (.cells (cells12 fun _ => 0) 34)) hb1)
    clear hb1
    go_wp2_with (first | (refine wl_load (o := ⟨some 12, _, _, _, _, _⟩) rfl 34 _ rfl (w.heap.size + 1) rfl 34 (cells12 fun _ => 0) _ hY Tryd.underlying34 rfl (by kernel_rfl) ?_) | (refine wl_store (o := ⟨none, _, _, _, _, _⟩) rfl 34 _ _ rfl w.heap.size (cells12 fun _ => 0) rfl rfl 34 (cells12 fun _ => 0) hX (by kernel_rfl) rfl (cells12_one _) ?_; intro w2 hX2 hg2))
    refine bodyPost_ret (results_row_tmp rfl _ _ w.heap.size 34 _ _ rfl hX2 Tryd.underlying34 rfl (by kernel_rfl)) rfl ?_
    exact SCount.err H0.out (below_grown hb hg2 (Nat.le_refl _) (Nat.le_refl _))

set_option maxRecDepth 100000 in
set_option maxHeartbeats 3200000 in
theorem rcount_c (A : Option Addr) (n c : Nat) (L : List Pu) (w : World) (s : Rd ePu w w.heap.size A n c L) :
    Calls Tryd.prog 25 #[.slice A n c] w (SCount L w) := by
  have hl := s.len
  have hm := s.max
  have hcap := s.cap
  have HL := hide hl
  clear hl
  have hv := fun W => rpulses_c A n c L W
  by_cases h0 : pulsesErr L = 0
  · simp only [h0] at hv
    have HV := hide hv
    have H0 := hide h0
    clear hv h0
    go_enter Tryd.func25, Tryd.ntmps25
    have hn : n ≤ 4096 := by have := HL.out; have := pulsesErr_le' H0.out; omega
    go_wp2_with (go_at_call 63; refine (HV.out _ ?_).mono ?_; exact (s.alloc _).alloc _; rintro e w1 ⟨rfl, hb1⟩)
    have hX := (Blk.newAt w 34 (cells12 fun _ => 0) w.heap.size rfl).alloc (.cells (cells12 fun _ => 0) 34) |>.keep hb1
    have hY := (Blk.newAt (w.alloc (.cells (cells12 fun _ => 0) 34)) 34 (cells12 fun _ => 0) (w.heap.size + 1) (by simp)).keep hb1
    have hb := below_on (below_alloc w (.cells (cells12 fun _ => 0) 34)) (below_on (below_alloc _ (.cells (cells12 fun _ => 0) 34)) hb1)
    clear hb1
    go_loopw [6] (fun iv wr => ∃ k : Nat, k ≤ n ∧ iv = .int .i64 k ∧ Blk wr (w.heap.size + 1) 34 (cells12 (cnt (L.take k))) ∧ Blk wr w.heap.size 34 (cells12 fun _ => 0) ∧ Below w.heap.size w wr) (fun iv _ => n - (intOf iv).toNat)
    case atStart => exact ⟨0, by omega, rfl, hY, hX, hb⟩
    case round =>
      clear hX hY hb
      obtain ⟨k, hk, rfl, hY, hX, hbw⟩ := hrel
      have hz := hbw.size
      by_cases hlt : k < n
      · obtain ⟨b, off, x, rfl, hb, hx, hc⟩ := (s.below hbw).get hlt
        have c0 := hc 0 _ rfl
        have c1 := hc 1 _ rfl
        have c2 := hc 2 _ rfl
        have c3 := hc 3 _ rfl
        have c4 := hc 4 _ rfl
        simp only [ePu, Nat.add_zero] at c0 c1 c2 c3 c4
        have HX := hide hx
        have hok := pulsesErr_ok_at H0.out hx
        clear hc hx
        obtain ⟨xb, xbit, xcl, xph, xseen⟩ := x
        simp only [okPu, decide_eq_true_eq] at hok
        simp only at c0 c1 c2 c3 c4
        obtain ⟨_, _, o3, o4, o5, o6⟩ := hok
        obtain ⟨p, rfl⟩ := Int.eq_ofNat_of_zero_le o3
        obtain ⟨q, rfl⟩ := Int.eq_ofNat_of_zero_le o5
        have hp : p ≤ 2 := by omega
        have hq : q ≤ 3 := by omega
        have hYa := hY
        have yc := hYa.cell (p * 4 + q)
        rw [cells12_get _ (by omega)] at yc
        have yf := hYa.frozen (p * 4 + q)
        have hcl := cnt_len (L.take k) (p * 4 + q)
        have hcl2 : (cnt (L.take k) (p * 4 + q) : Int) ≤ 4096 := by rw [List.length_take] at hcl; omega
        have hcl3 : (0 : Int) ≤ (cnt (L.take k) (p * 4 + q) : Int) := by omega
        clear hcl
        go_wp2
        go_region
        all_goals
          go_wp2
          go_roundw
          case rel => exact ⟨k + 1, by omega, by go_num, by rw [← cells12_set _ _ (show p * 4 + q < 12 by omega) (cnt_at HX.out rfl) (cnt_other HX.out rfl)]; exact hYa.set_ _ _, hX.far (p := ⟨w.heap.size + 1, _, none⟩) (by simp) _, (hbw.setCell (p := ⟨w.heap.size + 1, _, none⟩) (by simp) _).drew⟩
          case measure => simp [intOf] <;> omega
      · have hke : L.take k = L := List.take_of_length_le (by have := HL.out; omega)
        rw [hke] at hY
        go_wp2_with (first | (refine wl_load (o := ⟨some 35, _, _, _, _, _⟩) rfl 34 _ rfl (w.heap.size + 1) rfl 34 (cells12 (cnt L)) _ hY Tryd.underlying34 rfl (by kernel_rfl) ?_) | (refine wl_store (o := ⟨none, _, _, _, _, _⟩) rfl 34 _ _ rfl w.heap.size (cells12 (cnt L)) rfl rfl 34 (cells12 fun _ => 0) hX (by kernel_rfl) rfl (cells12_one _) ?_; intro w2 hX2 hg2))
        refine bodyPost_ret (results_row_tmp rfl _ _ w.heap.size 34 _ _ rfl hX2 Tryd.underlying34 rfl (by kernel_rfl)) rfl ?_
        exact SCount.ok H0.out (below_grown hbw hg2 (Nat.le_refl _) (Nat.le_refl _))
  · have H0 := hide h0
    have HV := hide hv
    have hne : (pulsesErr L != 0) = true := by simpa using h0
    clear hv h0
    go_enter Tryd.func25, Tryd.ntmps25
    go_wp2_with (go_at_call 63; refine (HV.out _ ?_).mono ?_; exact (s.alloc _).alloc _; rintro e w1 ⟨rfl, hb1⟩; refine Hid.out ?_)
    refine hide ?_
    have hX := (Blk.newAt w 34 (cells12 fun _ => 0) w.heap.size rfl).alloc (.cells (cells12 fun _ => 0) 34) |>.keep hb1
    have hY := (Blk.newAt (w.alloc (.cells (cells12 fun _ => 0) 34)) 34 (cells12 fun _ => 0) (w.heap.size + 1) (by simp)).keep hb1
    have hb := below_on (below_alloc w (.cells (cells12 fun _ => 0) 34)) (below_on (below_alloc _ (.cells (cells12 fun _ => 0) 34)) hb1)
    clear hb1
    go_wp2_with (first | (refine wl_load (o := ⟨some 11, _, _, _, _, _⟩) rfl 34 _ rfl (w.heap.size + 1) rfl 34 (cells12 fun _ => 0) _ hY Tryd.underlying34 rfl (by kernel_rfl) ?_) | (refine wl_store (o := ⟨none, _, _, _, _, _⟩) rfl 34 _ _ rfl w.heap.size (cells12 fun _ => 0) rfl rfl 34 (cells12 fun _ => 0) hX (by kernel_rfl) rfl (cells12_one _) ?_; intro w2 hX2 hg2))
    refine bodyPost_ret (results_row_tmp rfl _ _ w.heap.size 34 _ _ rfl hX2 Tryd.underlying34 rfl (by kernel_rfl)) rfl ?_
    exact SCount.err H0.out (below_grown hb hg2 (Nat.le_refl _) (Nat.le_refl _))

set_option maxRecDepth 100000 in
set_option maxHeartbeats 1600000 in
/-- Two equal lists of integers. -/
theorem ints_same (A : Option Addr) (n c : Nat) (A' : Option Addr) (n' c' : Nat) (L : List Nat) (w : World) (s : Rd eNat w w.heap.size A n c L) (t : Rd eNat w w.heap.size A' n' c' L) :
    Calls Tryd.prog 21 #[.slice A n c, .slice A' n' c'] w fun e w' => e = .returned (.bool true) ∧ Below w.heap.size w w' := by
  obtain rfl : n = n' := s.len.symm.trans t.len
  have hm := s.max
  have hcap := s.cap
  have tcap := t.cap
  have hnn : ((n : Int) != (n : Int)) = false := by simp
  go_enter Tryd.func21, Tryd.ntmps21
  go_wp2
  go_loopw [5] (fun iv wr => ∃ k : Nat, k ≤ n ∧ iv = .int .i64 k ∧ Below w.heap.size w wr) (fun iv _ => n - (intOf iv).toNat)
  case atStart => exact ⟨0, by omega, rfl, Below.refl _ _⟩
  case round =>
    obtain ⟨k, hk, rfl, hbw⟩ := hrel
    by_cases hlt : k < n
    · obtain ⟨b, off, x, rfl, hb, hx, hc⟩ := (s.below hbw).get hlt
      obtain ⟨b', off', x', rfl, hb', hx', hc'⟩ := (t.below hbw).get hlt
      obtain rfl : x = x' := by rw [hx] at hx'; injection hx'
      have c0 := hc 0 _ rfl
      have c1 := hc' 0 _ rfl
      simp only [eNat, Nat.add_zero, Nat.mul_one] at c0 c1
      have hk0 : (0 : Int) ≤ (k : Int) := by omega
      have hk1 : (k : Int) < (n : Int) := by omega
      have hxx : ((x : Int) != (x : Int)) = false := by simp
      clear hc hc' hx hx'
      go_wp2
      go_quiet (fail)
      go_wp2
      go_roundw
      case rel => exact ⟨k + 1, by omega, by go_num, below_drewN hbw _⟩
      case measure => simp [intOf] <;> omega
    · go_wp2
      go_ret
      exact ⟨rfl, hbw⟩
end Go.Proofs.YtddajmagdjkodaaDoor
