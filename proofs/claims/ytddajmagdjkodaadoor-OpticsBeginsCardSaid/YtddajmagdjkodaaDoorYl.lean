/- Contracts of the reference's SamePulses and SameClicks, at equal lists: they only read. The walk of the law OpticsBegins. -/
import Derived.Test.YtddajmagdjkodaaDoorVa
import Derived.Test.YtddajmagdjkodaaDoorQc
import Derived.Test.YtddajmagdjkodaaDoorYq
import Derived.Test.YtddajmagdjkodaaDoorYf
import Derived.Test.YtddajmagdjkodaaDoorYi
import Derived.Test.YtddajmagdjkodaaDoorQt
import Derived.Test.YtddajmagdjkodaaDoorQl
import Derived.Test.YtddajmagdjkodaaDoorVt
import Derived.BigQuiet
namespace Go.Proofs.YtddajmagdjkodaaDoor
open Go.RowKit

set_option maxRecDepth 100000 in
set_option maxHeartbeats 3200000 in
theorem samePulses_q (A A' : Option Addr) (n c n' c' : Nat) (L : List Pu) (w : World) (r : Rd ePu w w.heap.size A n c L) (q : Rd ePu w w.heap.size A' n' c' L) :
    Calls Tryd.prog 31 #[.slice A n c, .slice A' n' c'] w fun e w' => e = .returned (.bool true) ∧ ∃ m, w' = w.drewN m := by
  have hl := r.len
  have hm := r.max
  have hcap := r.cap
  have hl' := q.len
  have hm' := q.max
  have hcap' := q.cap
  obtain rfl : n = n' := by omega
  clear hl'
  go_enter Tryd.func31, Tryd.ntmps31
  go_wp2
  go_loopw [5] (fun iv wr => ∃ k : Nat, k ≤ n ∧ iv = .int .i64 k ∧ ∃ m, wr = w.drewN m) (fun iv _ => n - (intOf iv).toNat)
  case atStart => exact ⟨0, by omega, rfl, 0, rfl⟩
  case round =>
    obtain ⟨k, hk, rfl, mm, hwr⟩ := hrel
    have r' := r.drewN mm
    have q' := q.drewN mm
    rw [← hwr] at r' q'
    have HW := hide hwr
    clear hwr
    by_cases hlt : k < n
    · obtain ⟨b, off, x, rfl, hb, hx, hc⟩ := r'.get hlt
      obtain ⟨b', off', x', rfl, hb', hx', hc'⟩ := q'.get hlt
      have hxx : x = x' := by rw [hx] at hx'; injection hx'
      subst hxx
      have c0 := hc 0 _ rfl
      have d0 := hc' 0 _ rfl
      have c1 := hc 1 _ rfl
      have d1 := hc' 1 _ rfl
      have c2 := hc 2 _ rfl
      have d2 := hc' 2 _ rfl
      have c3 := hc 3 _ rfl
      have d3 := hc' 3 _ rfl
      have c4 := hc 4 _ rfl
      have d4 := hc' 4 _ rfl
      simp only [ePu, Nat.add_zero] at c0 d0 c1 d1 c2 d2 c3 d3 c4 d4
      clear hc hc' hx hx'
      obtain ⟨x0, x1, x2, x3, x4⟩ := x
      simp only at c0 d0 c1 d1 c2 d2 c3 d3 c4 d4
      go_wp2
      go_quiet (fail)
      go_wp2
      go_roundw
      case rel => exact ⟨k + 1, by omega, by go_num, mm + nq, by rw [HW.out, World.drewN_drewN]⟩
      case measure => simp [intOf] <;> omega
    · go_wp2
      go_ret
      exact ⟨rfl, mm, HW.out⟩

set_option maxRecDepth 100000 in
set_option maxHeartbeats 3200000 in
theorem sameClicks_q (A A' : Option Addr) (n c n' c' : Nat) (L : List Ck) (w : World) (r : Rd eCk w w.heap.size A n c L) (q : Rd eCk w w.heap.size A' n' c' L) :
    Calls Tryd.prog 28 #[.slice A n c, .slice A' n' c'] w fun e w' => e = .returned (.bool true) ∧ ∃ m, w' = w.drewN m := by
  have hl := r.len
  have hm := r.max
  have hcap := r.cap
  have hl' := q.len
  have hm' := q.max
  have hcap' := q.cap
  obtain rfl : n = n' := by omega
  clear hl'
  go_enter Tryd.func28, Tryd.ntmps28
  go_wp2
  go_loopw [5] (fun iv wr => ∃ k : Nat, k ≤ n ∧ iv = .int .i64 k ∧ ∃ m, wr = w.drewN m) (fun iv _ => n - (intOf iv).toNat)
  case atStart => exact ⟨0, by omega, rfl, 0, rfl⟩
  case round =>
    obtain ⟨k, hk, rfl, mm, hwr⟩ := hrel
    have r' := r.drewN mm
    have q' := q.drewN mm
    rw [← hwr] at r' q'
    have HW := hide hwr
    clear hwr
    by_cases hlt : k < n
    · obtain ⟨b, off, x, rfl, hb, hx, hc⟩ := r'.get hlt
      obtain ⟨b', off', x', rfl, hb', hx', hc'⟩ := q'.get hlt
      have hxx : x = x' := by rw [hx] at hx'; injection hx'
      subst hxx
      have c0 := hc 0 _ rfl
      have d0 := hc' 0 _ rfl
      have c1 := hc 1 _ rfl
      have d1 := hc' 1 _ rfl
      simp only [eCk, Nat.add_zero] at c0 d0 c1 d1
      clear hc hc' hx hx'
      obtain ⟨x0, x1⟩ := x
      simp only at c0 d0 c1 d1
      go_wp2
      go_quiet (fail)
      go_wp2
      go_roundw
      case rel => exact ⟨k + 1, by omega, by go_num, mm + nq, by rw [HW.out, World.drewN_drewN]⟩
      case measure => simp [intOf] <;> omega
    · go_wp2
      go_ret
      exact ⟨rfl, mm, HW.out⟩
end Go.Proofs.YtddajmagdjkodaaDoor
namespace Go.Proofs.YtddajmagdjkodaaDoor
open Go.RowKit

def kBegins : List Int := [4, 1, 2, 5, 6, 7]
theorem kBegins_ok : OkK kBegins := ⟨by decide, by decide, by decide⟩
theorem filt_yes {N : List No} {k m : Nat} {y : No} (h : N[k]? = some y) (hy : y.slot < (m : Int)) : (N.take (k + 1)).filter (fun y : No => decide (y.slot < (m : Int))) = (N.take k).filter (fun y : No => decide (y.slot < (m : Int))) ++ [y] := by
  rw [List.take_add_one, h, List.filter_append]; simp [hy]
theorem filt_no {N : List No} {k m : Nat} {y : No} (h : N[k]? = some y) (hy : ¬ y.slot < (m : Int)) : (N.take (k + 1)).filter (fun y : No => decide (y.slot < (m : Int))) = (N.take k).filter (fun y : No => decide (y.slot < (m : Int))) := by
  rw [List.take_add_one, h, List.filter_append]; simp; omega
theorem filt_len (N : List No) (k m : Nat) : ((N.take k).filter (fun y : No => decide (y.slot < (m : Int)))).length ≤ k :=
  Nat.le_trans (List.length_filter_le _ _) (by rw [List.length_take]; omega)

set_option maxRecDepth 100000 in
set_option maxHeartbeats 6400000 in
/-- The law's tail: two flights, the longer of n slots, the other of m. -/
theorem begins_c (f : Nat → Int) (A : Option Addr) (k0 c0 : Nat) (S : List Sp) (u v : Nat) (hu : u < 256) (hv : v < 256) (n m : Nat) (hmn : m ≤ n) (hcase : (u = n ∧ v = m) ∨ (u = m ∧ v = n)) (a b c : Nat) (w : World) (s : Rd eSp w w.heap.size A k0 c0 S) (ht : Tab w) :
    Calls Tryd.prog 12 #[.agg (cells18 f), .slice A k0 c0, .int .u8 (u : Int), .int .u8 (v : Int), .int .u64 (a : Int), .int .u64 (b : Int), .int .u64 (c : Int)] w fun e w' => e = .returned (.bool true) ∧ Below w.heap.size w w' := by
  have hO := Blk.newAt w 40 (cells18 f) w.heap.size rfl
  have hb := below_alloc w (.cells (cells18 f) 40)
  have ht1 := ht.on hb
  have s1 := s.on hb
  have hn : n < 256 := by omega
  have hm : m < 256 := by omega
  have hmin : min (u : Int) (v : Int) = (m : Int) := by omega
  have hmax : max (u : Int) (v : Int) = (n : Int) := by omega
  have HC := hide hcase
  clear hcase
  go_enter Tryd.func12, Tryd.ntmps12
  go_upto_region 1 with fail
  obtain ⟨W, hW⟩ : ∃ W, W = w.alloc (.cells (cells18 f) 40) := ⟨_, rfl⟩
  rw [← hW] at hO hb ht1 s1 ⊢
  clear hW
  obtain ⟨gO, hgO⟩ : ∃ q, q = w.heap.size := ⟨_, rfl⟩
  rw [← hgO] at hO ⊢
  have HGO := hide hgO
  clear hgO ht s
  by_cases h0 : checkErr f = 0
  case neg =>
    have h2 := check_two h0
    have hne2 : ((2 : Int) != 0) = true := rfl
    have HC1 := hide (fun W => (by have q := check_c (f) W; rw [h2] at q; exact q : Calls Tryd.prog 40 #[.agg (cells18 (f))] W fun e w' => e = .returned (.int .i64 2) ∧ Below W.heap.size W w'))
    have HC2 := hide (fun W => (by have q := rcheck_c (f) W; rw [h2] at q; exact q : Calls Tryd.prog 41 #[.agg (cells18 (f))] W fun e w' => e = .returned (.int .i64 2) ∧ Below W.heap.size W w'))
    clear h0 h2
    go_wp2_with (first | (refine wl_load (o := ⟨some 23, _, _, _, _, _⟩) rfl 40 _ rfl gO rfl 40 (cells18 f) _ hO Tryd.underlying40 rfl (by kernel_rfl) ?_) | (go_at_call 40; refine (HC1.out _).mono ?_; rintro e w1 ⟨rfl, hb1⟩; have hO1 := hO.keep hb1; have ht2 := ht1.on hb1) | (refine wl_load (o := ⟨some 26, _, _, _, _, _⟩) rfl 40 _ rfl gO rfl 40 (cells18 f) _ hO1 Tryd.underlying40 rfl (by kernel_rfl) ?_) | (go_at_call 41; refine (HC2.out _).mono ?_; rintro e w2 ⟨rfl, hb2⟩; have ht3 := ht2.on hb2) | (go_at_call 18; refine (works_c _ ht3).mono ?_; rintro e w' ⟨rfl, hbz⟩))
    go_ret
    exact ⟨rfl, below_on (below_on (below_on hb hb1) hb2) hbz⟩
  have HC1 := hide (fun W => (by have q := check_c (f) W; rw [h0] at q; exact q : Calls Tryd.prog 40 #[.agg (cells18 (f))] W fun e w' => e = .returned (.int .i64 0) ∧ Below W.heap.size W w'))
  have HF := hide h0
  clear h0
  go_upto_region 3 with (first | (refine wl_load (o := ⟨some 23, _, _, _, _, _⟩) rfl 40 _ rfl gO rfl 40 (cells18 f) _ hO Tryd.underlying40 rfl (by kernel_rfl) ?_) | (go_at_call 40; refine (HC1.out _).mono ?_; rintro e w1 ⟨rfl, hb1⟩))
  have hO1 := hO.keep hb1
  have ht2 := ht1.on hb1
  have s2 := s1.on hb1
  have hb2 := below_on hb hb1
  clear hO ht1 s1 hb1 HC1
  have q2 := Rd.many (e := eInt) w1 3 kBegins #[.int .i64 4, .int .i64 1, .int .i64 2, .int .i64 5, .int .i64 6, .int .i64 7] rfl 6 rfl (by omega) w1.heap.size rfl
  have s3 := s2.alloc (.cells #[.int .i64 4, .int .i64 1, .int .i64 2, .int .i64 5, .int .i64 6, .int .i64 7] 3)
  have hb3 := below_alloc w1 (.cells #[.int .i64 4, .int .i64 1, .int .i64 2, .int .i64 5, .int .i64 6, .int .i64 7] 3)
  go_upto_region 4 with (go_at_call 36; refine (rules_c kBegins kBegins_ok S A k0 c0 _ 6 6 _ s3 q2).mono ?_; rintro e w3 ⟨A0, n0, c4, rfl, r3, hb4⟩)
  have hb5 := below_on hb3 hb4
  have hO3 := hO1.keep hb5
  have ht3 := ht2.on hb5
  have hb6 := below_on hb2 hb5
  clear hO1 ht2 s2 s3 q2 hb3 hb4 hb5 hb2
  obtain ⟨L, hL⟩ : ∃ L, L = genL kBegins S := ⟨_, rfl⟩
  rw [← hL] at r3
  have HL1 := hide (show rulesErr L = 0 by rw [hL]; exact (genL_ok kBegins_ok S).1)
  have HL2 := hide (show shiftErr L = 0 by rw [hL]; exact (genL_ok kBegins_ok S).2)
  clear hL
  go_upto_region 5 with fail
  go_upto_region 6 with (first | (refine wl_load (o := ⟨some 41, _, _, _, _, _⟩) rfl 40 _ rfl gO rfl 40 (cells18 f) _ hO3 Tryd.underlying40 rfl (by kernel_rfl) ?_) | (go_at_call 46; refine (flight_c f A0 n0 c4 L n a b c w3 r3 HF.out HL1.out HL2.out (by omega)).mono ?_; rintro e w4 ⟨A1, c1, B1, d1, N1, n1, e1, rfl, p4, k4, o4, hb7⟩))
  have hF := Blk.newAt w4 77 #[.slice A1 n c1, .slice B1 n d1, .slice N1 n1 e1, .int .i64 0] w4.heap.size rfl
  have hb8 := below_on hb7 (below_alloc w4 (.cells #[.slice A1 n c1, .slice B1 n d1, .slice N1 n1 e1, .int .i64 0] 77))
  have p5 := p4.alloc (.cells #[.slice A1 n c1, .slice B1 n d1, .slice N1 n1 e1, .int .i64 0] 77)
  have k5 := k4.alloc (.cells #[.slice A1 n c1, .slice B1 n d1, .slice N1 n1 e1, .int .i64 0] 77)
  have o5 := o4.alloc (.cells #[.slice A1 n c1, .slice B1 n d1, .slice N1 n1 e1, .int .i64 0] 77)
  have r5 := r3.on hb8
  have ht5 := ht3.on hb8
  have hO5 := hO3.keep hb8
  have hb9 := below_on hb6 hb8
  obtain ⟨W5, hW5⟩ : ∃ q, q = w4.alloc (.cells #[.slice A1 n c1, .slice B1 n d1, .slice N1 n1 e1, .int .i64 0] 77) := ⟨_, rfl⟩
  rw [← hW5] at hF p5 k5 o5 r5 ht5 hO5 hb9 ⊢
  obtain ⟨gF, hgF⟩ : ∃ q, q = w4.heap.size := ⟨_, rfl⟩
  rw [← hgF] at hF ⊢
  clear hb8 hW5 hgF p4 k4 o4 r3 ht3 hb6 hO3 hb7
  go_upto_region 7 with (first | (refine wl_load (o := ⟨some 56, _, _, _, _, _⟩) rfl 40 _ rfl gO rfl 40 (cells18 f) _ hO5 Tryd.underlying40 rfl (by kernel_rfl) ?_) | (go_at_call 46; refine (flight_c f A0 n0 c4 L m a b c W5 r5 HF.out HL1.out HL2.out (by omega)).mono ?_; rintro e w6 ⟨A2, c2, B2, d2, N2, n2, e2, rfl, p6, k6, o6, hb10⟩))
  have hG := Blk.newAt w6 77 #[.slice A2 m c2, .slice B2 m d2, .slice N2 n2 e2, .int .i64 0] w6.heap.size rfl
  have hb11 := below_on hb10 (below_alloc w6 (.cells #[.slice A2 m c2, .slice B2 m d2, .slice N2 n2 e2, .int .i64 0] 77))
  have hF7 := hF.keep hb11
  have p7 := (p5.on hb11).take hmn
  have k7 := (k5.on hb11).take hmn
  have o7 := o5.on hb11
  have P7 := p6.alloc (.cells #[.slice A2 m c2, .slice B2 m d2, .slice N2 n2 e2, .int .i64 0] 77)
  have K7 := k6.alloc (.cells #[.slice A2 m c2, .slice B2 m d2, .slice N2 n2 e2, .int .i64 0] 77)
  have O7 := o6.alloc (.cells #[.slice A2 m c2, .slice B2 m d2, .slice N2 n2 e2, .int .i64 0] 77)
  have ht7 := ht5.on hb11
  have hb12 := below_on hb9 hb11
  obtain ⟨W7, hW7⟩ : ∃ q, q = w6.alloc (.cells #[.slice A2 m c2, .slice B2 m d2, .slice N2 n2 e2, .int .i64 0] 77) := ⟨_, rfl⟩
  rw [← hW7] at hF7 hG p7 k7 o7 P7 K7 O7 ht7 hb12 ⊢
  obtain ⟨gG, hgG⟩ : ∃ q, q = w6.heap.size := ⟨_, rfl⟩
  rw [← hgG] at hG ⊢
  clear hW7 hgG p6 k6 o6 p5 k5 o5 hF hO5 ht5 hb9 hb10 hb11 r5
  rw [begins_P f a hmn] at p7
  rw [begins_C f L a b c hmn] at k7
  have HBN := hide (begins_N f L a b hmn)
  have f0 := hF7.cell 0
  have f1 := hF7.cell 1
  have f2 := hF7.cell 2
  have g0 := hG.cell 0
  have g1 := hG.cell 1
  have g2 := hG.cell 2
  simp only [List.getElem?_toArray, List.getElem?_cons_succ, List.getElem?_cons_zero] at f0 f1 f2 g0 g1 g2
  have pc := p7.cap
  have pm := p7.max
  have kc := k7.cap
  have km := k7.max
  have hi1 : (m : Int) ≤ (c1 : Int) := by omega
  have hi2 : (m : Int) ≤ (d1 : Int) := by omega
  have HP := hide (fun q => samePulses_q A1 A2 m c1 m c2 _ (W7.drewN q) (p7.drewN q) (P7.drewN q))
  have HK := hide (fun q => sameClicks_q B1 B2 m d1 m d2 _ (W7.drewN q) (k7.drewN q) (K7.drewN q))
  clear p7 P7 k7 K7
  go_quiet (first | (go_at_call 31; exact Calls.quiet_of (HP.out _)) | (go_at_call 28; exact Calls.quiet_of (HK.out _)))
  have hnl : n1 ≤ 10000 := by
    have h1 := o7.len
    have h2 := carrF_notes L (emiF f a n).1 b n
    have h3 := (rulesErr_zero HL1.out).1
    have h4 : n * L.length ≤ 256 * 32 := Nat.mul_le_mul (by omega) h3
    omega
  obtain ⟨W8, hW8⟩ : ∃ q, q = W7.drewN nq := ⟨_, rfl⟩
  have hF8 := hF7.drewN nq
  have hG8 := hG.drewN nq
  have o8 := (o7.drewN nq).mono (B' := (W7.drewN nq).heap.size) (Nat.le_refl _)
  have O8 := (O7.drewN nq).mono (B' := (W7.drewN nq).heap.size) (Nat.le_refl _)
  have ht8 := ht7.on (below_drewN (Below.refl _ _) nq)
  have hb13 := below_drewN hb12 nq
  rw [← hW8] at hF8 hG8 o8 O8 ht8 hb13 ⊢
  clear hW8 hF7 hG o7 O7 ht7 hb12 HP HK
  obtain ⟨N, hN⟩ : ∃ N, N = (carrF L (emiF f a n).1 b n).2.1 := ⟨_, rfl⟩
  rw [← hN] at o8 HBN
  clear hN
  have oc := o8.cap
  have om := o8.max
  have OL := hide o8.len
  go_upto_region 11 with fail
  clear f0 f1 f2 g0 g1 g2
  go_loopw [22, 21] (fun iv ov wr => ∃ (k : Nat) (Q : Option Addr) (cq : Nat), k ≤ n1 ∧ iv = .int .i64 k ∧ ov = .slice Q ((N.take k).filter (fun y : No => decide (y.slot < (m : Int)))).length cq ∧ Ow eNo wr W8.heap.size 86 Q ((N.take k).filter (fun y : No => decide (y.slot < (m : Int)))).length cq ((N.take k).filter (fun y : No => decide (y.slot < (m : Int)))) ∧ Below W8.heap.size W8 wr) (fun iv _ _ => n1 - (intOf iv).toNat)
  case atStart => exact ⟨0, none, 0, by omega, rfl, rfl, Ow.nil _ _ _, Below.refl _ _⟩
  case round =>
    obtain ⟨k, Q, cq, hk, rfl, rfl, ow, hbk⟩ := hrel
    have f2 := (hF8.keep hbk).cell 2
    have g2 := (hG8.keep hbk).cell 2
    simp only [List.getElem?_toArray, List.getElem?_cons_succ, List.getElem?_cons_zero] at f2 g2
    have hfl := filt_len N k m
    by_cases hlt : k < n1
    · obtain ⟨b1, off, y, rfl, hbb, hy, hc⟩ := (o8.below hbk).get hlt
      have y0 := hc 0 _ rfl
      have y1 := hc 1 _ rfl
      have y2 := hc 2 _ rfl
      have y3 := hc 3 _ rfl
      simp only [eNo, Nat.add_zero] at y0 y1 y2 y3
      by_cases hs : y.slot < (m : Int)
      · have HY := hide (filt_yes hy hs)
        obtain ⟨ys, yh, yb, yt⟩ := y
        simp only at y0 y1 y2 y3 hs
        clear hc hy
        obtain ⟨FK, hFK⟩ : ∃ FK, FK = (N.take k).filter (fun y : No => decide (y.slot < (m : Int))) := ⟨_, rfl⟩
        rw [← hFK] at ow HY hfl ⊢
        have HFK := hide hFK
        clear hFK
        have hR := Rd.newAt (e := eNo) wr 86 (⟨ys, yh, yb, yt⟩ : No) #[.int .i64 ys, .int .i64 yh, .int .i64 yb, .bool yt] rfl wr.heap.size rfl
        go_upto_region 14 with fail
        go_wp2_with (at_builtin; refine wl_app eNo _ rfl (.tmp 107) (.tmp 113) _ rfl W8.heap.size 86 (.agg #[.int .i64 0, .int .i64 0, .int .i64 0, .bool false]) 32 Tryd.underlying24 info_no rfl (by omega) _ _ _ _ (by rfl) (ow.alloc _) _ 1 1 [⟨ys, yh, yb, yt⟩] (by rfl) _ hR (by omega) (by have := hbk.size; simp; omega) ?_; intro A5 c5 w9 o9 hg9 hA9)
        go_roundw
        case rel => exact ⟨k + 1, A5, c5, by omega, by go_num, by rw [HY.out, List.length_append]; rfl, by rw [HY.out, List.length_append]; exact o9, below_app (hbk.alloc hbk.size _) (ow.alloc _) hg9 (Nat.le_refl _) (Nat.le_refl _)⟩
        case measure => simp [intOf] <;> omega
      · have HY := hide (filt_no hy hs)
        obtain ⟨ys, yh, yb, yt⟩ := y
        simp only at y0 y1 y2 y3 hs
        clear hc hy
        go_wp2
        go_roundw
        case rel => exact ⟨k + 1, Q, cq, by omega, by go_num, by rw [HY.out], by rw [HY.out]; exact ow, hbk⟩
        case measure => simp [intOf] <;> omega
    · have hall : (N.take k).filter (fun y : No => decide (y.slot < (m : Int))) = (carrF L (emiF f a m).1 b m).2.1 := by
        rw [List.take_of_length_le (by have := OL.out; omega)]; exact HBN.out
      rw [hall] at ow hfl ⊢
      have HSN := hide (sameNotes_c Q N2 _ cq n2 e2 _ wr ow.rd (O8.on hbk))
      have hn2 := O8.len
      have HN2 := hide hn2
      clear hall hn2 HBN
      go_wp2_with (first | (go_at_call 35; refine HSN.out.mono ?_; rintro e w5 ⟨rfl, hb15⟩) | (go_at_call 18; refine (works_c _ (ht8.on (below_on hbk hb15))).mono ?_; rintro e w' ⟨rfl, hbz⟩))
      go_ret
      exact ⟨rfl, below_on (below_on (below_on hb13 hbk) hb15) hbz⟩
theorem begins_w (f : Nat → Int) (_ : True) (A : Option Addr) (k0 c0 : Nat) (S : List Sp) (u : Int) (wu : (Lit.int .u8 u).wf = true) (v : Int) (wv : (Lit.int .u8 v).wf = true) (a : Int) (wa : (Lit.int .u64 a).wf = true) (b : Int) (wb : (Lit.int .u64 b).wf = true) (c : Int) (wc : (Lit.int .u64 c).wf = true) (w : World) (s : Rd eSp w w.heap.size A k0 c0 S) (ht : Tab w) :
    Calls Tryd.prog 12 #[.agg (cells18 f), .slice A k0 c0, .int .u8 u, .int .u8 v, .int .u64 a, .int .u64 b, .int .u64 c] w fun e w' => e = .returned (.bool true) ∧ Below w.heap.size w w' := by
  obtain ⟨u, rfl, hu⟩ := u8_nat wu
  obtain ⟨v, rfl, hv⟩ := u8_nat wv
  obtain ⟨a, rfl⟩ := u64_nat' wa
  obtain ⟨b, rfl⟩ := u64_nat' wb
  obtain ⟨c, rfl⟩ := u64_nat' wc
  by_cases h : u ≤ v
  · exact begins_c f A k0 c0 S u v hu hv v u h (.inr ⟨rfl, rfl⟩) a b c w s ht
  · exact begins_c f A k0 c0 S u v hu hv u v (by omega) (.inl ⟨rfl, rfl⟩) a b c w s ht
end Go.Proofs.YtddajmagdjkodaaDoor
