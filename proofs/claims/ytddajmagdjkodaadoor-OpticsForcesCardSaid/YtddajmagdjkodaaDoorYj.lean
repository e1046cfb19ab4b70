/- The walk of the law OpticsForces. -/
import Derived.Test.YtddajmagdjkodaaDoorYq
import Derived.Test.YtddajmagdjkodaaDoorYf
import Derived.Test.YtddajmagdjkodaaDoorYi
import Derived.Test.YtddajmagdjkodaaDoorQt
import Derived.Test.YtddajmagdjkodaaDoorQl
namespace Go.Proofs.YtddajmagdjkodaaDoor
open Go.RowKit

def kForces : List Int := [7, 4, 1, 2, 5, 6]
theorem kForces_ok : OkK kForces := ⟨by decide, by decide, by decide⟩
/-- What the inner loop of the law has found. -/
def Found (L : List Ru) (i q : Nat) (lv : Int) : Prop := (lv = -1 ∧ lastB (L.take q) i = none) ∨ ∃ (j : Nat) (r : Ru), lv = j ∧ j < q ∧ L[j]? = some r ∧ r.k = 7 ∧ lastB (L.take q) i = some r
theorem found_zero (L : List Ru) (i : Nat) : Found L i 0 (-1) := .inl ⟨rfl, rfl⟩
theorem found_yes {L : List Ru} {i q : Nat} {r : Ru} (hr : L[q]? = some r) (h : r.k = 7 ∧ r.fr ≤ (i : Int) ∧ (i : Int) ≤ r.to) : Found L i (q + 1) (q : Int) :=
  .inr ⟨q, r, rfl, by omega, hr, h.1, by rw [lastB_snoc hr, if_pos h]⟩
theorem found_no {L : List Ru} {i q : Nat} {lv : Int} {r : Ru} (hf : Found L i q lv) (hr : L[q]? = some r) (h : ¬ (r.k = 7 ∧ r.fr ≤ (i : Int) ∧ (i : Int) ≤ r.to)) : Found L i (q + 1) lv := by
  rcases hf with ⟨h1, h2⟩ | ⟨j, r', h1, h2, h3, h4, h5⟩
  · exact .inl ⟨h1, by rw [lastB_snoc hr, if_neg h]; exact h2⟩
  · exact .inr ⟨j, r', h1, by omega, h3, h4, by rw [lastB_snoc hr, if_neg h]; exact h5⟩

set_option maxRecDepth 100000 in
set_option maxHeartbeats 6400000 in
theorem forces_c (f : Nat → Int) (A : Option Addr) (k0 c0 : Nat) (S : List Sp) (m : Nat) (hm : m < 256) (a b c : Nat) (w : World) (s : Rd eSp w w.heap.size A k0 c0 S) (ht : Tab w) :
    Calls Tryd.prog 11 #[.agg (cells18 f), .slice A k0 c0, .int .u8 (m : Int), .int .u64 (a : Int), .int .u64 (b : Int), .int .u64 (c : Int)] w fun e w' => e = .returned (.bool true) ∧ Below w.heap.size w w' := by
  have hO := Blk.newAt w 40 (cells18 f) w.heap.size rfl
  have hb := below_alloc w (.cells (cells18 f) 40)
  have ht1 := ht.on hb
  have s1 := s.on hb
  go_enter Tryd.func11, Tryd.ntmps11
  go_upto_region 1 with fail
  obtain ⟨W, hW⟩ : ∃ W, W = w.alloc (.cells (cells18 f) 40) := ⟨_, rfl⟩
  rw [← hW] at hO hb ht1 s1 ⊢
  clear hW
  obtain ⟨gO, hgO⟩ : ∃ q, q = w.heap.size := ⟨_, rfl⟩
  rw [← hgO] at hO ⊢
  have HGO := hide hgO
  clear hgO ht s
  by_cases h0 : checkErr f = 0
  case neg =>
    have h2 := check_two h0
    have hne2 : ((2 : Int) != 0) = true := rfl
    have HC1 := hide (fun W => (by have q := check_c (f) W; rw [h2] at q; exact q : Calls Tryd.prog 40 #[.agg (cells18 (f))] W fun e w' => e = .returned (.int .i64 2) ∧ Below W.heap.size W w'))
    have HC2 := hide (fun W => (by have q := rcheck_c (f) W; rw [h2] at q; exact q : Calls Tryd.prog 41 #[.agg (cells18 (f))] W fun e w' => e = .returned (.int .i64 2) ∧ Below W.heap.size W w'))
    clear h0 h2
    go_wp2_with (first | (refine wl_load (o := ⟨some 20, _, _, _, _, _⟩) rfl 40 _ rfl gO rfl 40 (cells18 f) _ hO Tryd.underlying40 rfl (by kernel_rfl) ?_) | (go_at_call 40; refine (HC1.out _).mono ?_; rintro e w1 ⟨rfl, hb1⟩; have hO1 := hO.keep hb1; have ht2 := ht1.on hb1) | (refine wl_load (o := ⟨some 23, _, _, _, _, _⟩) rfl 40 _ rfl gO rfl 40 (cells18 f) _ hO1 Tryd.underlying40 rfl (by kernel_rfl) ?_) | (go_at_call 41; refine (HC2.out _).mono ?_; rintro e w2 ⟨rfl, hb2⟩; have ht3 := ht2.on hb2) | (go_at_call 18; refine (works_c _ ht3).mono ?_; rintro e w' ⟨rfl, hbz⟩))
    go_ret
    exact ⟨rfl, below_on (below_on (below_on hb hb1) hb2) hbz⟩
  have HC1 := hide (fun W => (by have q := check_c (f) W; rw [h0] at q; exact q : Calls Tryd.prog 40 #[.agg (cells18 (f))] W fun e w' => e = .returned (.int .i64 0) ∧ Below W.heap.size W w'))
  have HF := hide h0
  clear h0
  go_upto_region 3 with (first | (refine wl_load (o := ⟨some 20, _, _, _, _, _⟩) rfl 40 _ rfl gO rfl 40 (cells18 f) _ hO Tryd.underlying40 rfl (by kernel_rfl) ?_) | (go_at_call 40; refine (HC1.out _).mono ?_; rintro e w1 ⟨rfl, hb1⟩))
  have hO1 := hO.keep hb1
  have ht2 := ht1.on hb1
  have s2 := s1.on hb1
  have hb2 := below_on hb hb1
  clear hO ht1 s1 hb1 HC1
  have q2 := Rd.many (e := eInt) w1 3 kForces #[.int .i64 7, .int .i64 4, .int .i64 1, .int .i64 2, .int .i64 5, .int .i64 6] rfl 6 rfl (by omega) w1.heap.size rfl
  have s3 := s2.alloc (.cells #[.int .i64 7, .int .i64 4, .int .i64 1, .int .i64 2, .int .i64 5, .int .i64 6] 3)
  have hb3 := below_alloc w1 (.cells #[.int .i64 7, .int .i64 4, .int .i64 1, .int .i64 2, .int .i64 5, .int .i64 6] 3)
  go_upto_region 4 with (go_at_call 36; refine (rules_c kForces kForces_ok S A k0 c0 _ 6 6 _ s3 q2).mono ?_; rintro e w3 ⟨A0, n0, c4, rfl, r3, hb4⟩)
  have hb5 := below_on hb3 hb4
  have hO3 := hO1.keep hb5
  have ht3 := ht2.on hb5
  have hb6 := below_on hb2 hb5
  clear hO1 ht2 s2 s3 q2 hb3 hb4 hb5 hb2
  obtain ⟨L, hL⟩ : ∃ L, L = genL kForces S := ⟨_, rfl⟩
  rw [← hL] at r3
  have HL := hide hL
  clear hL
  go_upto_region 5 with (first | (refine wl_load (o := ⟨some 33, _, _, _, _, _⟩) rfl 40 _ rfl gO rfl 40 (cells18 f) _ hO3 Tryd.underlying40 rfl (by kernel_rfl) ?_) | (go_at_call 46; refine (flight_c f A0 n0 c4 L m a b c w3 r3 HF.out (by rw [HL.out]; exact (genL_ok kForces_ok S).1) (by rw [HL.out]; exact (genL_ok kForces_ok S).2) (by omega)).mono ?_; rintro e w4 ⟨A1, c1, A2, c2, A3, n3, c3, rfl, p4, k4, o4, hb7⟩))
  have hF := Blk.newAt w4 77 #[.slice A1 m c1, .slice A2 m c2, .slice A3 n3 c3, .int .i64 0] w4.heap.size rfl
  have hb8 := below_on hb7 (below_alloc w4 (.cells #[.slice A1 m c1, .slice A2 m c2, .slice A3 n3 c3, .int .i64 0] 77))
  have k5 := k4.alloc (.cells #[.slice A1 m c1, .slice A2 m c2, .slice A3 n3 c3, .int .i64 0] 77)
  have r5 := r3.on hb8
  have ht5 := ht3.on hb8
  have hb9 := below_on hb6 hb8
  obtain ⟨W5, hW5⟩ : ∃ q, q = w4.alloc (.cells #[.slice A1 m c1, .slice A2 m c2, .slice A3 n3 c3, .int .i64 0] 77) := ⟨_, rfl⟩
  rw [← hW5] at hF k5 r5 ht5 hb9 ⊢
  obtain ⟨gF, hgF⟩ : ∃ q, q = w4.heap.size := ⟨_, rfl⟩
  rw [← hgF] at hF ⊢
  clear hb8 hW5 hgF p4 k4 o4 r3 ht3 hb6 hO3 hb7
  have RM := hide r5.max
  have hrm := r5.max
  have hrc := r5.cap
  have hkc := k5.cap
  have hkm := k5.max
  have RL := hide r5.len
  go_upto_region 8 with fail
  go_loopw [16] (fun iv wr => ∃ i : Nat, i ≤ m ∧ iv = .int .i64 i ∧ Below W5.heap.size W5 wr) (fun iv _ => m - (intOf iv).toNat)
  case atStart => exact ⟨0, by omega, rfl, Below.refl _ _⟩
  case round =>
    obtain ⟨i, hi, rfl, hbi⟩ := hrel
    by_cases hlt : i < m
    · go_upto_region 12 with fail
      go_loopw [18, 17] (fun qv lv wq => ∃ (q : Nat) (l : Int), q ≤ n0 ∧ qv = .int .i64 q ∧ lv = .int .i64 l ∧ Found L i q l ∧ wq = wr) (fun qv _ _ => n0 - (intOf qv).toNat)
      case atStart => exact ⟨0, -1, by omega, rfl, rfl, found_zero L i, rfl⟩
      case round =>
        obtain ⟨q, l, hq, rfl, rfl, hfo, rfl⟩ := hrel
        have HFO := hide hfo
        clear hfo
        by_cases hlq : q < n0
        · obtain ⟨b1, off, x, rfl, hbb, hx, hc⟩ := (r5.below hbi).get hlq
          have x0 := hc 0 _ rfl
          have x1 := hc 1 _ rfl
          have x2 := hc 2 _ rfl
          simp only [eRu, Nat.add_zero] at x0 x1 x2
          have HX := hide hx
          clear hc hx
          obtain ⟨xk, xf, xt, xa, xb⟩ := x
          simp only at x0 x1 x2
          by_cases h7 : xk = 7
          · subst h7
            by_cases h1 : xf ≤ (i : Int)
            · by_cases h2 : (i : Int) ≤ xt
              · have HH := hide (found_yes HX.out ⟨rfl, h1, h2⟩)
                go_wp2
                go_roundw
                case rel => exact ⟨q + 1, (q : Int), by omega, by go_num, rfl, HH.out, trivial⟩
                case measure => simp [intOf] <;> omega
              · have HH := hide (found_no HFO.out HX.out (by rintro ⟨_, _, h⟩; exact h2 h))
                go_wp2
                go_roundw
                case rel => exact ⟨q + 1, l, by omega, by go_num, rfl, HH.out, trivial⟩
                case measure => simp [intOf] <;> omega
            · have HH := hide (found_no HFO.out HX.out (by rintro ⟨_, h, _⟩; exact h1 h))
              go_wp2
              go_roundw
              case rel => exact ⟨q + 1, l, by omega, by go_num, rfl, HH.out, trivial⟩
              case measure => simp [intOf] <;> omega
          · have HH := hide (found_no HFO.out HX.out (by rintro ⟨h, _⟩; exact h7 h))
            have h7b : (xk == 7) = false := by simpa using h7
            go_wp2
            go_roundw
            case rel => exact ⟨q + 1, l, by omega, by go_num, rfl, HH.out, trivial⟩
            case measure => simp [intOf] <;> omega
        · have hfin := HFO.out
          have hqn : q = n0 := by omega
          rw [hqn] at hfin
          clear HFO
          unfold Found at hfin
          rw [show L.take n0 = L from List.take_of_length_le (by have := RL.out; omega)] at hfin
          have HQ := hide hqn
          clear hqn
          rcases hfin with ⟨rfl, _⟩ | ⟨j, x, rfl, hj, hx, h7, hlast⟩
          · go_wp2
            go_roundw
            case rel => exact ⟨i + 1, by omega, by go_num, hbi⟩
            case measure => simp [intOf] <;> omega
          · have hmem : x ∈ genL kForces S := by rw [← HL.out]; exact List.mem_of_getElem? hx
            have hall : L.all okRu = true := List.all_eq_true.2 fun r hr => (genL_mem kForces_ok (by rw [← HL.out]; exact hr)).1
            have hok := (genL_mem kForces_ok hmem).1
            obtain ⟨ck, hck, hkk⟩ := forces (t := c) (s := b) (eta := f 16) (dark := f 17) (P := (emiF f a m).1) hall hlast h7 (List.mem_of_getElem? hx) (emiF_len f a m) hlt
            obtain ⟨b1, off, y, rfl, hbb, hy, hc⟩ := (r5.below hbi).get hj
            obtain rfl : x = y := by rw [hx] at hy; exact Option.some.inj hy
            have x3 := hc 3 _ rfl
            have x4 := hc 4 _ rfl
            obtain ⟨b2, off2, z, rfl, hbb2, hz, hc2⟩ := (k5.below hbi).get hlt
            obtain rfl : ck = z := by rw [hck] at hz; exact Option.some.inj hz
            have z0 := hc2 0 _ rfl
            have z1 := hc2 1 _ rfl
            simp only [eRu, eCk, Nat.add_zero] at x3 x4 z0 z1
            obtain ⟨xk, xf, xt, xa, xb⟩ := x
            obtain ⟨cb, ckk⟩ := ck
            simp only at x3 x4 z0 z1 hkk h7 hok
            have hxb : 0 ≤ xb ∧ xb ≤ 1 := by
              rw [h7] at hok; simp [okRu] at hok; omega
            have y1 := (hF.keep hbi).cell 1
            simp only [List.getElem?_toArray, List.getElem?_cons_succ, List.getElem?_cons_zero] at y1
            clear hc hc2 hx hy hck hz hlast hmem hall hok h7
            by_cases he : cb = xa
            · rw [if_pos he] at hkk
              subst he
              subst hkk
              have hbq : (cb == cb) = true := by simp
              have hbn : ((1 + xb) != (1 + xb)) = false := by simp
              go_wp2
              go_quiet (fail)
              go_wp2
              go_roundw
              case rel => exact ⟨i + 1, by omega, by go_num, below_drewN hbi _⟩
              case measure => simp [intOf] <;> omega
            · rw [if_neg he] at hkk
              subst hkk
              have hbq : (cb == xa) = false := by simpa using he
              go_wp2
              go_quiet (fail)
              go_wp2
              go_roundw
              case rel => exact ⟨i + 1, by omega, by go_num, below_drewN hbi _⟩
              case measure => simp [intOf] <;> omega
    · go_wp2_with (go_at_call 18; refine (works_c _ (ht5.on hbi)).mono ?_; rintro e w' ⟨rfl, hbz⟩)
      go_ret
      exact ⟨rfl, below_on (below_on hb9 hbi) hbz⟩
theorem forces_w (f : Nat → Int) (_ : True) (A : Option Addr) (k0 c0 : Nat) (S : List Sp) (m : Int) (wm : (Lit.int .u8 m).wf = true) (a : Int) (wa : (Lit.int .u64 a).wf = true) (b : Int) (wb : (Lit.int .u64 b).wf = true) (c : Int) (wc : (Lit.int .u64 c).wf = true) (w : World) (s : Rd eSp w w.heap.size A k0 c0 S) (ht : Tab w) :
    Calls Tryd.prog 11 #[.agg (cells18 f), .slice A k0 c0, .int .u8 m, .int .u64 a, .int .u64 b, .int .u64 c] w fun e w' => e = .returned (.bool true) ∧ Below w.heap.size w w' := by
  obtain ⟨m, rfl, hm⟩ := u8_nat wm
  obtain ⟨a, rfl⟩ := u64_nat' wa
  obtain ⟨b, rfl⟩ := u64_nat' wb
  obtain ⟨c, rfl⟩ := u64_nat' wc
  exact forces_c f A k0 c0 S m hm a b c w s ht
end Go.Proofs.YtddajmagdjkodaaDoor
