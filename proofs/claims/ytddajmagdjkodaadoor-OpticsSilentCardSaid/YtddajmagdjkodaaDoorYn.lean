/- The walk of the law OpticsSilent. -/
import Derived.Test.YtddajmagdjkodaaDoorYq
import Derived.Test.YtddajmagdjkodaaDoorYf
import Derived.Test.YtddajmagdjkodaaDoorYi
import Derived.Test.YtddajmagdjkodaaDoorYv
import Derived.Test.YtddajmagdjkodaaDoorQt
import Derived.Test.YtddajmagdjkodaaDoorQl
namespace Go.Proofs.YtddajmagdjkodaaDoor
open Go.RowKit

def kSilent : List Int := [5, 6]
theorem kSilent_ok : OkK kSilent := ⟨by decide, by decide, by decide⟩
theorem kSilent_mem {S : List Sp} : ∀ r ∈ genL kSilent S, r.k = 5 ∨ r.k = 6 := fun r hr => by
  have := (genL_mem kSilent_ok hr).2.2
  simpa [kSilent] using this
theorem splits_snoc {L : List Ru} {k i : Nat} {r : Ru} (h : L[k]? = some r) : splits (L.take (k + 1)) i = (splits (L.take k) i || decide (r.k = 5 ∧ r.fr ≤ i ∧ (i : Int) ≤ r.to)) := by
  unfold splits; rw [List.take_add_one, h, List.any_append]; simp
theorem known_bool {L : List Ru} {P : List Pu} {s n : Nat} (hL : ∀ r ∈ L, r.k = 5 ∨ r.k = 6) (hn : P.length = n) {i : Nat} {p : Pu} (hp : P[i]? = some p) : decide (i ∈ idx (marks P (carrF L P s n).2.1) n) = (splits L i && decide (2 ≤ p.ph)) := by
  rw [Bool.eq_iff_iff, decide_eq_true_eq, known_silent hL hn hp, Bool.and_eq_true, decide_eq_true_eq]

set_option maxRecDepth 100000 in
set_option maxHeartbeats 6400000 in
theorem silent_c (f : Nat → Int) (A : Option Addr) (k0 c0 : Nat) (S : List Sp) (m : Nat) (hm : m < 256) (a b c : Nat) (w : World) (s : Rd eSp w w.heap.size A k0 c0 S) (ht : Tab w) :
    Calls Tryd.prog 16 #[.agg (cells18 f), .slice A k0 c0, .int .u8 (m : Int), .int .u64 (a : Int), .int .u64 (b : Int), .int .u64 (c : Int)] w fun e w' => e = .returned (.bool true) ∧ Below w.heap.size w w' := by
  have hO := Blk.newAt w 40 (cells18 (undark f)) w.heap.size rfl
  have hb := below_alloc w (.cells (cells18 (undark f)) 40)
  have ht1 := ht.on hb
  have s1 := s.on hb
  have hq0 := cells18_get f (j := 17) (by omega)
  go_enter Tryd.func16, Tryd.ntmps16
  go_upto_region 2 with fail
  clear hq0
  obtain ⟨W, hW⟩ : ∃ W, W = w.alloc (.cells (cells18 (undark f)) 40) := ⟨_, rfl⟩
  rw [undark_set]
  rw [← hW] at hO hb ht1 s1 ⊢
  clear hW
  obtain ⟨gO, hgO⟩ : ∃ q, q = w.heap.size := ⟨_, rfl⟩
  rw [← hgO] at hO ⊢
  have HGO := hide hgO
  clear hgO ht s
  by_cases h0 : checkErr (undark f) = 0
  case neg =>
    have h2 := check_two h0
    have hne2 : ((2 : Int) != 0) = true := rfl
    have HC1 := hide (fun W => (by have q := check_c ((undark f)) W; rw [h2] at q; exact q : Calls Tryd.prog 40 #[.agg (cells18 ((undark f)))] W fun e w' => e = .returned (.int .i64 2) ∧ Below W.heap.size W w'))
    have HC2 := hide (fun W => (by have q := rcheck_c ((undark f)) W; rw [h2] at q; exact q : Calls Tryd.prog 41 #[.agg (cells18 ((undark f)))] W fun e w' => e = .returned (.int .i64 2) ∧ Below W.heap.size W w'))
    clear h0 h2
    go_wp2_with (first | (refine wl_load (o := ⟨some 25, _, _, _, _, _⟩) rfl 40 _ rfl gO rfl 40 (cells18 (undark f)) _ hO Tryd.underlying40 rfl (by kernel_rfl) ?_) | (go_at_call 40; refine (HC1.out _).mono ?_; rintro e w1 ⟨rfl, hb1⟩; have hO1 := hO.keep hb1; have ht2 := ht1.on hb1) | (refine wl_load (o := ⟨some 28, _, _, _, _, _⟩) rfl 40 _ rfl gO rfl 40 (cells18 (undark f)) _ hO1 Tryd.underlying40 rfl (by kernel_rfl) ?_) | (go_at_call 41; refine (HC2.out _).mono ?_; rintro e w2 ⟨rfl, hb2⟩; have ht3 := ht2.on hb2) | (go_at_call 18; refine (works_c _ ht3).mono ?_; rintro e w' ⟨rfl, hbz⟩))
    go_ret
    exact ⟨rfl, below_on (below_on (below_on hb hb1) hb2) hbz⟩
  have HC1 := hide (fun W => (by have q := check_c ((undark f)) W; rw [h0] at q; exact q : Calls Tryd.prog 40 #[.agg (cells18 ((undark f)))] W fun e w' => e = .returned (.int .i64 0) ∧ Below W.heap.size W w'))
  have HF := hide h0
  clear h0
  go_upto_region 4 with (first | (refine wl_load (o := ⟨some 25, _, _, _, _, _⟩) rfl 40 _ rfl gO rfl 40 (cells18 (undark f)) _ hO Tryd.underlying40 rfl (by kernel_rfl) ?_) | (go_at_call 40; refine (HC1.out _).mono ?_; rintro e w1 ⟨rfl, hb1⟩))
  have hO1 := hO.keep hb1
  have ht2 := ht1.on hb1
  have s2 := s1.on hb1
  have hb2 := below_on hb hb1
  clear hO ht1 s1 hb1 HC1
  have q2 := Rd.many (e := eInt) w1 3 kSilent #[.int .i64 5, .int .i64 6] rfl 2 rfl (by omega) w1.heap.size rfl
  have s3 := s2.alloc (.cells #[.int .i64 5, .int .i64 6] 3)
  have hb3 := below_alloc w1 (.cells #[.int .i64 5, .int .i64 6] 3)
  go_upto_region 5 with (go_at_call 36; refine (rules_c kSilent kSilent_ok S A k0 c0 _ 2 2 _ s3 q2).mono ?_; rintro e w3 ⟨A0, n0, c4, rfl, r3, hb4⟩)
  have hb5 := below_on hb3 hb4
  have hO3 := hO1.keep hb5
  have ht3 := ht2.on hb5
  have hb6 := below_on hb2 hb5
  clear hO1 ht2 s2 s3 q2 hb3 hb4 hb5 hb2
  obtain ⟨L, hL⟩ : ∃ L, L = genL kSilent S := ⟨_, rfl⟩
  rw [← hL] at r3
  have HLM := hide (show ∀ r ∈ L, r.k = 5 ∨ r.k = 6 by rw [hL]; exact kSilent_mem)
  have HL1 := hide (show rulesErr L = 0 by rw [hL]; exact (genL_ok kSilent_ok S).1)
  have HL2 := hide (show shiftErr L = 0 by rw [hL]; exact (genL_ok kSilent_ok S).2)
  clear hL
  go_upto_region 6 with (first | (refine wl_load (o := ⟨some 38, _, _, _, _, _⟩) rfl 40 _ rfl gO rfl 40 (cells18 (undark f)) _ hO3 Tryd.underlying40 rfl (by kernel_rfl) ?_) | (go_at_call 46; refine (flight_c (undark f) A0 n0 c4 L m a b c w3 r3 HF.out HL1.out HL2.out (by omega)).mono ?_; rintro e w4 ⟨A1, c1, A2, c2, A3, n3, c3, rfl, p4, k4, o4, hb7⟩))
  rw [show undark f 17 = 0 from rfl] at k4
  have hF := Blk.newAt w4 77 #[.slice A1 m c1, .slice A2 m c2, .slice A3 n3 c3, .int .i64 0] w4.heap.size rfl
  have hb8 := below_on hb7 (below_alloc w4 (.cells #[.slice A1 m c1, .slice A2 m c2, .slice A3 n3 c3, .int .i64 0] 77))
  have p5 := p4.alloc (.cells #[.slice A1 m c1, .slice A2 m c2, .slice A3 n3 c3, .int .i64 0] 77)
  have k5 := k4.alloc (.cells #[.slice A1 m c1, .slice A2 m c2, .slice A3 n3 c3, .int .i64 0] 77)
  have o5 := o4.alloc (.cells #[.slice A1 m c1, .slice A2 m c2, .slice A3 n3 c3, .int .i64 0] 77)
  have r5 := r3.on hb8
  have ht5 := ht3.on hb8
  have hb9 := below_on hb6 hb8
  obtain ⟨W5, hW5⟩ : ∃ q, q = w4.alloc (.cells #[.slice A1 m c1, .slice A2 m c2, .slice A3 n3 c3, .int .i64 0] 77) := ⟨_, rfl⟩
  rw [← hW5] at hF p5 k5 o5 r5 ht5 hb9 ⊢
  obtain ⟨gF, hgF⟩ : ∃ q, q = w4.heap.size := ⟨_, rfl⟩
  rw [← hgF] at hF ⊢
  clear hb8 hW5 hgF p4 k4 o4 r3 ht3 hb6 hO3 hb7
  obtain ⟨P, hP⟩ : ∃ P, P = (emiF (undark f) a m).1 := ⟨_, rfl⟩
  have hPok : P.all okPu = true := by rw [hP]; exact emiF_ok _ _ _
  have hPl : P.length = m := by rw [hP]; exact emiF_len _ _ _
  rw [← hP] at p5 k5 o5
  clear hP
  have hWR := wrong_silent (t := c) (s := b) (eta := undark f 16) HLM.out hPl
  have HKN := hide (fun i p h => known_bool (s := b) HLM.out hPl (i := i) (p := p) h)
  have hCok := dets_ok (undark f 16) 0 0 (carrF L P b m).1 c m
  have hNok := carrF_okNo (rulesErr_zero HL1.out).2 hPok b m (by omega)
  have hNl : (carrF L P b m).2.1.length ≤ 131072 := by
    have h2 := carrF_notes L P b m
    have h4 : m * L.length ≤ 256 * 32 := Nat.mul_le_mul (by omega) (rulesErr_zero HL1.out).1
    omega
  have HAG := hide (show Calls Tryd.prog 19 #[.slice A1 m c1, .slice A2 m c2, .int .i64 0] W5 fun e w' => ∃ B1 n1 d1 B2 d2, e = .returned (.tuple #[.slice B1 n1 d1, .slice B2 0 d2, .int .i64 0]) ∧ Below W5.heap.size W5 w' from
    (agree_fl hPok hCok (by omega) A1 c1 A2 c2 W5 p5 k5).mono fun e w' h => by
      obtain ⟨B1, n1, d1, B2, n2, d2, he, q1, q2, hb⟩ := h
      rw [hWR] at q2
      have : n2 = 0 := by simpa using q2.len.symm
      subst this
      exact ⟨B1, n1, d1, B2, d2, he, hb⟩)
  have HNO := hide (fun W (h : Below W5.heap.size W5 W) => knows_fl hPok hNok hNl (by omega) A1 c1 A3 n3 c3 W (p5.on h) (o5.on h))
  clear hPok hCok hNok hNl hWR hPl
  have f0 := hF.cell 0
  have f1 := hF.cell 1
  simp only [List.getElem?_toArray, List.getElem?_cons_succ, List.getElem?_cons_zero] at f0 f1
  go_upto_region 7 with (go_at_call 19; refine HAG.out.mono ?_; rintro e w6 ⟨B1, n1, d1, B2, d2, rfl, hb10⟩)
  clear f0 f1
  have f0 := (hF.keep hb10).cell 0
  have f2 := (hF.keep hb10).cell 2
  simp only [List.getElem?_toArray, List.getElem?_cons_succ, List.getElem?_cons_zero] at f0 f2
  go_upto_region 8 with (go_at_call 22; refine (HNO.out w6 hb10).mono ?_; rintro e w7 ⟨B3, n4, d3, rfl, g7, hb11⟩)
  have hb12 := below_on hb10 hb11
  have hF7 := hF.keep hb12
  have p7 := p5.on hb12
  have r7 := r5.on hb12
  have ht7 := ht5.on hb12
  have hb13 := below_on hb9 hb12
  clear hF p5 k5 o5 r5 ht5 hb9 hb10 hb11 hb12 f0 f2 HAG HNO
  have hrm := r7.max
  have hrc := r7.cap
  have hpc := p7.cap
  have hpm := p7.max
  have RL := hide r7.len
  go_upto_region 11 with fail
  go_loopw [21] (fun iv wr => ∃ i : Nat, i ≤ m ∧ iv = .int .i64 i ∧ Below w7.heap.size w7 wr) (fun iv _ => m - (intOf iv).toNat)
  case atStart => exact ⟨0, by omega, rfl, Below.refl _ _⟩
  case round =>
    obtain ⟨i, hi, rfl, hbi⟩ := hrel
    by_cases hlt : i < m
    · go_upto_region 15 with fail
      go_loopw [23, 22] (fun qv sv wq => ∃ q : Nat, q ≤ n0 ∧ qv = .int .i64 q ∧ sv = .bool (splits (L.take q) i) ∧ wq = wr) (fun qv _ _ => n0 - (intOf qv).toNat)
      case atStart => exact ⟨0, by omega, rfl, rfl, rfl⟩
      case round =>
        obtain ⟨q, hq, rfl, rfl, rfl⟩ := hrel
        by_cases hlq : q < n0
        · obtain ⟨b1, off, x, rfl, hbb, hx, hc⟩ := (r7.below hbi).get hlq
          have x0 := hc 0 _ rfl
          have x1 := hc 1 _ rfl
          have x2 := hc 2 _ rfl
          simp only [eRu, Nat.add_zero] at x0 x1 x2
          have HX := hide (splits_snoc (i := i) hx)
          clear hc hx
          obtain ⟨xk, xf, xt, xa, xb⟩ := x
          simp only at x0 x1 x2
          obtain ⟨sv, hsv⟩ : ∃ v, v = splits (L.take q) i := ⟨_, rfl⟩
          rw [← hsv] at HX ⊢
          clear hsv
          cases sv
          · by_cases h5 : xk = 5
            · subst h5
              by_cases h1 : xf ≤ (i : Int)
              · by_cases h2 : (i : Int) ≤ xt
                · have HH := hide (show splits (L.take (q + 1)) i = true by rw [HX.out]; simp [h1, h2])
                  go_wp2
                  go_roundw
                  case rel => exact ⟨q + 1, by omega, by go_num, by rw [HH.out], trivial⟩
                  case measure => simp [intOf] <;> omega
                · have HH := hide (show splits (L.take (q + 1)) i = false by rw [HX.out]; simp [h1, h2])
                  go_wp2
                  go_roundw
                  case rel => exact ⟨q + 1, by omega, by go_num, by rw [HH.out], trivial⟩
                  case measure => simp [intOf] <;> omega
              · have HH := hide (show splits (L.take (q + 1)) i = false by rw [HX.out]; simp [h1])
                go_wp2
                go_roundw
                case rel => exact ⟨q + 1, by omega, by go_num, by rw [HH.out], trivial⟩
                case measure => simp [intOf] <;> omega
            · have HH := hide (show splits (L.take (q + 1)) i = false by rw [HX.out]; simp [h5])
              have h5b : (xk == 5) = false := by simpa using h5
              go_wp2
              go_roundw
              case rel => exact ⟨q + 1, by omega, by go_num, by rw [HH.out], trivial⟩
              case measure => simp [intOf] <;> omega
          · have HH := hide (show splits (L.take (q + 1)) i = true by rw [HX.out]; rfl)
            go_wp2
            go_roundw
            case rel => exact ⟨q + 1, by omega, by go_num, by rw [HH.out], trivial⟩
            case measure => simp [intOf] <;> omega
        · have HQ := hide (show L.take q = L from List.take_of_length_le (by have := RL.out; omega))
          obtain ⟨b1, off, p, rfl, hbb, hp, hc⟩ := (p7.below hbi).get hlt
          have x3 := hc 3 _ rfl
          simp only [ePu] at x3
          have hkn := HKN.out i p hp
          rw [show splits L i = splits (L.take q) i by rw [HQ.out]] at hkn
          obtain ⟨pb, pt, pc, pp, ps⟩ := p
          simp only at x3 hkn
          have f0 := (hF7.keep hbi).cell 0
          simp only [List.getElem?_toArray, List.getElem?_cons_zero] at f0
          obtain ⟨sv, hsv⟩ : ∃ v, v = splits (L.take q) i := ⟨_, rfl⟩
          rw [← hsv] at hkn ⊢
          have HHAS := hide (show Calls Tryd.prog 47 #[.slice B3 n4 d3, .int .i64 (i : Int)] wr fun e w' => e = .returned (.bool (sv && decide (2 ≤ pp))) ∧ w' = wr by
            have h := has_q B3 n4 d3 _ i wr (g7.on hbi)
            rw [hkn] at h; exact h)
          clear hc hp hkn hsv
          by_cases h2 : (2 : Int) ≤ pp
          · have hd : decide ((2 : Int) ≤ pp) = true := by simpa using h2
            cases sv
            · go_wp2_with (go_at_call 47; refine HHAS.out.mono ?_; rintro e w' ⟨rfl, rfl⟩)
              go_roundw
              case rel => exact ⟨i + 1, by omega, by go_num, hbi⟩
              case measure => simp [intOf] <;> omega
            · go_wp2_with (go_at_call 47; refine HHAS.out.mono ?_; rintro e w' ⟨rfl, rfl⟩)
              go_roundw
              case rel => exact ⟨i + 1, by omega, by go_num, hbi⟩
              case measure => simp [intOf] <;> omega
          · have hd : decide ((2 : Int) ≤ pp) = false := by simpa using h2
            cases sv
            · go_wp2_with (go_at_call 47; refine HHAS.out.mono ?_; rintro e w' ⟨rfl, rfl⟩)
              go_roundw
              case rel => exact ⟨i + 1, by omega, by go_num, hbi⟩
              case measure => simp [intOf] <;> omega
            · go_wp2_with (go_at_call 47; refine HHAS.out.mono ?_; rintro e w' ⟨rfl, rfl⟩)
              go_roundw
              case rel => exact ⟨i + 1, by omega, by go_num, hbi⟩
              case measure => simp [intOf] <;> omega
    · go_wp2_with (go_at_call 18; refine (works_c _ (ht7.on hbi)).mono ?_; rintro e w' ⟨rfl, hbz⟩)
      go_ret
      exact ⟨rfl, below_on (below_on hb13 hbi) hbz⟩
theorem silent_w (f : Nat → Int) (_ : True) (A : Option Addr) (k0 c0 : Nat) (S : List Sp) (m : Int) (wm : (Lit.int .u8 m).wf = true) (a : Int) (wa : (Lit.int .u64 a).wf = true) (b : Int) (wb : (Lit.int .u64 b).wf = true) (c : Int) (wc : (Lit.int .u64 c).wf = true) (w : World) (s : Rd eSp w w.heap.size A k0 c0 S) (ht : Tab w) :
    Calls Tryd.prog 16 #[.agg (cells18 f), .slice A k0 c0, .int .u8 m, .int .u64 a, .int .u64 b, .int .u64 c] w fun e w' => e = .returned (.bool true) ∧ Below w.heap.size w w' := by
  obtain ⟨m, rfl, hm⟩ := u8_nat wm
  obtain ⟨a, rfl⟩ := u64_nat' wa
  obtain ⟨b, rfl⟩ := u64_nat' wb
  obtain ⟨c, rfl⟩ := u64_nat' wc
  exact silent_c f A k0 c0 S m hm a b c w s ht
end Go.Proofs.YtddajmagdjkodaaDoor
