/- Contract of optics.Line. -/
import Derived.Test.YthdidjnhfkeokaaDoorZu
import Derived.Test.YthdidjnhfkeokaaDoorZe
namespace Go.Proofs.YthdidjnhfkeokaaDoor
open Go.RowKit

theorem form_match {r : Ru} (h : okRu r = true) {k : Nat} (hk : k < 8) : (fmK k = r.k ∧ (fmK k = 3 → fmB k = r.b)) ↔ k = fmOf r := by
  obtain ⟨h1, h2, h3⟩ := okRu_form h
  constructor
  · rintro ⟨e1, e2⟩
    unfold fmOf
    rw [← e1]
    rcases cases8 hk with rfl | rfl | rfl | rfl | rfl | rfl | rfl | rfl
    · simp [fmK]
    · simp [fmK]
    · have e3 := e2 (by simp [fmK])
      simp [fmK, ← e3, fmB]
    · have e3 := e2 (by simp [fmK])
      simp [fmK, ← e3, fmB]
    · simp [fmK]
    · simp [fmK]
    · simp [fmK]
    · simp [fmK]
  · rintro rfl
    refine ⟨h1, fun e3 => ?_⟩
    have hm : 4 ∉ fmF (fmOf r) := by
      rw [h1] at e3
      have e4 : fmOf r = 3 ∨ fmOf r = 2 := by unfold fmOf; rw [e3]; by_cases hb : r.b = 1 <;> simp [hb]
      rcases e4 with e4 | e4 <;> rw [e4] <;> decide
    have := h3 4 (by omega) (by omega) hm
    simp [ruN] at this
    exact this.symm
/-- A line, behind i of its numbers. -/
def lnB (r : Ru) (i : Nat) : ByteArray := strB (Lib.join ((lineW r).take (1 + i)) [32])
theorem lnB_zero (r : Ru) : lnB r 0 = strB (fmW (fmOf r)) := by unfold lnB lineW; simp [Lib.join_one]
theorem lnB_step {r : Ru} {i c : Nat} (hc : (fmF (fmOf r))[i]? = some c) : lnB r (i + 1) = lnB r i ++ (⟨#[32]⟩ ++ strB (Lib.decDigits (ruN r c).toNat)) := by
  have hx : (lineW r)[1 + i]? = some (Lib.decDigits (ruN r c).toNat) := by
    unfold lineW; rw [Nat.add_comm 1, List.getElem?_cons_succ, List.getElem?_map, hc]; rfl
  unfold lnB
  rw [show 1 + (i + 1) = (1 + i) + 1 by omega, List.take_add_one, hx]
  simp only [Option.toList_some]
  rw [join_snoc (by rw [Nat.add_comm 1 i]; unfold lineW; simp), show (⟨#[32]⟩ : ByteArray) = strB [32] from rfl, strB_app, strB_app]
  simp
theorem lnB_end (r : Ru) : lnB r (fmF (fmOf r)).length = strB (lineL r) := by
  unfold lnB lineL
  rw [List.take_of_length_le (by simp [lineW]; omega)]
theorem fmW_len (j : Nat) : (fmW j).length ≤ 6 := by unfold fmW; (repeat' split) <;> simp
theorem lnB_len {r : Ru} (h : okRu r = true) : ∀ i, i ≤ (fmF (fmOf r)).length → (lnB r i).size ≤ 10 + 5000 * i
  | 0, _ => by rw [lnB_zero, strB_size]; have := fmW_len (fmOf r); omega
  | i + 1, hi => by
    have ih := lnB_len h i (by omega)
    have hc : (fmF (fmOf r))[i]? = some (fmF (fmOf r))[i] := List.getElem?_eq_getElem (by omega)
    have hb := (okRu_form h).2.1 _ (List.getElem_mem (show i < (fmF (fmOf r)).length by omega))
    rw [lnB_step hc]
    simp only [ByteArray.size_append, strB_size]
    have h1 := decDigits_len (ruN r (fmF (fmOf r))[i]).toNat
    have h2 : (⟨#[32]⟩ : ByteArray).size = 1 := rfl
    omega

set_option maxRecDepth 100000 in
set_option maxHeartbeats 3200000 in
theorem oline_bad (k fr td a b : Int) (h : okRu ⟨k, fr, td, a, b⟩ = false) (w : World) : Calls Tryd.prog 21 #[.agg #[.int .i64 k, .int .i64 fr, .int .i64 td, .int .i64 a, .int .i64 b]] w (SLine ⟨k, fr, td, a, b⟩ w) := by
  have HT := hide (show lineB ⟨k, fr, td, a, b⟩ = ByteArray.empty by unfold lineB; rw [h]; rfl)
  have he : ruErr ⟨k, fr, td, a, b⟩ = 2 := by unfold ruErr; rw [h]; rfl
  have HCK := hide (fun W => (by have q := checkRule_c ⟨k, fr, td, a, b⟩ W; rw [he] at q; exact q : Calls Tryd.prog 23 #[.agg #[.int .i64 k, .int .i64 fr, .int .i64 td, .int .i64 a, .int .i64 b]] W fun e w' => e = .returned (.int .i64 2) ∧ Below W.heap.size W w'))
  have HE := hide he
  have hO := Blk.newAt w 62 #[.int .i64 k, .int .i64 fr, .int .i64 td, .int .i64 a, .int .i64 b] w.heap.size rfl
  have hb := below_alloc w (.cells #[.int .i64 k, .int .i64 fr, .int .i64 td, .int .i64 a, .int .i64 b] 62)
  clear h he
  go_enter Tryd.func21, Tryd.ntmps21
  go_upto_region 1 with fail
  obtain ⟨W, hW⟩ : ∃ q, q = w.alloc (.cells #[.int .i64 k, .int .i64 fr, .int .i64 td, .int .i64 a, .int .i64 b] 62) := ⟨_, rfl⟩
  rw [← hW] at hO hb ⊢
  obtain ⟨gO, hgO⟩ : ∃ q, q = w.heap.size := ⟨_, rfl⟩
  rw [← hgO] at hO ⊢
  have HGO := hide hgO
  clear hW hgO
  go_wp2_with (first | (refine wl_load (o := ⟨some 10, _, _, _, _, _⟩) rfl 62 _ rfl gO rfl 62 #[.int .i64 k, .int .i64 fr, .int .i64 td, .int .i64 a, .int .i64 b] _ hO Tryd.underlying62 rfl (by kernel_rfl) ?_) | (go_at_call 23; refine (HCK.out _).mono ?_; rintro e w1 ⟨rfl, hb1⟩))
  go_ret2
  exact ⟨by rw [HT.out, HE.out]; rfl, below_on hb hb1⟩

set_option maxRecDepth 100000 in
set_option maxHeartbeats 6400000 in
theorem oline_ok (k fr td a b : Int) (h : okRu ⟨k, fr, td, a, b⟩ = true) (w : World) (ht : Tab w) : Calls Tryd.prog 21 #[.agg #[.int .i64 k, .int .i64 fr, .int .i64 td, .int .i64 a, .int .i64 b]] w (SLine ⟨k, fr, td, a, b⟩ w) := by
  have HT := hide (show lineB ⟨k, fr, td, a, b⟩ = lnB ⟨k, fr, td, a, b⟩ (fmF (fmOf ⟨k, fr, td, a, b⟩)).length by unfold lineB; rw [h, lnB_end]; rfl)
  have he : ruErr ⟨k, fr, td, a, b⟩ = 0 := by unfold ruErr; rw [h]; rfl
  have HCK := hide (fun W => (by have q := checkRule_c ⟨k, fr, td, a, b⟩ W; rw [he] at q; exact q : Calls Tryd.prog 23 #[.agg #[.int .i64 k, .int .i64 fr, .int .i64 td, .int .i64 a, .int .i64 b]] W fun e w' => e = .returned (.int .i64 0) ∧ Below W.heap.size W w'))
  have HE := hide he
  have HM := hide (fun (q : Nat) (hq : q < 8) => form_match h hq)
  have HLEN := hide (lnB_len h)
  have HST := hide (fun i c hc => lnB_step (r := ⟨k, fr, td, a, b⟩) (i := i) (c := c) hc)
  have HZ0 := hide (lnB_zero ⟨k, fr, td, a, b⟩)
  have HB := hide (okRu_form h).2.1
  have HLT := hide (fmOf_lt ⟨k, fr, td, a, b⟩)
  have hO := Blk.newAt w 62 #[.int .i64 k, .int .i64 fr, .int .i64 td, .int .i64 a, .int .i64 b] w.heap.size rfl
  have hb := below_alloc w (.cells #[.int .i64 k, .int .i64 fr, .int .i64 td, .int .i64 a, .int .i64 b] 62)
  have ht1 := ht.on hb
  obtain ⟨Y, hY⟩ : ∃ q, q = fmOf ⟨k, fr, td, a, b⟩ := ⟨_, rfl⟩
  rw [← hY] at HT HM HLEN HST HZ0 HB HLT
  clear h he ht
  go_enter Tryd.func21, Tryd.ntmps21
  go_upto_region 1 with fail
  obtain ⟨W, hW⟩ : ∃ q, q = w.alloc (.cells #[.int .i64 k, .int .i64 fr, .int .i64 td, .int .i64 a, .int .i64 b] 62) := ⟨_, rfl⟩
  rw [← hW] at hO hb ht1 ⊢
  obtain ⟨gO, hgO⟩ : ∃ q, q = w.heap.size := ⟨_, rfl⟩
  rw [← hgO] at hO ⊢
  have HGO := hide hgO
  have HYY := hide hY
  clear hW hgO hY
  go_upto_region 5 with (first | (refine wl_load (o := ⟨some 10, _, _, _, _, _⟩) rfl 62 _ rfl gO rfl 62 #[.int .i64 k, .int .i64 fr, .int .i64 td, .int .i64 a, .int .i64 b] _ hO Tryd.underlying62 rfl (by kernel_rfl) ?_) | (go_at_call 23; refine (HCK.out _).mono ?_; rintro e w1 ⟨rfl, hb1⟩) | (go_at_call 52; refine (forms_c w1).mono ?_; rintro e w2 ⟨B, rfl, f2, hb2⟩))
  have hb3 := below_on hb1 hb2
  have hO2 := hO.keep hb3
  have ht2 := ht1.on hb3
  have hbw := below_on hb hb3
  obtain ⟨b1, o1, j0, rfl, hb9, hj0, hc1⟩ := f2.get (show 0 < 8 by omega)
  clear hO hb ht1 hb1 hb2 hb3 HCK hb9 hj0 hc1 j0
  go_loopw [17] (fun iv wr => ∃ q : Nat, q ≤ Y ∧ iv = .int .i64 q ∧ Below w2.heap.size w2 wr) (fun iv _ => 8 - (intOf iv).toNat)
  case atStart => exact ⟨0, Nat.zero_le _, rfl, Below.refl _ _⟩
  case round =>
    obtain ⟨q, hq, rfl, hbr⟩ := hrel
    have hlt : q < 8 := by have := HLT.out; omega
    have hq0 : (0 : Int) ≤ (q : Int) := by omega
    have hq8 : (q : Int) < 8 := by omega
    obtain ⟨b9, off9, x9, eA, hb9, hx9, hc9⟩ := (f2.on hbr).get hlt
    injection eA with eA
    injection eA with e1 e2
    subst e1
    subst e2
    obtain rfl : q = x9 := by
      rw [List.getElem?_range hlt] at hx9
      exact Option.some.inj hx9
    have c0 := hc9 0 _ rfl
    have c1 := hc9 1 _ rfl
    have c2 := hc9 2 _ rfl
    have c3 := hc9 3 _ rfl
    simp only [eFm, Nat.add_zero] at c0 c1 c2 c3
    have HFD := hide (fun g W => fields_c hlt g W)
    have hcf := cfm hlt
    have hmt := HM.out q hlt
    obtain ⟨kS, hkS⟩ : ∃ x, x = strB (fmW q) := ⟨_, rfl⟩
    obtain ⟨F, hF⟩ : ∃ x, x = fmFn q := ⟨_, rfl⟩
    obtain ⟨kK, hkK⟩ : ∃ x, x = fmK q := ⟨_, rfl⟩
    obtain ⟨kB, hkB⟩ : ∃ x, x = fmB q := ⟨_, rfl⟩
    rw [← hkS] at c2
    rw [← hF] at c3 HFD hcf
    rw [← hkK] at c0 hmt
    rw [← hkB] at c1 hmt
    have HKS := hide hkS
    clear hc9 hb9 hx9 hkS hF hkK hkB
    have hOr := hO2.keep hbr
    have hb0 := Blk.newAt wr 105 #[.int .i64 0, .int .i64 0, .string ⟨#[]⟩, .nilFunc] wr.heap.size rfl
    go_upto_region 7 with (refine wl_store (o := ⟨none, _, _, _, _, _⟩) rfl 105 _ _ rfl wr.heap.size #[.int .i64 kK, .int .i64 kB, .string kS, .func (.func F) #[] #[]] rfl rfl 105 _ hb0 (by kernel_rfl) rfl (by simp [Value.oneCell']) ?_; intro W3 hf3 hg3)
    have hbw3 := below_grown (below_alloc wr (.cells #[.int .i64 0, .int .i64 0, .string ⟨#[]⟩, .nilFunc] 105)) hg3 (Nat.le_refl _) (Nat.le_refl _)
    have hO3 := hOr.keep hbw3
    have hbr3 := below_on hbr hbw3
    obtain ⟨gF, hgF⟩ : ∃ x, x = wr.heap.size := ⟨_, rfl⟩
    rw [← hgF] at hf3 ⊢
    clear hb0 hg3 hbw3 hOr c0 c1 c2 c3 hgF hbr
    have f0 := hf3.cell 0
    have f1 := hf3.cell 1
    have f2' := hf3.cell 2
    have f3 := hf3.cell 3
    have z0 := hO3.cell 0
    have z4 := hO3.cell 4
    simp only [List.getElem?_toArray, List.getElem?_cons_zero, List.getElem?_cons_succ] at f0 f1 f2' f3 z0 z4
    by_cases hkk : kK = k
    · have hkn : (kK == k) = true := by rw [hkk]; simp
      have hkn2 : (kK != k) = false := by rw [bne, hkn]; rfl
      by_cases h3 : kK = 3
      · have h3b : (kK == 3) = true := by rw [h3]; rfl
        by_cases hbb : kB = b
        · have hbn : (kB == b) = true := by rw [hbb]; simp
          have hbn2 : (kB != b) = false := by rw [bne, hbn]; rfl
          have HYQ := hide (hmt.1 ⟨hkk, fun _ => hbb⟩)
          clear hmt hbb h3 hkk
          have ht3 := ht2.on hbr3
          have HS0 := hide (show kS = lnB ⟨k, fr, td, a, b⟩ 0 by rw [HKS.out, HZ0.out, HYQ.out])
          obtain ⟨m, hm⟩ : ∃ x, x = (fmF q).length := ⟨_, rfl⟩
          rw [← hm] at HFD
          have HMM := hide (show m = (fmF Y).length by rw [hm, HYQ.out])
          have HFF := hide (show fmF q = fmF Y by rw [HYQ.out])
          rw [HFF.out] at HFD
          clear hm
          go_upto_region 10 with (refine (HFD.out gO W3).mono ?_; rintro e w5 ⟨A5, rfl, r5, hb5⟩)
          have hO5 := hO3.keep hb5
          have ht5 := ht3.on hb5
          have hbw5 := below_on hbw (below_on hbr3 hb5)
          clear hO3 ht3 hbr3 hb5 f0 f1 f2' f3 z0 z4 hcf HFD hf3
          rw [HS0.out]
          go_loopw [44, 7] (fun iv sv wr => ∃ i : Nat, i ≤ m ∧ iv = .int .i64 i ∧ sv = .string (lnB ⟨k, fr, td, a, b⟩ i) ∧ Below w5.heap.size w5 wr) (fun iv _ _ => m - (intOf iv).toNat)
          case atStart => exact ⟨0, Nat.zero_le _, rfl, rfl, Below.refl _ _⟩
          case round =>
            obtain ⟨i, hi, rfl, rfl, hbi⟩ := hrel
            by_cases hlt2 : i < m
            · obtain ⟨gp, op, c, rfl, hgp, hc, hcp⟩ := (r5.on hbi).get hlt2
              have p0 := hcp 0 _ rfl
              simp only [ePtr, Nat.add_zero, Nat.mul_one] at p0
              have hc4 := fmF_le HLT.out hc
              have hO6 : Blk wr gO 62 (ruC (ruN ⟨k, fr, td, a, b⟩)) := hO5.keep hbi
              have q0 := (hO6.cell c).trans (ruC_get _ hc4)
              have hbnd := HB.out c (List.mem_of_getElem? hc)
              have HSTEP := hide (HST.out i c hc)
              have hsz := HLEN.out i (by rw [← HMM.out]; exact hi)
              obtain ⟨v, hv⟩ : ∃ x, x = ruN ⟨k, fr, td, a, b⟩ c := ⟨_, rfl⟩
              rw [← hv] at q0 hbnd HSTEP
              obtain ⟨s0, hs0⟩ : ∃ x, x = lnB ⟨k, fr, td, a, b⟩ i := ⟨_, rfl⟩
              rw [← hs0] at HSTEP hsz ⊢
              have HIT := hide (show Calls Tryd.prog 33 #[.int .i64 v] wr fun e w' => e = .returned (.string (itoaB v)) ∧ Below wr.heap.size wr w' from itoa_c v wr (by omega) (by omega) (ht5.on hbi))
              obtain ⟨ds, hds⟩ : ∃ x, x = itoaB v := ⟨_, rfl⟩
              have hdl : ds.size ≤ 5000 := by
                rw [hds, itoaB_dig hbnd.1, strB_size]
                have := decDigits_len v.toNat
                omega
              rw [← itoaB_dig hbnd.1, ← hds] at HSTEP
              rw [← hds] at HIT
              have hm4 : m ≤ 4 := by rw [HMM.out]; exact fmF_len.2
              have la : (s0.size : Int) ≤ 30000 := by have : 5000 * i ≤ 5000 * 4 := Nat.mul_le_mul_left _ (by omega); omega
              have lb : (ds.size : Int) ≤ 5000 := by omega
              clear hcp hc hO6 hv hs0 hds hsz hbnd hdl hgp
              go_wp2_with (go_at_call 33; refine HIT.out.mono ?_; rintro e w7 ⟨rfl, hb7⟩)
              go_roundw
              case rel => exact ⟨i + 1, by omega, by go_num, by rw [HSTEP.out], below_on hbi hb7⟩
              case measure => simp [intOf] <;> omega
            · obtain rfl : i = m := by omega
              go_wp2
              go_ret2
              exact ⟨by rw [HT.out, HE.out, ← HMM.out]; rfl, below_on hbw5 hbi⟩
        · have hbn : (kB == b) = false := decide_eq_false hbb
          have hbn2 : (kB != b) = true := by rw [bne, hbn]; rfl
          have HQ := hide (show q + 1 ≤ Y by
            have : q ≠ Y := fun e => hbb ((hmt.2 e).2 h3)
            omega)
          clear hmt hbb h3 hkk
          go_wp2
          go_roundw
          case rel => exact ⟨q + 1, HQ.out, by go_num, hbr3⟩
          case measure => simp [intOf] <;> omega
      · have h3b : (kK == 3) = false := decide_eq_false h3
        have HYQ := hide (hmt.1 ⟨hkk, fun e => absurd e h3⟩)
        clear hmt h3 hkk
        have ht3 := ht2.on hbr3
        have HS0 := hide (show kS = lnB ⟨k, fr, td, a, b⟩ 0 by rw [HKS.out, HZ0.out, HYQ.out])
        obtain ⟨m, hm⟩ : ∃ x, x = (fmF q).length := ⟨_, rfl⟩
        rw [← hm] at HFD
        have HMM := hide (show m = (fmF Y).length by rw [hm, HYQ.out])
        have HFF := hide (show fmF q = fmF Y by rw [HYQ.out])
        rw [HFF.out] at HFD
        clear hm
        go_upto_region 10 with (refine (HFD.out gO W3).mono ?_; rintro e w5 ⟨A5, rfl, r5, hb5⟩)
        have hO5 := hO3.keep hb5
        have ht5 := ht3.on hb5
        have hbw5 := below_on hbw (below_on hbr3 hb5)
        clear hO3 ht3 hbr3 hb5 f0 f1 f2' f3 z0 z4 hcf HFD hf3
        rw [HS0.out]
        go_loopw [44, 7] (fun iv sv wr => ∃ i : Nat, i ≤ m ∧ iv = .int .i64 i ∧ sv = .string (lnB ⟨k, fr, td, a, b⟩ i) ∧ Below w5.heap.size w5 wr) (fun iv _ _ => m - (intOf iv).toNat)
        case atStart => exact ⟨0, Nat.zero_le _, rfl, rfl, Below.refl _ _⟩
        case round =>
          obtain ⟨i, hi, rfl, rfl, hbi⟩ := hrel
          by_cases hlt2 : i < m
          · obtain ⟨gp, op, c, rfl, hgp, hc, hcp⟩ := (r5.on hbi).get hlt2
            have p0 := hcp 0 _ rfl
            simp only [ePtr, Nat.add_zero, Nat.mul_one] at p0
            have hc4 := fmF_le HLT.out hc
            have hO6 : Blk wr gO 62 (ruC (ruN ⟨k, fr, td, a, b⟩)) := hO5.keep hbi
            have q0 := (hO6.cell c).trans (ruC_get _ hc4)
            have hbnd := HB.out c (List.mem_of_getElem? hc)
            have HSTEP := hide (HST.out i c hc)
            have hsz := HLEN.out i (by rw [← HMM.out]; exact hi)
            obtain ⟨v, hv⟩ : ∃ x, x = ruN ⟨k, fr, td, a, b⟩ c := ⟨_, rfl⟩
            rw [← hv] at q0 hbnd HSTEP
            obtain ⟨s0, hs0⟩ : ∃ x, x = lnB ⟨k, fr, td, a, b⟩ i := ⟨_, rfl⟩
            rw [← hs0] at HSTEP hsz ⊢
            have HIT := hide (show Calls Tryd.prog 33 #[.int .i64 v] wr fun e w' => e = .returned (.string (itoaB v)) ∧ Below wr.heap.size wr w' from itoa_c v wr (by omega) (by omega) (ht5.on hbi))
            obtain ⟨ds, hds⟩ : ∃ x, x = itoaB v := ⟨_, rfl⟩
            have hdl : ds.size ≤ 5000 := by
              rw [hds, itoaB_dig hbnd.1, strB_size]
              have := decDigits_len v.toNat
              omega
            rw [← itoaB_dig hbnd.1, ← hds] at HSTEP
            rw [← hds] at HIT
            have hm4 : m ≤ 4 := by rw [HMM.out]; exact fmF_len.2
            have la : (s0.size : Int) ≤ 30000 := by have : 5000 * i ≤ 5000 * 4 := Nat.mul_le_mul_left _ (by omega); omega
            have lb : (ds.size : Int) ≤ 5000 := by omega
            clear hcp hc hO6 hv hs0 hds hsz hbnd hdl hgp
            go_wp2_with (go_at_call 33; refine HIT.out.mono ?_; rintro e w7 ⟨rfl, hb7⟩)
            go_roundw
            case rel => exact ⟨i + 1, by omega, by go_num, by rw [HSTEP.out], below_on hbi hb7⟩
            case measure => simp [intOf] <;> omega
          · obtain rfl : i = m := by omega
            go_wp2
            go_ret2
            exact ⟨by rw [HT.out, HE.out, ← HMM.out]; rfl, below_on hbw5 hbi⟩
    · have hkn : (kK == k) = false := decide_eq_false hkk
      have hkn2 : (kK != k) = true := by rw [bne, hkn]; rfl
      have HQ := hide (show q + 1 ≤ Y by
        have : q ≠ Y := fun e => hkk (hmt.2 e).1
        omega)
      clear hmt hkk
      go_wp2
      go_roundw
      case rel => exact ⟨q + 1, HQ.out, by go_num, hbr3⟩
      case measure => simp [intOf] <;> omega
theorem oline_c (r : Ru) (w : World) (ht : Tab w) : Calls Tryd.prog 21 #[.agg #[.int .i64 r.k, .int .i64 r.fr, .int .i64 r.to, .int .i64 r.a, .int .i64 r.b]] w (SLine r w) := by
  obtain ⟨k, fr, td, a, b⟩ := r
  cases h : okRu ⟨k, fr, td, a, b⟩
  · exact oline_bad k fr td a b h w
  · exact oline_ok k fr td a b h w ht
end Go.Proofs.YthdidjnhfkeokaaDoor
