/- Contracts of the reference's digits, number and words. -/
import Derived.Test.YthdidjnhfkeokaaDoorZb
import Derived.Test.YthdidjnhfkeokaaDoorQk
namespace Go.Proofs.YthdidjnhfkeokaaDoor
open Go.RowKit

def strB (l : List UInt8) : ByteArray := ⟨l.toArray⟩
theorem lst_strB (l : List UInt8) : lst (strB l) = l := by simp [lst, strB]
theorem strB_lst (s : ByteArray) : strB (lst s) = s := by
  obtain ⟨⟨l⟩⟩ := s; rfl
theorem strB_app (a b : List UInt8) : strB a ++ strB b = strB (a ++ b) := by
  rw [← strB_lst (strB a ++ strB b)]
  congr 1
theorem strB_size (l : List UInt8) : (strB l).size = l.length := by simp [strB, ByteArray.size]
theorem decDigits_len (n : Nat) : (Lib.decDigits n).length ≤ n + 1 := by
  induction n using Nat.strongRecOn with
  | _ n ih =>
    rw [Lib.decDigits]
    split
    · simp
    · have := ih (n / 10) (by omega)
      rw [List.length_append, List.length_singleton]; omega
set_option maxRecDepth 100000 in
set_option maxHeartbeats 1600000 in
theorem digits_c (n : Nat) (hn : n ≤ 1000000000) (w : World) : Calls Tryd.prog 37 #[.int .i64 (n : Int)] w fun e w' => e = .returned (.string (strB (Lib.decDigits n))) ∧ w' = w := by
  induction n using Nat.strongRecOn with
  | _ n ih =>
    by_cases h : 9 < n
    · have h' : (9 : Int) < (n : Int) := by omega
      obtain ⟨q, hq⟩ : ∃ q, q = n / 10 := ⟨_, rfl⟩
      obtain ⟨r, hr⟩ : ∃ r, r = n % 10 := ⟨_, rfl⟩
      have e1 : (n : Int) / 10 = (q : Int) := by omega
      have e2 : (n : Int) % 10 = (r : Int) := by omega
      have e3 : (n : Int).tdiv 10 = (q : Int) := by rw [Int.tdiv_eq_ediv_of_nonneg (by omega)]; exact e1
      have e4 : (n : Int).tmod 10 = (r : Int) := by rw [Int.tmod_eq_emod_of_nonneg (by omega)]; exact e2
      have H1 := hide (ih q (by omega) (by omega))
      have H2 := hide (ih r (by omega) (by omega))
      have HD := hide (show Lib.decDigits n = Lib.decDigits q ++ Lib.decDigits r by
        rw [Lib.decDigits, dif_neg (by omega), ← hq, ← hr, show Lib.decDigits r = [UInt8.ofNat (48 + r)] by rw [Lib.decDigits, dif_pos (by omega)]])
      have l1 := decDigits_len q
      have l2 := decDigits_len r
      rw [← strB_size] at l1 l2
      obtain ⟨x, hx⟩ : ∃ x, x = strB (Lib.decDigits q) := ⟨_, rfl⟩
      obtain ⟨y, hy⟩ : ∃ y, y = strB (Lib.decDigits r) := ⟨_, rfl⟩
      rw [← hx] at H1 l1
      rw [← hy] at H2 l2
      have hx9 : (x.size : Int) ≤ 1000000001 := by omega
      have hy9 : (y.size : Int) ≤ 11 := by omega
      have HX := hide hx
      have HY := hide hy
      clear ih hq hr hx hy l1 l2
      go_enter Tryd.func37, Tryd.ntmps37
      go_wp2_with (first | (go_at_call_of 37 (q : Int); refine H1.out.mono ?_; rintro e w1 ⟨rfl, rfl⟩) | (go_at_call_of 37 (r : Int); refine H2.out.mono ?_; rintro e w1 ⟨rfl, rfl⟩))
      go_ret
      refine ⟨?_, rfl⟩
      rw [HD.out, ← strB_app, ← HX.out, ← HY.out]
      rfl
    · clear ih
      have hm : n = 0 ∨ n = 1 ∨ n = 2 ∨ n = 3 ∨ n = 4 ∨ n = 5 ∨ n = 6 ∨ n = 7 ∨ n = 8 ∨ n = 9 := by omega
      have HD := hide (show Lib.decDigits n = [UInt8.ofNat (48 + n)] by rw [Lib.decDigits, dif_pos (by omega)])
      clear h hn
      rcases hm with rfl | rfl | rfl | rfl | rfl | rfl | rfl | rfl | rfl | rfl
      all_goals
        go_enter Tryd.func37, Tryd.ntmps37
        go_wp2
        go_ret
        refine ⟨?_, rfl⟩
        rw [HD.out]
        rfl

/-! ### number -/
theorem toList_ne {s : ByteArray} (h : 0 < s.size) : ¬ s.toList = [] ∧ s.toList.isEmpty = false := by
  have e : s.toList.length = s.size := by rw [Lib.toList_data, Array.length_toList]; rfl
  have h1 : ¬ s.toList = [] := fun hh => by rw [hh] at e; simp at e; omega
  exact ⟨h1, by simpa [List.isEmpty_iff] using h1⟩
def numOk (l : List UInt8) : Bool := decide (l.length ≤ 5) && okNum l
def numV (l : List UInt8) : Int := if numOk l then (dec l : Int) else -1
theorem numV_no {l : List UInt8} (h : numOk l = false) : (-1 : Int) = numV l := by unfold numV; rw [h]; rfl
theorem numV_yes {l : List UInt8} (h : numOk l = true) : (dec l : Int) = numV l := by unfold numV; rw [h]; rfl
theorem numOk_of {l : List UInt8} (h : l.length ≤ 5) (hd : Lib.decDigits (dec l) = l) : numOk l = true := by
  unfold numOk; rw [decide_eq_true h, ← hd, okNum_digits]; rfl
theorem numOk_not {l : List UInt8} (hd : ¬ Lib.decDigits (dec l) = l) : numOk l = false := by
  cases h : numOk l with
  | false => rfl
  | true =>
    unfold numOk at h
    simp only [Bool.and_eq_true] at h
    exact absurd (digits_dec l h.2) hd
theorem okNum_all {l : List UInt8} (h : l.all isDig = false) : numOk l = false := by unfold numOk okNum; rw [h]; simp
set_option maxRecDepth 100000 in
set_option maxHeartbeats 1600000 in
theorem number_c (s : ByteArray) (w : World) : Calls Tryd.prog 46 #[.string s] w fun e w' => e = .returned (.int .i64 (numV (lst s))) ∧ w' = w := by
  obtain ⟨l, hl⟩ : ∃ l, l = lst s := ⟨_, rfl⟩
  have hlen := lst_len s
  have hget := lst_get s
  have HS := hide (strB_lst s)
  rw [← hl] at hlen hget HS ⊢
  by_cases h0 : s.size = 0
  · have he : s = ⟨#[]⟩ := by
      obtain ⟨⟨l⟩⟩ := s
      have : l.length = 0 := h0
      rw [List.eq_nil_of_length_eq_zero this]
    have HN := hide (show numOk l = false by rw [List.eq_nil_of_length_eq_zero (by omega : l.length = 0)]; rfl)
    subst he
    clear hlen hget hl h0 HS
    go_enter Tryd.func46, Tryd.ntmps46
    go_wp2
    go_ret
    exact ⟨ret_i (numV_no HN.out), rfl⟩
  · obtain ⟨hne, hnE⟩ := toList_ne (s := s) (by omega)
    by_cases h4 : 5 < s.size
    · have h4' : (5 : Int) < (s.size : Int) := by omega
      have HN := hide (show numOk l = false by unfold numOk; rw [show decide (l.length ≤ 5) = false by simp; omega]; rfl)
      clear hlen hget hl HS
      go_enter Tryd.func46, Tryd.ntmps46
      go_wp2
      go_ret
      exact ⟨ret_i (numV_no HN.out), rfl⟩
    · have h4' : ¬ (5 : Int) < (s.size : Int) := by omega
      have hbc : ∀ i (h : i < s.size), ∃ x, (s[i]'h).toNat = x ∧ Hid (∃ b : UInt8, l[i]? = some b ∧ b.toNat = x) ∧ x < 256 := fun i h => ⟨_, rfl, ⟨_, hget i h, rfl⟩, (s[i]'h).toNat_lt⟩
      have HBC := hide hbc
      have HLN := hide hlen
      clear hbc hget hlen hl
      go_enter Tryd.func46, Tryd.ntmps46
      go_wp2
      go_loopw [4, 3] (fun iv nv wr => ∃ i : Nat, i ≤ s.size ∧ iv = .int .i64 i ∧ nv = .int .i64 (dec (l.take i) : Int) ∧ (l.take i).all isDig = true ∧ wr = w) (fun iv _ _ => s.size - (intOf iv).toNat)
      case atStart => exact ⟨0, Nat.zero_le _, rfl, rfl, rfl, rfl⟩
      case round =>
        obtain ⟨i, hi, rfl, rfl, hd, rfl⟩ := hrel
        have hlt10 : dec (l.take i) < 10 ^ 5 := Nat.lt_of_lt_of_le (dec_lt _ hd) (Nat.pow_le_pow_right (by omega) (by rw [List.length_take]; omega))
        have HD := hide hd
        clear hd
        obtain ⟨m, hm⟩ : ∃ m, m = dec (l.take i) := ⟨_, rfl⟩
        rw [← hm] at hlt10 ⊢
        have HM := hide hm
        clear hm
        by_cases hlt : i < s.size
        · obtain ⟨x, hx, HX, hx256⟩ := HBC.out i hlt
          have hlti : (i : Int) < (s.size : Int) := by omega
          by_cases hdig : 48 ≤ x ∧ x ≤ 57
          · obtain ⟨hd1, hd2⟩ := hdig
            obtain ⟨d, hd⟩ : ∃ d, x = d + 48 := ⟨x - 48, by omega⟩
            subst hd
            have HN2 := hide (show dec (l.take (i + 1)) = 10 * m + d ∧ (l.take (i + 1)).all isDig = true by
              obtain ⟨b, hb, hbx⟩ := HX.out
              refine ⟨by rw [dec_take hb, hbx, ← HM.out]; omega, ?_⟩
              rw [List.take_add_one, hb, List.all_append, HD.out]
              simp only [Option.toList_some, List.all_cons, List.all_nil, Bool.and_true, Bool.true_and, isDig, decide_eq_true_eq]; omega)
            go_wp2
            go_roundw
            case rel => exact ⟨i + 1, by omega, by go_num, by rw [HN2.out.1]; go_num, HN2.out.2, trivial⟩
            case measure => simp [intOf] <;> omega
          · have HN := hide (show numOk l = false by
              obtain ⟨b, hb, hbx⟩ := HX.out
              refine okNum_all (all_false hb ?_)
              simp only [isDig, hbx, decide_eq_false_iff_not]; exact hdig)
            have hcase : x < 48 ∨ 57 < x := by omega
            clear hdig
            rcases hcase with hc | hc
            · go_wp2
              go_ret
              exact ⟨ret_i (numV_no HN.out), rfl⟩
            · go_wp2
              go_ret
              exact ⟨ret_i (numV_no HN.out), rfl⟩
        · have HM2 := hide (show m = dec l by
            have h1 := HM.out
            rw [show l.take i = l from List.take_of_length_le (by have := HLN.out; omega)] at h1
            exact h1)
          have HL5 := hide (show l.length ≤ 5 by have := HLN.out; omega)
          have HDI := hide (digits_c m (by omega) wr)
          by_cases hd : Lib.decDigits (dec l) = l
          · have HN := hide (numV_yes (numOk_of HL5.out hd))
            have hst : ((strB (Lib.decDigits m)).toList == s.toList) = true := by
              rw [HM2.out, hd, HS.out, beq_iff_eq]
            have hst2 : strB (Lib.decDigits m) = s := by rw [HM2.out, hd, HS.out]
            rw [hst2] at HDI
            clear hd hst hst2
            have hst : (s.toList == s.toList) = true := by simp
            go_wp2_with (go_at_call 37; refine HDI.out.mono ?_; rintro e w' ⟨rfl, rfl⟩)
            go_ret
            exact ⟨ret_i (by rw [← HN.out, ← HM2.out]), rfl⟩
          · have HN := hide (numV_no (numOk_not hd))
            obtain ⟨t, htt⟩ : ∃ t, t = strB (Lib.decDigits m) := ⟨_, rfl⟩
            have hst : (t.toList == s.toList) = false := by
              rw [beq_eq_false_iff_ne]
              intro e
              rw [Lib.toList_data, Lib.toList_data, htt] at e
              have e2 : lst (strB (Lib.decDigits m)) = lst s := e
              rw [lst_strB, HM2.out] at e2
              refine hd (e2.trans ?_)
              rw [← HS.out, lst_strB]
            rw [← htt] at HDI
            clear hd htt
            go_wp2_with (go_at_call 37; refine HDI.out.mono ?_; rintro e w' ⟨rfl, rfl⟩)
            go_ret
            exact ⟨ret_i HN.out, rfl⟩
end Go.Proofs.YthdidjnhfkeokaaDoor
