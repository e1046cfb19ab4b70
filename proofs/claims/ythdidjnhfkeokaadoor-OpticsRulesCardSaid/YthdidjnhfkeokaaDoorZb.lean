/- Contracts of optics.small, of the reference's digits and number. -/
import Derived.Test.YthdidjnhfkeokaaDoorZa
import Derived.Test.YthdidjnhfkeokaaDoorQc
import Derived.Lib.Strings
import Derived.Lib.Slices
import Derived.BigQuiet
namespace Go.Proofs.YthdidjnhfkeokaaDoor
open Go.RowKit

def lst (s : ByteArray) : List UInt8 := s.data.toList
theorem lst_len (s : ByteArray) : (lst s).length = s.size := by simp [lst]
theorem lst_get (s : ByteArray) (i : Nat) (h : i < s.size) : (lst s)[i]? = some (s[i]'h) := by
  obtain ⟨⟨l⟩⟩ := s
  have hl : i < l.length := h
  show l[i]? = _
  rw [List.getElem?_eq_getElem hl]; rfl
theorem dec_lt (l : List UInt8) (h : l.all isDig = true) : dec l < 10 ^ l.length := by
  revert h
  refine snoc_ind (M := fun l => l.all isDig = true → dec l < 10 ^ l.length) (fun _ => by simp [dec]) (fun l b ih => ?_) l
  intro h
  rw [List.all_append] at h
  simp only [Bool.and_eq_true, List.all_cons, List.all_nil, Bool.and_true, isDig, decide_eq_true_eq] at h
  have := ih h.1
  rw [dec_snoc, List.length_append, List.length_singleton, Nat.pow_succ]; omega
theorem dec_take {l : List UInt8} {i : Nat} {b : UInt8} (h : l[i]? = some b) : dec (l.take (i + 1)) = 10 * dec (l.take i) + (b.toNat - 48) := by
  rw [List.take_add_one, h]; exact dec_snoc _ _
def smallOk (l : List UInt8) : Bool := decide (l.length ≤ 4) && okNum l
def smallV (l : List UInt8) : Nat := if smallOk l then dec l else 0
def SSmall (l : List UInt8) (w : World) (e : Ending) (w' : World) : Prop := e = .returned (.tuple #[.int .i64 (smallV l : Int), .bool (smallOk l)]) ∧ w' = w
theorem SSmall.no {l : List UInt8} {w : World} (h : smallOk l = false) : SSmall l w (.returned (.tuple #[.int .i64 0, .bool false])) w := by
  refine ⟨?_, rfl⟩
  unfold smallV; rw [h]; rfl
theorem SSmall.yes {l : List UInt8} {w : World} (h : smallOk l = true) : SSmall l w (.returned (.tuple #[.int .i64 (dec l : Int), .bool true])) w := by
  refine ⟨?_, rfl⟩
  unfold smallV; rw [h]; rfl
theorem ok_parts {l : List UInt8} (h0 : 0 < l.length) (h4 : l.length ≤ 4) (hz : l.head? ≠ some 48 ∨ l.length ≤ 1) : smallOk l = l.all isDig := by
  unfold smallOk okNum
  have h1 : l.isEmpty = false := by
    cases l with
    | nil => simp at h0
    | cons _ _ => rfl
  rw [h1, decide_eq_true h4]
  rcases hz with hz | hz
  · simp [hz]
  · rw [show decide (1 < l.length) = false by simp; omega]; simp

set_option maxRecDepth 100000 in
set_option maxHeartbeats 1600000 in
theorem small_c (s : ByteArray) (w : World) : Calls Tryd.prog 44 #[.string s] w (SSmall (lst s) w) := by
  obtain ⟨l, hl⟩ : ∃ l, l = lst s := ⟨_, rfl⟩
  have hlen := lst_len s
  have hget := lst_get s
  rw [← hl] at hlen hget ⊢
  by_cases h0 : s.size = 0
  · have he : s = ⟨#[]⟩ := by
      obtain ⟨⟨l⟩⟩ := s
      have : l.length = 0 := h0
      rw [List.eq_nil_of_length_eq_zero this]
    have HN := hide (show smallOk l = false by rw [List.eq_nil_of_length_eq_zero (by omega : l.length = 0)]; rfl)
    subst he
    clear hlen hget hl h0
    go_enter Tryd.func44, Tryd.ntmps44
    go_wp2
    go_ret2
    exact SSmall.no HN.out
  · by_cases h4 : 4 < s.size
    · have h4' : (4 : Int) < (s.size : Int) := by omega
      have HN := hide (show smallOk l = false by unfold smallOk; rw [show decide (l.length ≤ 4) = false by simp; omega]; rfl)
      clear hlen hget hl
      go_enter Tryd.func44, Tryd.ntmps44
      go_wp2
      go_ret2
      exact SSmall.no HN.out
    · have h4' : ¬ (4 : Int) < (s.size : Int) := by omega
      have hz0 : 0 < s.size := by omega
      obtain ⟨x0, hx0⟩ : ∃ x0, (s[0]'hz0).toNat = x0 := ⟨_, rfl⟩
      have hg0 := hget 0 hz0
      by_cases hlead : x0 = 48 ∧ 1 < s.size
      · obtain ⟨rfl, h1s⟩ := hlead
        have h1s' : (1 : Int) < (s.size : Int) := by omega
        have HN := hide (show smallOk l = false by
          have hb : s[0]'hz0 = 48 := UInt8.toNat_inj.1 hx0
          rw [hb] at hg0
          unfold smallOk okNum
          rw [List.head?_eq_getElem?, hg0, show decide (1 < l.length) = true by simp; omega]; simp)
        clear hlen hget hl hg0
        go_enter Tryd.func44, Tryd.ntmps44
        go_wp2
        go_ret2
        exact SSmall.no HN.out
      · have HOK := hide (show smallOk l = l.all isDig by
          refine ok_parts (by omega) (by omega) ?_
          by_cases h48 : x0 = 48
          · right; omega
          · left
            rw [List.head?_eq_getElem?, hg0]
            intro e
            have := congrArg UInt8.toNat (Option.some.inj e)
            rw [hx0] at this; exact h48 this)
        have hbc : ∀ i (h : i < s.size), ∃ x, (s[i]'h).toNat = x ∧ Hid (∃ b : UInt8, l[i]? = some b ∧ b.toNat = x) ∧ x < 256 := fun i h => ⟨_, rfl, ⟨_, hget i h, rfl⟩, (s[i]'h).toNat_lt⟩
        have HBC := hide hbc
        have HLN := hide hlen
        clear hbc hg0 hget hlen hl
        have hstart : ∀ (R : Prop), ((1 : Int) < (s.size : Int) → x0 ≠ 48 → R) → (¬ (1 : Int) < (s.size : Int) → R) → R := fun R h1 h2 => by
          by_cases h : (1 : Int) < (s.size : Int)
          · exact h1 h (by omega)
          · exact h2 h
        have hs0 : ((s.size : Int) == 0) = false := decide_eq_false (fun e => h0 (by omega))
        refine hstart _ (fun h1s h48 => ?_) (fun h1s => ?_)
        case' refine_1 => have h48b : ((x0 : Int) == 48) = false := decide_eq_false (fun e => h48 (by omega))
        all_goals
          go_enter Tryd.func44, Tryd.ntmps44
          go_wp2
          go_loopw [26, 4] (fun iv nv wr => ∃ i : Nat, i ≤ s.size ∧ iv = .int .i64 i ∧ nv = .int .i64 (dec (l.take i) : Int) ∧ (l.take i).all isDig = true ∧ wr = w) (fun iv _ _ => s.size - (intOf iv).toNat)
          case atStart => exact ⟨0, Nat.zero_le _, rfl, rfl, rfl, rfl⟩
          case round =>
            obtain ⟨i, hi, rfl, rfl, hd, rfl⟩ := hrel
            have hlt10 : dec (l.take i) < 10 ^ 4 := Nat.lt_of_lt_of_le (dec_lt _ hd) (Nat.pow_le_pow_right (by omega) (by rw [List.length_take]; omega))
            have HD := hide hd
            clear hd
            obtain ⟨m, hm⟩ : ∃ m, m = dec (l.take i) := ⟨_, rfl⟩
            rw [← hm] at hlt10 ⊢
            have HM := hide hm
            clear hm
            by_cases hlt : i < s.size
            · obtain ⟨x, hx, HX, hx256⟩ := HBC.out i hlt
              have hlti : (i : Int) < (s.size : Int) := by omega
              by_cases hdig : 48 ≤ x ∧ x ≤ 57
              · obtain ⟨hd1, hd2⟩ := hdig
                obtain ⟨d, hd⟩ : ∃ d, x = d + 48 := ⟨x - 48, by omega⟩
                subst hd
                have HN2 := hide (show dec (l.take (i + 1)) = 10 * m + d ∧ (l.take (i + 1)).all isDig = true by
                  obtain ⟨b, hb, hbx⟩ := HX.out
                  refine ⟨by rw [dec_take hb, hbx, ← HM.out]; omega, ?_⟩
                  rw [List.take_add_one, hb, List.all_append, HD.out]
                  simp only [Option.toList_some, List.all_cons, List.all_nil, Bool.and_true, Bool.true_and, isDig, decide_eq_true_eq]; omega)
                go_wp2
                go_roundw
                case rel => exact ⟨i + 1, by omega, by go_num, by rw [HN2.out.1]; go_num, HN2.out.2, trivial⟩
                case measure => simp [intOf] <;> omega
              · have HN := hide (show smallOk l = false by
                  rw [HOK.out]
                  obtain ⟨b, hb, hbx⟩ := HX.out
                  refine all_false hb ?_
                  simp only [isDig, hbx, decide_eq_false_iff_not]; exact hdig)
                have hcase : x < 48 ∨ 57 < x := by omega
                clear hdig
                rcases hcase with hc | hc
                · go_wp2
                  go_ret2
                  exact SSmall.no HN.out
                · go_wp2
                  go_ret2
                  exact SSmall.no HN.out
            · have HN := hide (show smallOk l = true ∧ dec l = m by
                have ht : l.take i = l := List.take_of_length_le (by have := HLN.out; omega)
                have h1 := HM.out
                have h2 := HD.out
                rw [ht] at h1 h2
                exact ⟨by rw [HOK.out]; exact h2, h1.symm⟩)
              go_wp2
              go_ret2
              rw [← HN.out.2]
              exact SSmall.yes HN.out.1
end Go.Proofs.YthdidjnhfkeokaaDoor
