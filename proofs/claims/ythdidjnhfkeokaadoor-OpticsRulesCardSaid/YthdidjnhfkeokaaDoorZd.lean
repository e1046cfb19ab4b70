/- Contracts of strings.Split and strings.Cut as the walks use them; of the reference's words. -/
import Derived.Test.YthdidjnhfkeokaaDoorZc
import Derived.Test.YthdidjnhfkeokaaDoorShB
namespace Go.Proofs.YthdidjnhfkeokaaDoor
open Go.RowKit

/-- The library's variable that its search reads holds some number. -/
def Mx (w : World) : Prop := ∃ m, w.cell? ⟨0, 0, none⟩ = some (.int .i64 m)
theorem Mx.lt {w : World} (h : Mx w) : 0 < w.heap.size := by
  obtain ⟨m, hm⟩ := h
  rcases Nat.lt_or_ge 0 w.heap.size with h' | h'
  · exact h'
  · unfold World.cell? at hm; simp only [Array.getElem?_eq_none h'] at hm; cases hm
theorem Mx.on {w w' : World} (h : Mx w) (hb : Below w.heap.size w w') : Mx w' := by
  have hl := h.lt
  obtain ⟨m, hm⟩ := h
  exact ⟨m, (hb.cell (p := ⟨0, 0, none⟩) hl).trans hm⟩
theorem Mx.drewN {w : World} (h : Mx w) (n : Nat) : Mx (w.drewN n) := h
def partsB (c : UInt8) (s : ByteArray) : List ByteArray := (partsL c (lst s)).map strB
def wordsB (s : ByteArray) : List ByteArray := partsB 32 s
theorem splitB_parts (c : UInt8) (s : ByteArray) : Lib.splitB ⟨#[c]⟩ 0 (Lib.countB s ⟨#[c]⟩) s = partsB c s ∧ Lib.countB s ⟨#[c]⟩ = (lst s).count c := by
  have h1 : Lib.countB s ⟨#[c]⟩ = (lst s).count c := by
    rw [← Lib.count_one]; rfl
  refine ⟨?_, h1⟩
  have h2 := Lib.splitB_data ⟨#[c]⟩ 0 (Lib.countB s ⟨#[c]⟩) s
  have h3 := splitK_parts c (Lib.countB s ⟨#[c]⟩) (lst s) h1.symm
  have h4 : (Lib.splitB ⟨#[c]⟩ 0 (Lib.countB s ⟨#[c]⟩) s).map lst = partsL c (lst s) := h2.trans h3
  unfold partsB
  rw [← h4, List.map_map]
  conv => lhs; rw [← List.map_id (Lib.splitB ⟨#[c]⟩ 0 (Lib.countB s ⟨#[c]⟩) s)]
  exact List.map_congr_left fun x _ => (strB_lst x).symm
theorem Rd.strs (w : World) (T : TypeId) (xs : List ByteArray) (n : Nat) (hn : xs.length = n) (hm : n ≤ 9223372036854775807) : Rd eStr (w.alloc (.cells (xs.map Value.string).toArray T)) (w.alloc (.cells (xs.map Value.string).toArray T)).heap.size (some ⟨w.heap.size, 0, none⟩) n n xs := by
  refine ⟨hn, Nat.le_refl _, hm, fun _ => ⟨_, 0, rfl, by simp, fun i y hy j v hv => ?_⟩⟩
  have hj : j = 0 := by have := Enc.cell_lt hv; simp [eStr] at this; omega
  subst hj
  have hv' : Value.string y = v := by simpa [eStr] using hv
  subst hv'
  rw [show 0 + i * eStr.nf + 0 = i by simp [eStr], cell_of_row _ _ _ _ T (0, 0) (heap_alloc_new w _)]
  simp [hy]
/-- strings.Split at a separator of one byte. -/
theorem split_c (c : UInt8) (s : ByteArray) (w : World) (hm : Mx w) (hs : s.size < 4294967281) :
    Calls Tryd.prog 43 #[.string s, .string ⟨#[c]⟩] w fun e w' => ∃ A n, e = .returned (.slice A n n) ∧ Rd eStr w' w'.heap.size A n n (partsB c s) ∧ 0 < n ∧ n ≤ s.size + 1 ∧ Below w.heap.size w w' := by
  obtain ⟨m, hm⟩ := hm
  refine (Tryd.strings_Split s ⟨#[c]⟩ m w hs hm (show 1 ≤ (ByteArray.mk #[c]).size from Nat.le_refl 1)).mono fun e w' h => ?_
  obtain ⟨he, hw⟩ := h
  obtain ⟨h1, h2⟩ := splitB_parts c s
  have hl := Lib.splitB_all ⟨#[c]⟩ (show 1 ≤ (ByteArray.mk #[c]).size from Nat.le_refl 1) 0 (Lib.countB s ⟨#[c]⟩) s rfl
  have hc : Lib.countB s ⟨#[c]⟩ ≤ s.size := by rw [h2, ← lst_len s]; exact List.count_le_length
  rw [h1] at hw hl
  refine ⟨_, _, he, ?_, by omega, by omega, ?_⟩
  · subst hw
    exact Rd.strs w _ _ _ hl (by omega)
  · subst hw
    exact below_alloc w _

/-! ### The reference's words -/
theorem extract_strB (s : ByteArray) (a b : Nat) : s.extract a b = strB (((lst s).drop a).take (b - a)) := by
  rw [← strB_lst (s.extract a b)]
  congr 1
  unfold lst
  rw [ByteArray.data_extract]
  simp
/-- Behind i bytes: the words that are whole; where the next one begins. -/
def AtW (l : List UInt8) (i fr : Nat) (W : List (List UInt8)) : Prop :=
  (i ≤ l.length ∧ fr ≤ i ∧ partsL 32 l = W ++ partsL 32 (l.drop fr) ∧ (32 : UInt8) ∉ (l.drop fr).take (i - fr)) ∨ (i = l.length + 1 ∧ W = partsL 32 l)
theorem AtW.start (l : List UInt8) : AtW l 0 0 [] := .inl ⟨by omega, by omega, rfl, by simp⟩
theorem AtW.last {l : List UInt8} {fr : Nat} {W : List (List UInt8)} (h : AtW l l.length fr W) : AtW l (l.length + 1) (l.length + 1) (W ++ [(l.drop fr).take (l.length - fr)]) := by
  rcases h with ⟨_, h2, h3, h4⟩ | ⟨h, _⟩
  · refine .inr ⟨rfl, ?_⟩
    have e : (l.drop fr).take (l.length - fr) = l.drop fr := List.take_of_length_le (by rw [List.length_drop]; omega)
    rw [e] at h4 ⊢
    rw [h3, partsL_no h4]
  · omega
theorem drop_split {l : List UInt8} {i fr : Nat} {b : UInt8} (hf : fr ≤ i) (hb : l[i]? = some b) : l.drop fr = (l.drop fr).take (i - fr) ++ b :: l.drop (i + 1) := by
  have hi : i < l.length := (List.getElem?_eq_some_iff.1 hb).1
  have e : (l.drop fr).drop (i - fr) = b :: l.drop (i + 1) := by
    rw [List.drop_drop, show fr + (i - fr) = i by omega, List.drop_eq_getElem_cons hi]
    congr 1
    exact (List.getElem?_eq_some_iff.1 hb).2
  rw [← e, List.take_append_drop]
theorem AtW.space {l : List UInt8} {i fr : Nat} {W : List (List UInt8)} (h : AtW l i fr W) (hb : l[i]? = some 32) : AtW l (i + 1) (i + 1) (W ++ [(l.drop fr).take (i - fr)]) := by
  have hi : i < l.length := (List.getElem?_eq_some_iff.1 hb).1
  rcases h with ⟨_, h2, h3, h4⟩ | ⟨h, _⟩
  · refine .inl ⟨by omega, Nat.le_refl _, ?_, by simp⟩
    rw [h3, drop_split h2 hb, partsL_app h4, List.append_assoc, List.singleton_append]
    rw [← drop_split h2 hb]
  · omega
theorem AtW.other {l : List UInt8} {i fr : Nat} {W : List (List UInt8)} {b : UInt8} (h : AtW l i fr W) (hb : l[i]? = some b) (hne : b ≠ 32) : AtW l (i + 1) fr W := by
  have hi : i < l.length := (List.getElem?_eq_some_iff.1 hb).1
  rcases h with ⟨_, h2, h3, h4⟩ | ⟨h, _⟩
  · refine .inl ⟨by omega, by omega, h3, ?_⟩
    rw [show i + 1 - fr = (i - fr) + 1 by omega, List.take_add_one, List.getElem?_drop, show fr + (i - fr) = i by omega, hb]
    simp only [Option.toList_some, List.mem_append, List.mem_singleton, not_or]
    exact ⟨h4, fun e => hne e.symm⟩
  · omega
theorem AtW.fr_le {l : List UInt8} {i fr : Nat} {W : List (List UInt8)} (h : AtW l i fr W) (hi : i ≤ l.length) : fr ≤ i := by
  rcases h with ⟨_, h2, _⟩ | ⟨h, _⟩
  · exact h2
  · omega
theorem AtW.over {l : List UInt8} {i fr : Nat} {W : List (List UInt8)} (h : AtW l i fr W) (hi : ¬ i ≤ l.length) : W = partsL 32 l := by
  rcases h with ⟨h1, _⟩ | ⟨_, h⟩
  · omega
  · exact h
set_option maxRecDepth 100000 in
set_option maxHeartbeats 3200000 in
theorem rwords_c (s : ByteArray) (w : World) (hs : s.size ≤ 1000000) : Calls Tryd.prog 45 #[.string s] w fun e w' => ∃ A n c, e = .returned (.slice A n c) ∧ Ow eStr w' w.heap.size 9 A n c (wordsB s) ∧ Below w.heap.size w w' := by
  obtain ⟨l, hl⟩ : ∃ l, l = lst s := ⟨_, rfl⟩
  have hlen := lst_len s
  have hget := lst_get s
  have HEX := hide (fun a b => extract_strB s a b)
  have HWB := hide (show wordsB s = (partsL 32 l).map strB by rw [hl]; rfl)
  rw [← hl] at hlen hget HEX
  have hbc : ∀ i (h : i < s.size), ∃ x, (s[i]'h).toNat = x ∧ Hid (∃ b : UInt8, l[i]? = some b ∧ b.toNat = x) ∧ x < 256 := fun i h => ⟨_, rfl, ⟨_, hget i h, rfl⟩, (s[i]'h).toNat_lt⟩
  have HBC := hide hbc
  have HLN := hide hlen
  clear hbc hget hlen hl
  go_enter Tryd.func45, Tryd.ntmps45
  go_wp2
  go_loopw [5, 3, 4] (fun iv ov fv wr => ∃ (i fr : Nat) (A : Option Addr) (n c : Nat) (W : List (List UInt8)), i ≤ s.size + 1 ∧ n ≤ i ∧ iv = .int .i64 i ∧ ov = .slice A n c ∧ fv = .int .i64 fr ∧ Ow eStr wr w.heap.size 9 A n c (W.map strB) ∧ AtW l i fr W ∧ Below w.heap.size w wr) (fun iv _ _ _ => s.size + 1 - (intOf iv).toNat)
  case atStart => exact ⟨0, 0, none, 0, 0, [], by omega, by omega, rfl, rfl, rfl, Ow.nil _ _ _, AtW.start l, Below.refl _ _⟩
  case round =>
    obtain ⟨i, fr, A, n, c, W, hi, hn, rfl, rfl, rfl, ow, hat, hbw⟩ := hrel
    have HA := hide hat
    clear hat
    by_cases hle : i ≤ s.size
    · have hfr : fr ≤ i := HA.out.fr_le (by have := HLN.out; omega)
      have hle' : (i : Int) ≤ (s.size : Int) := by omega
      have hfr' : (fr : Int) ≤ (i : Int) := by omega
      obtain ⟨x, hx⟩ : ∃ x, x = s.extract fr i := ⟨_, rfl⟩
      have HXE := hide (hx.trans (HEX.out fr i))
      have hR := Rd.newAt (e := eStr) wr 9 x #[.string x] rfl wr.heap.size rfl
      rw [hx] at hR HXE
      clear hx
      by_cases he : i = s.size
      · have heb : ((i : Int) == (s.size : Int)) = true := by rw [he]; simp
        have HN := hide (show AtW l (i + 1) (i + 1) (W ++ [(l.drop fr).take (i - fr)]) by
          have h1 := HA.out
          have h2 : i = l.length := by have := HLN.out; omega
          rw [h2] at h1 ⊢
          exact h1.last)
        clear he
        go_upto_region 7 with fail
        go_wp2_with (at_builtin; refine wl_app eStr _ rfl (.tmp 22) (.tmp 27) _ rfl w.heap.size 9 (.string ByteArray.empty) 16 Tryd.underlying71 info_str rfl (by omega) _ _ _ _ (by rfl) (ow.alloc _) _ 1 1 [s.extract fr i] (by rfl) _ hR (by omega) (by have := hbw.size; simp; omega) ?_; intro A5 c5 w9 o9 hg9 hA9)
        go_roundw
        case rel => exact ⟨i + 1, i + 1, A5, n + 1, c5, W ++ [(l.drop fr).take (i - fr)], by omega, by omega, by go_num, rfl, by go_num, by rw [List.map_append, List.map_singleton, ← HXE.out]; exact o9, HN.out, below_app (hbw.alloc hbw.size _) (ow.alloc _) hg9 (Nat.le_refl _) (Nat.le_refl _)⟩
        case measure => simp [intOf] <;> omega
      · have heb : ((i : Int) == (s.size : Int)) = false := decide_eq_false (fun e => he (by omega))
        have hlt : i < s.size := by omega
        have hlti : (i : Int) < (s.size : Int) := by omega
        obtain ⟨x, hx, HX, hx256⟩ := HBC.out i hlt
        by_cases h32 : x = 32
        · have HN := hide (show AtW l (i + 1) (i + 1) (W ++ [(l.drop fr).take (i - fr)]) by
            obtain ⟨b, hb, hbx⟩ := HX.out
            have : b = 32 := UInt8.toNat_inj.1 (by rw [hbx, h32]; rfl)
            rw [this] at hb
            exact HA.out.space hb)
          have h32b : ((x : Int) == 32) = true := by rw [h32]; rfl
          clear h32
          go_upto_region 7 with fail
          go_wp2_with (at_builtin; refine wl_app eStr _ rfl (.tmp 22) (.tmp 27) _ rfl w.heap.size 9 (.string ByteArray.empty) 16 Tryd.underlying71 info_str rfl (by omega) _ _ _ _ (by rfl) (ow.alloc _) _ 1 1 [s.extract fr i] (by rfl) _ hR (by omega) (by have := hbw.size; simp; omega) ?_; intro A5 c5 w9 o9 hg9 hA9)
          go_roundw
          case rel => exact ⟨i + 1, i + 1, A5, n + 1, c5, W ++ [(l.drop fr).take (i - fr)], by omega, by omega, by go_num, rfl, by go_num, by rw [List.map_append, List.map_singleton, ← HXE.out]; exact o9, HN.out, below_app (hbw.alloc hbw.size _) (ow.alloc _) hg9 (Nat.le_refl _) (Nat.le_refl _)⟩
          case measure => simp [intOf] <;> omega
        · have HN := hide (show AtW l (i + 1) fr W by
            obtain ⟨b, hb, hbx⟩ := HX.out
            exact HA.out.other hb (fun e => h32 (by rw [← hbx, e]; rfl)))
          have h32b : ((x : Int) == 32) = false := decide_eq_false (fun e => h32 (by omega))
          clear h32 hR
          go_wp2
          go_roundw
          case rel => exact ⟨i + 1, fr, A, n, c, W, by omega, by omega, by go_num, rfl, rfl, ow, HN.out, hbw⟩
          case measure => simp [intOf] <;> omega
    · have hle' : ¬ (i : Int) ≤ (s.size : Int) := by omega
      have HN := hide (HA.out.over (by have := HLN.out; omega))
      have HO := hide ow
      go_wp2
      go_ret
      exact ⟨A, n, c, rfl, by rw [HWB.out, ← HN.out]; exact HO.out, hbw⟩
end Go.Proofs.YthdidjnhfkeokaaDoor
