/- Numbers from their decimal texts: plain lemmas; the contract of exact's read. Contracts of strings.Cut at a separator of one byte (the library's own text is walked; its entry for a byte's index by the shelf's law). -/
import Derived.Test.YtgilhkdmgbeieaaWo
import Derived.Lib.Strings
import Derived.Lib.Slices
import Derived.Lib.Walk
import Derived.Lib.Bytealg
import Derived.Lib.IndexLaws
import Derived.BigQuiet
namespace Go.Proofs.Ytgilhkdmgbeieaa
open Go.RowKit

set_option maxHeartbeats 1000000 in
set_option maxRecDepth 100000 in
theorem indexByte_c (s : ByteArray) (c : Int) (w : World) :
    Calls Try.prog 128 #[.string s, .int .u8 c] w fun e w' => e = .returned (.int .i64 (Lib.indexByte s.data.toList c.toNat.toUInt8)) ∧ w' = w := by
  go_enter Try.func128, Try.ntmps128
  go_wp2
  rw [run_callFunc_extern Try.func132 (by kernel_rfl) (by kernel_rfl) (by kernel_rfl) (e := Extern.BytealgIndexByte.indexByte) (by kernel_rfl), Lib.run_indexByteString]
  simp only [Result.andThen]
  rw [Oper.upon_value]
  go_wp2
  go_ret
  exact ⟨rfl, rfl⟩

set_option maxHeartbeats 2000000 in
set_option maxRecDepth 100000 in
theorem index_c (s : ByteArray) (c : UInt8) (w : World) :
    Calls Try.prog 127 #[.string s, .string ⟨#[c]⟩] w fun e w' => e = .returned (.int .i64 (Lib.indexByte s.data.toList c)) ∧ w' = w := by
  go_enter Try.func127, Try.ntmps127
  go_wp2_with (go_at_call 128; refine (indexByte_c _ _ _).mono ?_; rintro e w' ⟨rfl, rfl⟩)
  · have h : ([c] == s.toList) = true := by assumption
    go_ret
    refine ⟨?_, rfl⟩
    have e : s.data.toList = [c] := by rw [← Lib.toList_data]; exact (beq_iff_eq.1 h).symm
    rw [e]
    simp [Lib.indexByte]
  · go_ret
    exact ⟨rfl, rfl⟩

set_option maxHeartbeats 2000000 in
set_option maxRecDepth 100000 in
theorem cut0_c (s : ByteArray) (w : World) (hs : s.size ≤ 9223372036854775807) :
    Calls Try.prog 126 #[.string s, .string ⟨#[47]⟩] w fun e w' => ∃ q, w' = w.drewN q ∧
      ((∃ i : Nat, Lib.indexByte s.data.toList 47 = i ∧ i < s.size ∧ e = .returned (.tuple #[.string (s.extract 0 i), .string (s.extract (i + 1) s.size), .bool true])) ∨
       (Lib.indexByte s.data.toList 47 = -1 ∧ e = .returned (.tuple #[.string s, .string ⟨#[]⟩, .bool false]))) := by
  obtain ⟨z, hz⟩ : ∃ z, Lib.indexByte s.data.toList 47 = z := ⟨_, rfl⟩
  have t := index_c s 47 w
  rw [hz] at t
  by_cases h0 : 0 ≤ z
  · obtain ⟨i, rfl⟩ := Int.eq_ofNat_of_zero_le h0
    have hi : i < s.size := by
      have h1 := (Lib.indexByte_some hz).1
      have h2 := (List.getElem?_eq_some_iff.1 h1).1
      simpa [Array.length_toList] using h2
    have HZ := hide hz
    clear hz
    go_enter Try.func126, Try.ntmps126
    go_wp2_with fail
    refine t.mono ?_
    rintro e w' ⟨rfl, rfl⟩
    have hi1 : (i : Int) ≤ (s.size : Int) := by omega
    have hi2 : (i : Int) + 1 ≤ (s.size : Int) := by omega
    go_wp2
    go_quiet (fail)
    go_wp2
    go_ret3
    exact ⟨_, rfl, .inl ⟨i, HZ.out, hi, by simp⟩⟩
  · have hz1 : z = -1 := by
      have := Lib.indexByte_ge s.data.toList 47
      omega
    subst hz1
    go_enter Try.func126, Try.ntmps126
    go_wp2_with fail
    refine t.mono ?_
    rintro e w' ⟨rfl, rfl⟩
    go_wp2
    go_ret3
    exact ⟨0, rfl, .inr ⟨hz, rfl⟩⟩

set_option maxHeartbeats 1000000 in
theorem cut_c (s : ByteArray) (w : World) (hs : s.size ≤ 9223372036854775807) :
    Calls Try.prog 115 #[.string s, .string ⟨#[47]⟩] w fun e w' => ∃ q, w' = w.drewN q ∧
      ((∃ i : Nat, Lib.indexByte s.data.toList 47 = i ∧ i < s.size ∧ e = .returned (.tuple #[.string (s.extract 0 i), .string (s.extract (i + 1) s.size), .bool true])) ∨
       (Lib.indexByte s.data.toList 47 = -1 ∧ e = .returned (.tuple #[.string s, .string ⟨#[]⟩, .bool false]))) := by
  go_enter Try.func115, Try.ntmps115
  go_wp2_with fail
  refine (cut0_c s w hs).mono ?_
  rintro e w' ⟨q, rfl, ⟨i, h1, h2, rfl⟩ | ⟨h1, rfl⟩⟩
  · go_wp2
    go_ret3
    exact ⟨q, rfl, .inl ⟨i, h1, h2, rfl⟩⟩
  · go_wp2
    go_ret3
    exact ⟨q, rfl, .inr ⟨h1, rfl⟩⟩


/-- The bytes of a string. -/
def bytesN (s : ByteArray) : List Nat := s.data.toList.map UInt8.toNat
theorem bytesN_length (s : ByteArray) : (bytesN s).length = s.size := by simp [bytesN]
theorem bytesN_at (s : ByteArray) (i : Nat) (h : i < s.size) : (s[i]'h).toNat = (bytesN s).getD i 0 := by
  obtain ⟨⟨l⟩⟩ := s
  have hl : i < l.length := h
  have e : (ByteArray.mk ⟨l⟩)[i]'h = l[i] := rfl
  rw [e]
  simp [bytesN, hl]
def okD (l : List Nat) : Prop := 0 < l.length ∧ l.length ≤ 617 ∧ (∀ x ∈ l, 48 ≤ x ∧ x ≤ 57) ∧ (l.getD 0 0 = 48 → l.length = 1)
def numD (l : List Nat) : Nat := l.foldl (fun a x => 10 * a + (x - 48)) 0
theorem numD_nil : numD [] = 0 := rfl
theorem numD_snoc (l : List Nat) (x : Nat) : numD (l ++ [x]) = 10 * numD l + (x - 48) := by simp [numD]
theorem take_snoc {l : List Nat} {i x : Nat} (h : i < l.length) (hx : l.getD i 0 = x) : l.take (i + 1) = l.take i ++ [x] := by
  rw [List.take_add_one, List.getElem?_eq_getElem h]
  simp [h] at hx
  simp [hx]
theorem numD_lt : ∀ (i : Nat) (l : List Nat), (∀ x ∈ l.take i, 48 ≤ x ∧ x ≤ 57) → numD (l.take i) < 10 ^ i
  | 0, l, _ => by simp [numD_nil]
  | i + 1, l, h => by
    rcases Nat.lt_or_ge i l.length with hi | hi
    · have e := take_snoc hi rfl
      rw [e] at h ⊢
      have ih := numD_lt i l (fun x hx => h x (by simp [hx]))
      have hd := h (l.getD i 0) (by simp)
      rw [numD_snoc, Nat.pow_succ]
      omega
    · rw [List.take_of_length_le (by omega)] at h ⊢
      have ih := numD_lt i l (fun x hx => h x (List.mem_of_mem_take hx))
      rw [List.take_of_length_le hi] at ih
      rw [Nat.pow_succ]
      omega
/-- Times ten, and a digit: k limbs are done. -/
def MulD (la lo : List Nat) (d k carry : Nat) : Prop := lo.length = la.length ∧ lo.drop k = la.drop k ∧ val 4294967296 (lo.take k) + 4294967296 ^ k * carry = 10 * val 4294967296 (la.take k) + d
theorem MulD.start (la : List Nat) (d : Nat) : MulD la la d 0 d := ⟨rfl, rfl, by simp [val]⟩
theorem MulD.step {la lo : List Nat} {d k carry x t : Nat} (h : MulD la lo d k carry) (hk : k < la.length) (hx : la.getD k 0 = x) (ht : carry + 10 * x = t) : MulD la (lo.set k (t % 4294967296)) d (k + 1) (t / 4294967296) := by
  obtain ⟨h1, h2, h3⟩ := h
  refine ⟨by rw [List.length_set]; exact h1, by rw [drop_set_succ]; exact drop_succ_of h2, ?_⟩
  rw [take_set_succ _ _ _ (by omega), val_append, val_take_succ, List.length_take, Nat.min_eq_left (by omega), hx, Nat.pow_succ]
  have e := Nat.div_add_mod t 4294967296
  simp only [val]
  generalize t / 4294967296 = q at *
  generalize t % 4294967296 = r at *
  subst ht
  grind
theorem MulD.done {la lo : List Nat} {d carry : Nat} (h : MulD la lo d la.length carry) : val 4294967296 lo + 4294967296 ^ la.length * carry = 10 * val 4294967296 la + d := by
  obtain ⟨h1, _, h3⟩ := h
  rwa [List.take_of_length_le (by omega), List.take_of_length_le (Nat.le_refl _)] at h3
theorem num_of_ge {l : List Nat} {N M : Nat} (hd : Digs 4294967296 l) (hv : val 4294967296 l = N) {la : List Nat} (hN : Num 4294967296 la M) (hl : l.length = la.length) (hle : M ≤ N) : Num 4294967296 l N := by
  refine ⟨hd, hv, fun i hi h0 => ?_⟩
  have h1 : ¬ la.length ≤ i := by omega
  rw [hN.length_le (by omega)] at h1
  have e := val_take_succ 4294967296 l i
  rw [List.take_of_length_le (by omega), hv, h0, Nat.mul_zero, Nat.add_zero] at e
  have h2 := val_lt (hd.take i)
  rw [List.length_take, Nat.min_eq_left (by omega)] at h2
  omega
theorem num_snoc {l : List Nat} {c N : Nat} (hd : Digs 4294967296 l) (hc : 0 < c) (hc1 : c < 4294967296) (hv : val 4294967296 l + 4294967296 ^ l.length * c = N) : Num 4294967296 (l ++ [c]) N := by
  refine ⟨hd.append (Digs.one hc1), by rw [val_append]; simp [val]; exact hv, fun i hi => ?_⟩
  rw [List.length_append, List.length_singleton] at hi
  obtain rfl : i = l.length := by omega
  simp
  omega
def SRead (b l : List Nat) (ok : Bool) : Prop := (okD b ∧ ok = true ∧ Num 4294967296 l (numD b)) ∨ (¬ okD b ∧ ok = false ∧ l = [])

/-- A number and whether it was read. -/
def ReadV (w : World) (b : List Nat) (e : Ending) (w' : World) : Prop :=
  ∃ A n c l ok, e = .returned (.tuple #[.slice A n c, .bool ok]) ∧ Sl w' w'.heap.size .u32 A n c l ∧ SRead b l ok ∧ Below w.heap.size w w' ∧ ∀ b o, A = some ⟨b, o, none⟩ → w.heap.size ≤ b

theorem getD_mem {l : List Nat} {i : Nat} (h : i < l.length) : l.getD i 0 ∈ l := by
  rw [List.getD_eq_getElem?_getD, List.getElem?_eq_getElem h]
  exact List.getElem_mem h
theorem toList_ne {s : ByteArray} (h : 0 < s.size) : ¬ s.toList = [] ∧ s.toList.isEmpty = false := by
  have e : s.toList.length = s.size := by rw [Lib.toList_data, Array.length_toList]; rfl
  have h1 : ¬ s.toList = [] := fun hh => by rw [hh] at e; simp at e; omega
  exact ⟨h1, by simpa [List.isEmpty_iff] using h1⟩

set_option maxRecDepth 100000 in
set_option maxHeartbeats 6400000 in
theorem xread_c (s : ByteArray) (w : World) (hs : s.size ≤ 9223372036854775807) :
    Calls Try.prog 112 #[.string s] w (ReadV w (bytesN s)) := by
  obtain ⟨b, hb⟩ : ∃ b, bytesN s = b := ⟨_, rfl⟩
  have hbl := bytesN_length s
  rw [hb] at hbl ⊢
  by_cases h0 : s.size = 0
  · have he : s = ⟨#[]⟩ := by
      obtain ⟨⟨l⟩⟩ := s
      have : l.length = 0 := h0
      rw [List.eq_nil_of_length_eq_zero this]
    subst he
    go_enter Try.func112, Try.ntmps112
    go_wp2
    go_ret2
    exact ⟨_, _, _, _, _, rfl, Sl.nil _ _ _ _ _ (by omega), .inr ⟨fun h => by have := h.1; omega, rfl, rfl⟩, Below.refl _ _, fun _ _ e => (by cases e)⟩
  · obtain ⟨hne, hnE⟩ := toList_ne (s := s) (by omega)
    by_cases h617 : 617 < s.size
    · have h617' : (617 : Int) < (s.size : Int) := by omega
      go_enter Try.func112, Try.ntmps112
      go_wp2
      go_ret2
      exact ⟨_, _, _, _, _, rfl, Sl.nil _ _ _ _ _ (by omega), .inr ⟨fun h => by have := h.2.1; omega, rfl, rfl⟩, Below.refl _ _, fun _ _ e => (by cases e)⟩
    · have h617' : ¬ (617 : Int) < (s.size : Int) := by omega
      have hz0 : 0 < s.size := by omega
      obtain ⟨x0, hx0⟩ : ∃ x0, (s[0]'hz0).toNat = x0 := ⟨_, rfl⟩
      have hx0b := bytesN_at s 0 hz0
      rw [hb, hx0] at hx0b
      by_cases hlead : x0 = 48 ∧ 1 < s.size
      · obtain ⟨rfl, h1s⟩ := hlead
        have h1s' : (1 : Int) < (s.size : Int) := by omega
        have HX0 := hide hx0b
        clear hx0b
        go_enter Try.func112, Try.ntmps112
        go_wp2
        go_ret2
        exact ⟨_, _, _, _, _, rfl, Sl.nil _ _ _ _ _ (by omega), .inr ⟨fun h => by have := h.2.2.2 HX0.out.symm; omega, rfl, rfl⟩, Below.refl _ _, fun _ _ e => (by cases e)⟩
      · have hlead' : x0 ≠ 48 ∨ ¬ (1 : Int) < (s.size : Int) := by omega
        have hbc : ∀ i (h : i < s.size), ∃ x, (s[i]'h).toNat = x ∧ Hid (b.getD i 0 = x) ∧ x < 256 := fun i h => by
          refine ⟨_, rfl, ?_, (s[i]'h).toNat_lt⟩
          show b.getD i 0 = _
          rw [bytesN_at s i h, hb]
        have HBC := hide hbc
        have HB0 : Hid (b.getD 0 0 = x0) := hx0b.symm
        clear hbc hx0b hb
        have hstart : ∀ (R : Prop), (x0 ≠ 48 → R) → (x0 = 48 → ¬ (1 : Int) < (s.size : Int) → R) → R := fun R h1 h2 => by
          by_cases h : x0 = 48
          · exact h2 h (by omega)
          · exact h1 h
        refine hstart _ (fun h48 => ?_) (fun h48 h1s => ?_)
        case' refine_2 => subst h48
        all_goals
          go_enter Try.func112, Try.ntmps112
          go_wp2
          go_loopw [4, 27] (fun v4 iv wr => ∃ (i : Nat) (A : Option Addr) (n c : Nat) (la : List Nat), i ≤ s.size ∧ iv = .int .i64 i ∧ v4 = .slice A n c ∧ Own wr w.heap.size 58 .u32 A n c la ∧ Num 4294967296 la (numD (b.take i)) ∧ Hid (∀ x ∈ b.take i, 48 ≤ x ∧ x ≤ 57) ∧ Below w.heap.size w wr)
            (fun _ iv _ => s.size - (intOf iv).toNat)
          case atStart => exact ⟨0, none, 0, 0, [], Nat.zero_le _, rfl, rfl, Own.nil _ _ _ _, by rw [List.take_zero]; exact Num.nil _, fun x hx => (by simp at hx), Below.refl _ _⟩
          case round =>
            obtain ⟨i, A, n, c, la, hi, rfl, rfl, oa, Na, Hd, hbw⟩ := hrel
            have hni : n ≤ i := by
              rw [← oa.len]
              refine (Na.length_le (by omega) i).2 (Nat.lt_of_lt_of_le (numD_lt i b Hd.out) (Nat.pow_le_pow_left (by omega) i))
            have hcap := oa.sl.cap
            have hmax := oa.sl.max
            by_cases hlt : i < s.size
            · obtain ⟨x, hx, HX, hx256⟩ := HBC.out i hlt
              have hlti : (i : Int) < (s.size : Int) := by omega
              by_cases hdig : 48 ≤ x ∧ x ≤ 57
              · obtain ⟨hd1, hd2⟩ := hdig
                obtain ⟨d, hd⟩ : ∃ d, x = d + 48 := ⟨x - 48, by omega⟩
                subst hd
                obtain ⟨wo, rfl⟩ : ∃ wo : World, wo = wr := ⟨_, rfl⟩
                go_wp2
                go_loopw [6, 47] (fun cv kv wr => ∃ (k carry : Nat) (lo : List Nat), k ≤ n ∧ kv = .int .i64 k ∧ cv = .int .u64 carry ∧ carry < 10 ∧ Own wr w.heap.size 58 .u32 A n c lo ∧ Digs 4294967296 lo ∧ MulD la lo d k carry ∧ Below w.heap.size w wr)
                  (fun _ kv _ => n - (intOf kv).toNat)
                case atStart => exact ⟨0, d, la, Nat.zero_le _, rfl, by go_num, by omega, oa, Na.dig, MulD.start la d, hbw⟩
                case round =>
                  obtain ⟨k, carry, lo, hk, rfl, rfl, hc10, ho, hdo, hM, hbq⟩ := hrel
                  have hll := oa.len
                  by_cases hkn : k < n
                  · first
                    | (exfalso; omega)
                    | (obtain ⟨g, rfl⟩ : ∃ g, A = some ⟨g, 0, none⟩ := by
                         rcases ho.form with ⟨_, e, _⟩ | ⟨g, _, e, _⟩
                         · omega
                         · exact ⟨g, e⟩
                       obtain ⟨y, hy, hym, hcy⟩ := ho.cell hkn
                       have hy1 := hdo y hym
                       have hfz := ho.frozen k
                       have hgw := (ho.lt rfl).1
                       have HY : Hid (la.getD k 0 = y) := by
                         show la.getD k 0 = y
                         rw [← hy]
                         exact (getD_of_drop hM.2.1).symm
                       clear hy
                       obtain ⟨t, HT, ht⟩ : ∃ t : Nat, Hid (carry + 10 * y = t) ∧ t < 42949672960 := ⟨_, rfl, by omega⟩
                       have hti : (carry : Int) + 10 * (y : Int) = (t : Int) := by have := HT.out; omega
                       go_wp2
                       go_roundw
                       case rel => exact ⟨k + 1, t / 4294967296, lo.set k (t % 4294967296), by omega, by go_num, by go_num, by omega, ho.store k (t % 4294967296) (by go_num), hdo.set _ _ (by omega), hM.step (by omega) HY.out HT.out, hbq.setCell hgw _⟩
                       case measure => simp [intOf] <;> omega)
                  · obtain rfl : n = k := by omega
                    have hMd : val 4294967296 lo + 4294967296 ^ n * carry = 10 * numD (b.take i) + d := by
                      have h := hM
                      rw [← hll] at h
                      have h2 := h.done
                      rw [Na.val_, hll] at h2
                      exact h2
                    have hnew : numD (b.take (i + 1)) = 10 * numD (b.take i) + d := by
                      rw [take_snoc (by omega) HX.out, numD_snoc]; rfl
                    have hd' : ∀ x ∈ b.take (i + 1), 48 ≤ x ∧ x ≤ 57 := fun x hx => by
                      rw [take_snoc (by omega) HX.out] at hx
                      rcases List.mem_append.1 hx with h | h
                      · exact Hd.out x h
                      · rw [List.mem_singleton.1 h]; omega
                    have hlo := ho.len
                    by_cases hc0 : 0 < carry
                    · have hNn := num_snoc (N := numD (b.take (i + 1))) hdo hc0 (by omega) (by rw [hlo, hMd, hnew])
                      have HN := hide hNn
                      have HD := hide hd'
                      have hsz := hbq.size
                      clear hMd hnew hd' hNn
                      go_wp2_with (first
                        | (at_builtin; refine wl_append _ rfl (.tmp 68) (.tmp 71) _ rfl w.heap.size 58 .u32 4 Try.underlying23 info_u32 (by omega) A n c lo rfl (ho.alloc _) (some ⟨wr.heap.size, 0, none⟩) 1 1 [carry] rfl (wr.heap.size + 1) (Sl.one wr _ _ carry (congrArg (Value.int .u32) (by omega))) (by omega) (by simp; omega) ?_; intro A3 c3 w3 o3 hg3 hA3))
                      go_wp2
                      go_roundw
                      case rel =>
                        refine ⟨i + 1, A3, n + 1, c3, _, by omega, by go_num, rfl, o3, HN.out, HD.out, ?_⟩
                        exact (hbq.alloc hsz (.cells #[.int .u32 (carry : Int)] 58)).grown hg3 (by simp; omega) (fun k hk => by
                          cases A with
                          | none => cases hk
                          | some ad =>
                            rcases ho.form with ⟨h', _⟩ | ⟨g', _, h', hg', _⟩
                            · cases h'
                            · injection h' with h'
                              subst h'
                              simp at hk
                              omega)
                      case measure => simp [intOf] <;> omega
                    · obtain rfl : carry = 0 := by omega
                      rw [Nat.mul_zero, Nat.add_zero] at hMd
                      have hNn := num_of_ge (N := numD (b.take (i + 1))) hdo (by rw [hMd, hnew]) Na (by omega) (by omega)
                      have HN := hide hNn
                      have HD := hide hd'
                      clear hMd hnew hd' hNn
                      go_wp2
                      go_roundw
                      case rel => exact ⟨i + 1, A, n, c, lo, by omega, by go_num, rfl, ho, HN.out, HD.out, hbq⟩
                      case measure => simp [intOf] <;> omega
              · have hnd : ¬ okD b := fun h => hdig (h.2.2.1 x (by rw [← HX.out]; exact getD_mem (by omega)))
                have hc : x < 48 ∨ (48 ≤ x ∧ 57 < x) := by omega
                rcases hc with hc | hc
                all_goals
                  go_wp2
                  go_ret2
                  exact ⟨_, _, _, _, _, rfl, Sl.nil _ _ _ _ _ (by omega), .inr ⟨hnd, rfl, rfl⟩, hbw, fun _ _ e => (by cases e)⟩
            · obtain rfl : i = s.size := by omega
              have hok : okD b := by
                have h := Hd.out
                rw [List.take_of_length_le (by omega)] at h
                exact ⟨by omega, by omega, h, fun h => by rw [HB0.out] at h; omega⟩
              rw [List.take_of_length_le (by omega)] at Na
              go_wp2
              go_ret2
              exact ⟨_, _, _, _, _, rfl, oa.sl, .inl ⟨hok, rfl, Na⟩, hbw, fun b o e => (by subst e; exact (oa.lt rfl).1)⟩
end Go.Proofs.Ytgilhkdmgbeieaa
