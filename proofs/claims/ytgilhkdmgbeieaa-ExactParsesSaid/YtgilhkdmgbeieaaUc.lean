/- Decimal texts read back: plain lemmas. -/
import Derived.Test.YtgilhkdmgbeieaaUb
import Derived.Test.YtgilhkdmgbeieaaNa
namespace Go.Proofs.Ytgilhkdmgbeieaa
open Go.RowKit

theorem numD_rev : ∀ d : List Nat, numD (d.reverse.map (· + 48)) = val 10 d
  | [] => by simp [numD_nil, val]
  | x :: d => by
    rw [List.reverse_cons, List.map_append, List.map_singleton, numD_snoc, numD_rev d]
    simp only [val]
    omega
theorem numD_text (n : Nat) : numD (textN n) = n := by
  unfold textN
  split
  · rename_i h; subst h; rfl
  · rw [numD_rev, (decD_num n).val_]
theorem textN_digs (n : Nat) : ∀ x ∈ textN n, 48 ≤ x ∧ x ≤ 57 := by
  intro x hx
  unfold textN at hx
  split at hx
  · have : x = 48 := by simpa using hx
    omega
  · obtain ⟨y, hy, rfl⟩ := List.mem_map.1 hx
    have h2 := (decD_num n).dig y (List.mem_reverse.1 hy)
    omega
theorem textN_pos (n : Nat) : 0 < (textN n).length := by
  unfold textN
  split
  · simp
  · rw [List.length_map, List.length_reverse]
    have := (decD_num n).zero_iff (by omega)
    omega
theorem textN_lead (n : Nat) (h : (textN n).getD 0 0 = 48) : (textN n).length = 1 := by
  unfold textN at h ⊢
  split
  · rfl
  · rename_i h0
    rw [if_neg h0] at h
    exfalso
    have hz := (decD_num n).zero_iff (by omega)
    obtain ⟨i, hi⟩ : ∃ i, (decD n).length = i + 1 := ⟨(decD n).length - 1, by omega⟩
    have ht := (decD_num n).top i hi
    rw [List.getD_eq_getElem?_getD, List.getElem?_eq_getElem (by rw [List.length_map, List.length_reverse]; omega)] at h
    rw [List.getD_eq_getElem?_getD, List.getElem?_eq_getElem (by omega)] at ht
    simp [hi] at h ht
    omega
theorem textN_len10 {n k : Nat} (h : n < 10 ^ k) (hk : 0 < k) : (textN n).length ≤ k := by
  unfold textN
  split
  · simp; omega
  · rw [List.length_map, List.length_reverse]
    exact ((decD_num n).length_le (by omega) k).2 h
theorem two_ten (k p : Nat) (hk : k = 256) (hp : p = 76) : 2 ^ (k * 8) ≤ 10 ^ (p * 8 + 9) := by
  rw [Nat.pow_mul, Nat.pow_add, Nat.pow_mul]
  have h1 : (2 : Nat) ^ k ≤ 12 * 10 ^ p := by rw [hk, hp]; exact Nat.le_of_ble_eq_true rfl
  have h4 := Nat.pow_le_pow_left h1 8
  rw [Nat.mul_pow] at h4
  have h5 : (12 : Nat) ^ 8 ≤ 10 ^ 9 := Nat.le_of_ble_eq_true rfl
  have h6 := Nat.mul_le_mul_right ((10 ^ p) ^ 8) h5
  rw [Nat.mul_comm (10 ^ 9)] at h6
  exact Nat.le_trans h4 h6
theorem Fits.text {n : Nat} (h : Fits n) : (textN n).length ≤ 617 := by
  obtain ⟨k, hk⟩ : ∃ k, k = 256 := ⟨_, rfl⟩
  obtain ⟨p, hp⟩ : ∃ p, p = 76 := ⟨_, rfl⟩
  have h0 : (textN n).length ≤ p * 8 + 9 := by
    refine textN_len10 ?_ (by omega)
    have h1 : n < 4294967296 ^ 64 := h
    have h2 : (4294967296 : Nat) ^ 64 = 2 ^ (k * 8) := by
      rw [show (4294967296 : Nat) = 2 ^ 32 from rfl, ← Nat.pow_mul, show 32 * 64 = k * 8 by omega]
    rw [h2] at h1
    exact Nat.lt_of_lt_of_le h1 (two_ten k p hk hp)
  omega
theorem Fits.okD {n : Nat} (h : Fits n) : okD (textN n) := ⟨textN_pos n, h.text, textN_digs n, textN_lead n⟩
/-- The other way: what is read has this text. -/
theorem textN_numD {b : List Nat} (h : okD b) : textN (numD b) = b := by
  obtain ⟨h1, _, h3, h4⟩ := h
  have hb : b = ((b.map (· - 48)).reverse).reverse.map (· + 48) := by
    rw [List.reverse_reverse, List.map_map]
    conv => lhs; rw [← List.map_id b]
    refine List.map_congr_left fun x hx => ?_
    have := h3 x hx
    simp
    omega
  obtain ⟨d, hd⟩ : ∃ d, (b.map (· - 48)).reverse = d := ⟨_, rfl⟩
  rw [hd] at hb
  have hdl : d.length = b.length := by rw [← hd]; simp
  have hD : Digs 10 d := fun x hx => by
    rw [← hd] at hx
    obtain ⟨y, hy, rfl⟩ := List.mem_map.1 (List.mem_reverse.1 hx)
    have := h3 y hy
    omega
  have hv : numD b = val 10 d := by rw [hb, numD_rev]
  by_cases hz : b.getD 0 0 = 48
  · have hl := h4 hz
    obtain ⟨x, rfl⟩ : ∃ x, b = [x] := List.length_eq_one_iff.1 hl
    have : x = 48 := by simpa using hz
    subst this
    rfl
  · have hN : Num 10 d (numD b) := ⟨hD, hv.symm, fun i hi h0 => by
      apply hz
      rw [hb]
      rw [List.getD_eq_getElem?_getD, List.getElem?_eq_getElem (by rw [List.length_map, List.length_reverse]; omega)]
      rw [List.getD_eq_getElem?_getD, List.getElem?_eq_getElem (by omega)] at h0
      simp [hi] at h0 ⊢
      omega⟩
    have h0 : numD b ≠ 0 := fun h => by
      have := (hN.zero_iff (by omega)).2 h
      omega
    unfold textN
    rw [if_neg h0, ← hN.dec, ← hb]

theorem bytesN_strN {l : List Nat} (h : ∀ x ∈ l, x < 256) : bytesN (strN l) = l := by
  simp only [bytesN, strN, List.map_map]
  conv => rhs; rw [← List.map_id l]
  refine List.map_congr_left fun x hx => ?_
  have := h x hx
  simp
  omega
theorem strN_bytesN (s : ByteArray) : strN (bytesN s) = s := by
  obtain ⟨⟨l⟩⟩ := s
  simp only [bytesN, strN, List.map_map]
  rw [show l.map (UInt8.ofNat ∘ UInt8.toNat) = l.map id from List.map_congr_left fun x _ => by simp, List.map_id]
theorem bytesN_inj {s t : ByteArray} (h : bytesN s = bytesN t) : s = t := by rw [← strN_bytesN s, ← strN_bytesN t, h]
theorem bytesN_left (s : ByteArray) (i : Nat) : bytesN (s.extract 0 i) = (bytesN s).take i := by
  obtain ⟨⟨l⟩⟩ := s
  simp [bytesN]
theorem bytesN_right (s : ByteArray) (i : Nat) : bytesN (s.extract i s.size) = (bytesN s).drop i := by
  obtain ⟨⟨l⟩⟩ := s
  simp [bytesN]
  rw [List.take_of_length_le]
  show (List.drop i (List.map UInt8.toNat l)).length ≤ l.length - i
  simp

/-- The first '/' lies at i. -/
def CutAt (b : List Nat) (i : Nat) : Prop := i < b.length ∧ b.getD i 0 = 47 ∧ ∀ j, j < i → b.getD j 0 ≠ 47
theorem CutAt.uniq {b : List Nat} {i j : Nat} (h : CutAt b i) (k : CutAt b j) : i = j := by
  rcases Nat.lt_trichotomy i j with hij | hij | hij
  · exact absurd h.2.1 (k.2.2 i hij)
  · exact hij
  · exact absurd k.2.1 (h.2.2 j hij)
theorem cutAt_text (x y : List Nat) (h : ∀ z ∈ x, 48 ≤ z ∧ z ≤ 57) : CutAt (x ++ 47 :: y) x.length := by
  refine ⟨by simp, by simp, fun j hj => ?_⟩
  rw [List.getD_eq_getElem?_getD, List.getElem?_append_left hj, List.getElem?_eq_getElem hj]
  have := h x[j] (List.getElem_mem hj)
  simp
  omega
theorem cutAt_some {s : ByteArray} {i : Nat} (h : Lib.indexByte s.data.toList 47 = i) (hi : i < s.size) : CutAt (bytesN s) i := by
  obtain ⟨h1, h2⟩ := Lib.indexByte_some h
  refine ⟨by rw [bytesN_length]; exact hi, ?_, fun j hj hh => h2 j hj ?_⟩
  · rw [bytesN, List.getD_eq_getElem?_getD, List.getElem?_map, h1]; rfl
  · have hl : j < s.data.toList.length := Nat.lt_trans hj hi
    rw [bytesN, List.getD_eq_getElem?_getD, List.getElem?_map, List.getElem?_eq_getElem hl] at hh
    rw [List.getElem?_eq_getElem hl]
    exact congrArg some (UInt8.toNat_inj.1 hh)
theorem cutAt_none {s : ByteArray} (h : Lib.indexByte s.data.toList 47 = -1) (i : Nat) : ¬ CutAt (bytesN s) i := fun hc => by
  have h1 := hc.1
  rw [bytesN_length] at h1
  have hl : i < s.data.toList.length := h1
  have h2 := Lib.indexByte_none h i
  have hh := hc.2.1
  rw [bytesN, List.getD_eq_getElem?_getD, List.getElem?_map, List.getElem?_eq_getElem hl] at hh
  rw [List.getElem?_eq_getElem hl] at h2
  exact h2 (congrArg some (UInt8.toNat_inj.1 hh))

/-- The text of X/Y is b. -/
def FText (b : List Nat) (X Y : Nat) : Prop := 0 < Y ∧ b = textN (X / Nat.gcd X Y) ++ 47 :: textN (Y / Nat.gcd X Y)
theorem text_lt (X Y : Nat) : ∀ z ∈ textN X ++ 47 :: textN Y, z < 256 := fun z hz => by
  rcases List.mem_append.1 hz with h | h
  · have := textN_digs X z h; omega
  · rcases List.mem_cons.1 h with rfl | h
    · omega
    · have := textN_digs Y z h; omega
theorem SText.read {f : FA} {s : ByteArray} {err : Int} {X Y : Nat} (h : SText f s err) (hn : f.n ≤ 64) (hn' : f.n' ≤ 64) (hX : val 4294967296 f.l = X) (hY : val 4294967296 f.l' = Y) (fX : Fits X) (fY : Fits Y) :
    (err = 0 ∧ 0 < Y ∧ bytesN s = textN (X / Nat.gcd X Y) ++ 47 :: textN (Y / Nat.gcd X Y)) ∨ (err ≠ 0 ∧ Y = 0) := by
  obtain ⟨l, l', h1, h2⟩ := h
  have hv : errV [f] = if Y = 0 then 7 else 0 := by
    unfold errV
    have e1 : f.long = false := by simp [FA.long, hn, hn']
    simp [e1, FA.zero, hY]
  by_cases hY0 : Y = 0
  · right
    rw [if_pos hY0] at hv
    rcases h1 with ⟨h3, _⟩ | ⟨_, _, _, h3⟩
    · rw [hv] at h3; omega
    · exact ⟨by rw [h3, hv]; omega, hY0⟩
  · left
    rw [if_neg hY0] at hv
    rcases h1 with ⟨_, h3⟩ | ⟨h3, _⟩
    · rw [hX, hY] at h3
      rcases h3 with ⟨_, _, h5, h6, rfl⟩ | ⟨h4, _⟩
      · refine ⟨rfl, by omega, ?_⟩
        rw [if_pos rfl] at h2
        rw [h2, bytesN_strN (text_lt _ _), h5.val_, h6.val_]
      · exact absurd ⟨Fits.le fX (Nat.div_le_self _ _), Fits.le fY (Nat.div_le_self _ _)⟩ h4
    · exact absurd hv h3

/-- What Parse returns. -/
def SParse (b : List Nat) (l : List Nat) (err : Int) : Prop := (okD b ∧ SFit (numD b) l err) ∨ (¬ okD b ∧ l = [] ∧ err = 6)
theorem SParse.uniq (b : List Nat) : Uniq (SParse b) := fun h k => by
  rcases h with ⟨h1, h2⟩ | ⟨h1, h2, h3⟩ <;> rcases k with ⟨k1, k2⟩ | ⟨k1, k2, k3⟩
  · exact SFit.uniq _ h2 k2
  · exact absurd h1 k1
  · exact absurd k1 h1
  · exact ⟨by rw [h2, k2], by rw [h3, k3]⟩
/-- What FracParse returns of two texts. -/
def SPair (b x y : List Nat) (l l' : List Nat) (err : Int) : Prop :=
  (¬ (okD x ∧ okD y) ∧ l = [] ∧ l' = [] ∧ err = 6) ∨
  (okD x ∧ okD y ∧ ((¬ (Fits (numD x) ∧ Fits (numD y)) ∧ l = [] ∧ l' = [] ∧ err = 8) ∨
    (Fits (numD x) ∧ Fits (numD y) ∧ ((FText b (numD x) (numD y) ∧ Num 4294967296 l (numD x) ∧ Num 4294967296 l' (numD y) ∧ err = 0) ∨ (¬ FText b (numD x) (numD y) ∧ l = [] ∧ l' = [] ∧ err = 6)))))
theorem SPair.uniq {b x y l l' m m' : List Nat} {e e' : Int} (h : SPair b x y l l' e) (k : SPair b x y m m' e') : l = m ∧ l' = m' ∧ e = e' := by
  rcases h with ⟨h1, rfl, rfl, rfl⟩ | ⟨h1, h2, ⟨h3, rfl, rfl, rfl⟩ | ⟨h3, h4, ⟨h5, h6, h7, rfl⟩ | ⟨h5, rfl, rfl, rfl⟩⟩⟩ <;>
    rcases k with ⟨k1, rfl, rfl, rfl⟩ | ⟨k1, k2, ⟨k3, rfl, rfl, rfl⟩ | ⟨k3, k4, ⟨k5, k6, k7, rfl⟩ | ⟨k5, rfl, rfl, rfl⟩⟩⟩ <;>
    first
      | exact ⟨rfl, rfl, rfl⟩
      | exact absurd ⟨h1, h2⟩ k1
      | exact absurd ⟨k1, k2⟩ h1
      | exact absurd ⟨h3, h4⟩ k3
      | exact absurd ⟨k3, k4⟩ h3
      | exact absurd h5 k5
      | exact absurd k5 h5
      | exact ⟨h6.uniq k6 (by omega), h7.uniq k7 (by omega), rfl⟩
/-- What FracParse returns. -/
def SFP (b : List Nat) (l l' : List Nat) (err : Int) : Prop :=
  (∃ i, CutAt b i ∧ SPair b (b.take i) (b.drop (i + 1)) l l' err) ∨ ((∀ i, ¬ CutAt b i) ∧ l = [] ∧ l' = [] ∧ err = 6)
theorem SFP.uniq {b l l' m m' : List Nat} {e e' : Int} (h : SFP b l l' e) (k : SFP b m m' e') : l = m ∧ l' = m' ∧ e = e' := by
  rcases h with ⟨i, h1, h2⟩ | ⟨h1, rfl, rfl, rfl⟩ <;> rcases k with ⟨j, k1, k2⟩ | ⟨k1, rfl, rfl, rfl⟩
  · obtain rfl := h1.uniq k1
    exact h2.uniq k2
  · exact absurd h1 (k1 i)
  · exact absurd k1 (h1 j)
  · exact ⟨rfl, rfl, rfl⟩
end Go.Proofs.Ytgilhkdmgbeieaa
