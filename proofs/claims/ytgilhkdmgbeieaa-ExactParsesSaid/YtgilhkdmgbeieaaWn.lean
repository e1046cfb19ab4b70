/- The contract of exact's FracText. -/
import Derived.Test.YtgilhkdmgbeieaaWm
import Derived.Deep.RegionHeld3
namespace Go.Proofs.Ytgilhkdmgbeieaa
open Go.RowKit

/-- What FracText returns. -/
def SText (f : FA) (s : ByteArray) (err : Int) : Prop :=
  ∃ l l' , SReduce f l l' err ∧ s = if err = 0 then strN (textN (val 4294967296 l) ++ 47 :: textN (val 4294967296 l')) else strN []

theorem textN_len {V n : Nat} (h : V < 4294967296 ^ n) : (textN V).length ≤ 32 * n + 1 := by
  unfold textN
  split
  · simp
  · rw [List.length_map, List.length_reverse]
    have h4 : (4294967296 : Nat) ^ n = 2 ^ (32 * n) := by rw [Nat.pow_mul]
    have h2 : 2 ^ (32 * n) ≤ 10 ^ (32 * n) := Nat.pow_le_pow_left (by omega) _
    have := ((decD_num V).length_le (by omega) (32 * n)).2 (by omega)
    omega
theorem strN_size (l : List Nat) : (strN l).size = l.length := by simp [strN, ByteArray.size]
theorem strN_append (l m : List Nat) : strN (l ++ m) = strN l ++ strN m := by
  apply ByteArray.ext
  simp [strN]
theorem size47 : (⟨#[47]⟩ : ByteArray).size = 1 := rfl
theorem strN47 : strN [47] = ⟨#[47]⟩ := rfl

set_option maxRecDepth 100000 in
set_option maxHeartbeats 1600000 in
theorem fracText_c (f : FA) (w : World) (B : Nat) (hf : f.Rd w B) (hB : B ≤ w.heap.size) :
    Calls Try.prog 41 #[.agg #[.slice f.A f.n f.c, .slice f.A' f.n' f.c']] w fun e w' => ∃ s err, e = .returned (.tuple #[.string s, .int .i64 err]) ∧ SText f s err ∧ Below w.heap.size w w' := by
  have hF := (Blk.new w 25 #[.slice f.A f.n f.c, .slice f.A' f.n' f.c'])
  have hb := ((Below.refl w.heap.size w).alloc (Nat.le_refl _) (.cells #[.slice f.A f.n f.c, .slice f.A' f.n' f.c'] 25))
  have hs1 : (w.alloc (.cells #[.slice f.A f.n f.c, .slice f.A' f.n' f.c'] 25)).heap.size = w.heap.size + 1 := by simp
  go_enter Try.func41, Try.ntmps41
  go_wp2_with fail
  generalize (w.alloc (.cells #[.slice f.A f.n f.c, .slice f.A' f.n' f.c'] 25)) = w1 at *
  have hf1 := (hf.below (hb.mono hB)).mono (show B ≤ w1.heap.size by omega)
  refine (reduce_c f w1 _ hf1 (Nat.le_refl _)).mono ?_
  rintro e w2 ⟨A, n, c, l, A', n', c', l', err, rfl, s1, s2, hS, hb2⟩
  have hbw2 := hb.trans (hb2.mono (by omega))
  have hs2 := hb2.size
  clear hF hf1 hb hb2
  by_cases h0 : err = 0
  · subst h0
    go_wp2
    have hX := Blk.new w2 25 #[.slice A n c, .slice A' n' c']
    have hb3 := (Below.refl w2.heap.size w2).alloc (Nat.le_refl _) (.cells #[.slice A n c, .slice A' n' c'] 25)
    have hs3 : w2.heap.size < (w2.alloc (.cells #[.slice A n c, .slice A' n' c'] 25)).heap.size := by simp
    generalize w2.alloc (.cells #[.slice A n c, .slice A' n' c'] 25) = w3 at *
    have s1' := (s1.below hb3).mono hb3.size
    have s2' := (s2.below hb3).mono hb3.size
    have hbw3 := hbw2.trans (hb3.mono (by omega))
    have hc0 := hX.cell 0
    have hc1 := hX.cell 1
    simp at hc0 hc1
    have hg := hX.lt
    clear hb3 hX s1 s2 hbw2
    have hN : Num 4294967296 l (val 4294967296 l) ∧ Num 4294967296 l' (val 4294967296 l') ∧ n ≤ 64 ∧ n' ≤ 64 := by
      rcases hS with ⟨_, ⟨h1, h2, h3, h4, _⟩ | ⟨_, h, h', _⟩⟩ | ⟨_, h, h', _⟩
      · have e1 := h3.fits.2 h1
        have e2 := h4.fits.2 h2
        rw [s1'.len] at e1
        rw [s2'.len] at e2
        rw [h3.val_, h4.val_]
        exact ⟨h3, h4, e1, e2⟩
      all_goals
        have e1 := s1'.len
        have e2 := s2'.len
        subst h h'
        simp at e1 e2
        exact ⟨Num.nil _, Num.nil _, by omega, by omega⟩
    obtain ⟨n1, n2, hl1, hl2⟩ := hN
    have HS := hide hS
    clear hS
    obtain ⟨X, hX⟩ : ∃ X, strN (textN (val 4294967296 l)) = X := ⟨_, rfl⟩
    obtain ⟨Y, hY⟩ : ∃ Y, strN (textN (val 4294967296 l')) = Y := ⟨_, rfl⟩
    have hXs : X.size ≤ 1000000 := by
      rw [← hX, strN_size]
      have := textN_len n1.lt
      rw [s1'.len] at this; omega
    have hYs : Y.size ≤ 1000000 := by
      rw [← hY, strN_size]
      have := textN_len n2.lt
      rw [s2'.len] at this; omega
    have HX := hide hX
    have HY := hide hY
    clear hX hY
    have key1 : ∀ wx, Below w3.heap.size w3 wx → Calls Try.prog 95 #[.slice A n c] wx fun e w' => e = .returned (.string X) ∧ Below wx.heap.size wx w' := fun wx hbx => by
      have := write_c A n c l wx w3.heap.size (s1'.below hbx) hbx.size n1.dig (by omega)
      rwa [HX.out] at this
    have key2 : ∀ wx, Below w3.heap.size w3 wx → Calls Try.prog 95 #[.slice A' n' c'] wx fun e w' => e = .returned (.string Y) ∧ Below wx.heap.size wx w' := fun wx hbx => by
      have := write_c A' n' c' l' wx w3.heap.size (s2'.below hbx) hbx.size n2.dig (by omega)
      rwa [HY.out] at this
    have K1 := hide key1
    have K2 := hide key2
    clear key1 key2 s1' s2'
    have keep : ∀ wx wy : World, (wx.cell? ⟨w2.heap.size, 0, none⟩ = some (.slice A n c) ∧ wx.cell? ⟨w2.heap.size, 1, none⟩ = some (.slice A' n' c') ∧ Below w3.heap.size w3 wx) → Below wx.heap.size wx wy →
        wy.cell? ⟨w2.heap.size, 0, none⟩ = some (.slice A n c) ∧ wy.cell? ⟨w2.heap.size, 1, none⟩ = some (.slice A' n' c') ∧ Below w3.heap.size w3 wy := fun wx wy ⟨h1, h2, h3⟩ h4 => by
      have := h3.size
      exact ⟨(h4.cell (p := ⟨w2.heap.size, 0, none⟩) (by show w2.heap.size < _; omega)).trans h1, (h4.cell (p := ⟨w2.heap.size, 1, none⟩) (by show w2.heap.size < _; omega)).trans h2, h3.trans (h4.mono this)⟩
    have KP := hide keep
    clear keep
    have hb33 := Below.refl w3.heap.size w3
    obtain ⟨X1, hX1⟩ : ∃ X1 : ByteArray, X ++ ⟨#[47]⟩ = X1 := ⟨_, rfl⟩
    obtain ⟨Z, hZ⟩ : ∃ Z : ByteArray, X1 ++ Y = Z := ⟨_, rfl⟩
    have hX1s : X1.size ≤ 1000001 := by rw [← hX1, ByteArray.size_append, size47]; omega
    have hadd1 : ∀ wx : World, (Op.stringOp .add X ⟨#[47]⟩).run Try.prog wx = .ok (.string X1) wx := fun wx => by rw [run_string_add_sum wx X ⟨#[47]⟩ (by rw [size47]; omega), hX1]
    have hadd2 : ∀ wx : World, (Op.stringOp .add X1 Y).run Try.prog wx = .ok (.string Z) wx := fun wx => by rw [run_string_add_sum wx X1 Y (by omega), hZ]
    have HX1 := hide hX1
    have HZ := hide hZ
    clear hX1 hZ
    go_region_held3 (fun w' => w'.cell? ⟨w2.heap.size, 0, none⟩ = some (.slice A n c) ∧ w'.cell? ⟨w2.heap.size, 1, none⟩ = some (.slice A' n' c') ∧ Below w3.heap.size w3 w')
      (first | exact ⟨hc0, hc1, hb33.drew⟩ | exact KP.out _ _ ⟨by assumption, by assumption, by assumption⟩ (by assumption) | exact KP.out _ _ (by assumption) (by assumption))
      (first
        | (go_at_call_of 95 (Value.slice A n c); refine (K1.out _ ?_).mono ?_; (first | assumption | exact And.right (And.right (by assumption))); rintro e wz ⟨rfl, hbz⟩)
        | (go_at_call_of 95 (Value.slice A' n' c'); refine (K2.out _ ?_).mono ?_; (first | assumption | exact And.right (And.right (by assumption))); rintro e wz ⟨rfl, hbz⟩))
    go_wp2
    go_ret2
    have hs9 := hbw3.size
    refine ⟨_, _, rfl, ⟨l, l', HS.out, ?_⟩, ?_⟩
    rotate_left
    · have hq : wz.cell? ⟨w2.heap.size, 0, none⟩ = some (.slice A n c) ∧ wz.cell? ⟨w2.heap.size, 1, none⟩ = some (.slice A' n' c') ∧ Below w3.heap.size w3 wz := by assumption
      exact hbw3.trans (hq.2.2.mono hs9)
    rw [if_pos rfl, show textN (val 4294967296 l) ++ 47 :: textN (val 4294967296 l') = textN (val 4294967296 l) ++ [47] ++ textN (val 4294967296 l') by simp, strN_append, strN_append, strN47, HX.out, HX1.out, HY.out, HZ.out]
  · have h0' : (err != 0) = true := by rw [bne_iff_ne]; exact h0
    go_wp2
    go_ret2
    exact ⟨_, _, rfl, ⟨_, _, hS, by rw [if_neg h0]; rfl⟩, hbw2.alloc (by omega) _⟩
end Go.Proofs.Ytgilhkdmgbeieaa
