/- Contracts of exact's Norm, Compare, Add, Sub, Mul, Divide, Gcd, Bits, Text. -/
import Derived.Test.YtgilhkdmgbeieaaOd
import Derived.Test.YtgilhkdmgbeieaaWn
import Derived.OwnWalk
namespace Go.Proofs.Ytgilhkdmgbeieaa
open Go.RowKit

/-- Not too long, else the error 4. -/
def SLong (ok : Prop) (T : List Nat → Int → Prop) (l : List Nat) (err : Int) : Prop := (ok ∧ T l err) ∨ (¬ ok ∧ l = [] ∧ err = 4)
def SFit (N : Nat) (l : List Nat) (err : Int) : Prop := (Fits N ∧ Num 4294967296 l N ∧ err = 0) ∨ (¬ Fits N ∧ l = [] ∧ err = 8)
def SNum (N : Nat) (l : List Nat) (err : Int) : Prop := Num 4294967296 l N ∧ err = 0
def SSub (X Y : Nat) (l : List Nat) (err : Int) : Prop := (Y ≤ X ∧ Num 4294967296 l (X - Y) ∧ err = 0) ∨ (¬ Y ≤ X ∧ l = [] ∧ err = 3)
def Uniq (T : List Nat → Int → Prop) : Prop := ∀ {l m : List Nat} {e f : Int}, T l e → T m f → l = m ∧ e = f
theorem SFit.uniq (N : Nat) : Uniq (SFit N) := fun h k => by
  rcases h with ⟨h1, h2, h3⟩ | ⟨h1, h2, h3⟩ <;> rcases k with ⟨k1, k2, k3⟩ | ⟨k1, k2, k3⟩
  · exact ⟨h2.uniq k2 (by omega), by rw [h3, k3]⟩
  · exact absurd h1 k1
  · exact absurd k1 h1
  · exact ⟨by rw [h2, k2], by rw [h3, k3]⟩
theorem SSub.uniq (X Y : Nat) : Uniq (SSub X Y) := fun h k => by
  rcases h with ⟨h1, h2, h3⟩ | ⟨h1, h2, h3⟩ <;> rcases k with ⟨k1, k2, k3⟩ | ⟨k1, k2, k3⟩
  · exact ⟨h2.uniq k2 (by omega), by rw [h3, k3]⟩
  · exact absurd h1 k1
  · exact absurd k1 h1
  · exact ⟨by rw [h2, k2], by rw [h3, k3]⟩
theorem SNum.uniq (N : Nat) : Uniq (SNum N) := fun h k => ⟨h.1.uniq k.1 (by omega), by rw [h.2, k.2]⟩
theorem SLong.uniq {ok : Prop} {T : List Nat → Int → Prop} (u : Uniq T) : Uniq (SLong ok T) := fun h k => by
  rcases h with ⟨h1, h2⟩ | ⟨h1, h2, h3⟩ <;> rcases k with ⟨k1, k2⟩ | ⟨k1, k2, k3⟩
  · exact u h2 k2
  · exact absurd h1 k1
  · exact absurd k1 h1
  · exact ⟨by rw [h2, k2], by rw [h3, k3]⟩
theorem FitR.v {w w' : World} {N : Nat} {e : Ending} (h : FitR w N e w') : NumV w (SFit N) e w' := by
  obtain ⟨hb, ⟨h1, g, n, c, l, he, ho, hn⟩ | ⟨h1, he⟩⟩ := h
  · exact ⟨_, _, _, _, _, he, ho.sl, .inl ⟨h1, hn, rfl⟩, hb⟩
  · exact ⟨_, _, _, _, _, he, Sl.nil _ _ _ _ _ (by omega), .inr ⟨h1, rfl, rfl⟩, hb⟩
theorem Sl.n63 {w : World} {B : Nat} {A : Option Addr} {n c : Nat} {l : List Nat} (h : Sl w B .u32 A n c l) : n ≤ 9223372036854775807 := by
  have := h.cap
  have := h.max
  omega
theorem Sl.fits {w : World} {B : Nat} {A : Option Addr} {n c : Nat} {l : List Nat} (h : Sl w B .u32 A n c l) (hd : Digs 4294967296 l) (hn : n ≤ 64) : Fits (val 4294967296 l) := by
  have h1 := val_lt hd
  rw [h.len] at h1
  exact Nat.lt_of_lt_of_le h1 (Nat.pow_le_pow_right (by omega) hn)
theorem Fits.le {N M : Nat} (h : Fits N) (hm : M ≤ N) : Fits M := Nat.lt_of_le_of_lt hm h
theorem Fits.gcd {X Y : Nat} (h : Fits X) (k : Fits Y) : Fits (Nat.gcd X Y) := by
  rcases Nat.eq_zero_or_pos X with rfl | hx
  · rw [Nat.gcd_zero_left]; exact k
  · exact h.le (Nat.gcd_le_left _ hx)

section
variable (A : Option Addr) (n c : Nat) (l : List Nat) (A' : Option Addr) (n' c' : Nat) (l' : List Nat) (w : World) (B : Nat)

set_option maxHeartbeats 400000 in
theorem xnorm_c (h : Sl w B .u32 A n c l) (hB : B ≤ w.heap.size) (hd : Digs 4294967296 l) :
    Calls Try.prog 53 #[.slice A n c] w (NumV w (SLong (n ≤ 64) (SNum (val 4294967296 l)))) := by
  have h1 := check1_c A n c w h.n63
  by_cases hk : n ≤ 64
  · rw [if_pos hk] at h1
    go_enter Try.func53, Try.ntmps53
    go_wp2_with fail
    refine h1.mono ?_
    rintro e w' ⟨rfl, rfl⟩
    clear h1
    go_wp2_with fail
    refine (clone_c _ _ _ _ w _ h hB hd (by omega)).mono ?_
    rintro e w1 ⟨g, n1, c1, l1, rfl, o1, N1, hb⟩
    go_wp2
    go_ret2
    exact ⟨_, _, _, _, _, rfl, o1.sl, .inl ⟨hk, N1, rfl⟩, hb⟩
  · rw [if_neg hk] at h1
    go_enter Try.func53, Try.ntmps53
    go_wp2_with fail
    refine h1.mono ?_
    rintro e w' ⟨rfl, rfl⟩
    clear h1
    go_wp2
    go_ret2
    exact ⟨_, _, _, _, _, rfl, Sl.nil _ _ _ _ _ (by omega), .inr ⟨hk, rfl, rfl⟩, Below.refl _ _⟩

set_option maxHeartbeats 400000 in
theorem xbits_c (h : Sl w B .u32 A n c l) (hd : Digs 4294967296 l) :
    Calls Try.prog 54 #[.slice A n c] w fun e w' => e = .returned (.tuple #[.int .i64 (if n ≤ 64 then bitsN (val 4294967296 l) else 0 : Nat), .int .i64 (if n ≤ 64 then 0 else 4)]) ∧ w = w' := by
  have h1 := check1_c A n c w h.n63
  by_cases hk : n ≤ 64
  · rw [if_pos hk] at h1 ⊢
    rw [if_pos hk]
    go_enter Try.func54, Try.ntmps54
    go_wp2_with fail
    refine h1.mono ?_
    rintro e w' ⟨rfl, rfl⟩
    clear h1
    go_wp2_with fail
    refine (size_c _ _ _ _ w _ h hd (by omega)).mono ?_
    rintro e w1 ⟨rfl, rfl⟩
    go_wp2
    go_ret2
    exact ⟨rfl, rfl⟩
  · rw [if_neg hk] at h1 ⊢
    rw [if_neg hk]
    go_enter Try.func54, Try.ntmps54
    go_wp2_with fail
    refine h1.mono ?_
    rintro e w' ⟨rfl, rfl⟩
    clear h1
    go_wp2
    go_ret2
    exact ⟨rfl, rfl⟩

set_option maxHeartbeats 400000 in
theorem xtext_c (h : Sl w B .u32 A n c l) (hB : B ≤ w.heap.size) (hd : Digs 4294967296 l) :
    Calls Try.prog 64 #[.slice A n c] w fun e w' => e = .returned (.tuple #[.string (if n ≤ 64 then strN (textN (val 4294967296 l)) else ⟨#[]⟩), .int .i64 (if n ≤ 64 then 0 else 4)]) ∧ Below w.heap.size w w' := by
  have h1 := check1_c A n c w h.n63
  by_cases hk : n ≤ 64
  · rw [if_pos hk] at h1 ⊢
    rw [if_pos hk]
    go_enter Try.func64, Try.ntmps64
    go_wp2_with fail
    refine h1.mono ?_
    rintro e w' ⟨rfl, rfl⟩
    clear h1
    go_wp2_with fail
    refine (write_c _ _ _ _ w _ h hB hd (by omega)).mono ?_
    rintro e w1 ⟨rfl, hb⟩
    go_wp2
    go_ret2
    exact ⟨rfl, hb⟩
  · rw [if_neg hk] at h1 ⊢
    rw [if_neg hk]
    go_enter Try.func64, Try.ntmps64
    go_wp2_with fail
    refine h1.mono ?_
    rintro e w' ⟨rfl, rfl⟩
    clear h1
    go_wp2
    go_ret2
    exact ⟨rfl, Below.refl _ _⟩

variable (h : Sl w B .u32 A n c l) (h' : Sl w B .u32 A' n' c' l') (hB : B ≤ w.heap.size) (hd : Digs 4294967296 l) (hd' : Digs 4294967296 l')
include h h' hd hd'

set_option maxHeartbeats 400000 in
theorem xcompare_c :
    Calls Try.prog 56 #[.slice A n c, .slice A' n' c'] w fun e w' => e = .returned (.tuple #[.int .i64 (if n ≤ 64 ∧ n' ≤ 64 then ordI (val 4294967296 l) (val 4294967296 l') else 0), .int .i64 (if n ≤ 64 ∧ n' ≤ 64 then 0 else 4)]) ∧ ∃ q, w' = w.drewN q := by
  have h1 := check2_c A n c A' n' c' w h.n63 h'.n63
  by_cases hk : n ≤ 64 ∧ n' ≤ 64
  · rw [if_pos hk] at h1 ⊢
    rw [if_pos hk]
    go_enter Try.func56, Try.ntmps56
    go_wp2_with fail
    refine h1.mono ?_
    rintro e w' ⟨rfl, rfl⟩
    clear h1
    go_wp2_with fail
    refine (order_c _ _ _ _ _ _ _ _ w _ h h' hd hd').mono ?_
    rintro e w1 ⟨rfl, q, rfl⟩
    go_wp2
    go_ret2
    exact ⟨rfl, q, rfl⟩
  · rw [if_neg hk] at h1 ⊢
    rw [if_neg hk]
    go_enter Try.func56, Try.ntmps56
    go_wp2_with fail
    refine h1.mono ?_
    rintro e w' ⟨rfl, rfl⟩
    clear h1
    go_wp2
    go_ret2
    exact ⟨rfl, 0, rfl⟩

include hB
set_option maxHeartbeats 400000 in
theorem xadd_c : Calls Try.prog 93 #[.slice A n c, .slice A' n' c'] w (NumV w (SLong (n ≤ 64 ∧ n' ≤ 64) (SFit (val 4294967296 l + val 4294967296 l')))) := by
  have h1 := check2_c A n c A' n' c' w h.n63 h'.n63
  by_cases hk : n ≤ 64 ∧ n' ≤ 64
  · rw [if_pos hk] at h1
    go_enter Try.func93, Try.ntmps93
    go_wp2_with fail
    refine h1.mono ?_
    rintro e w' ⟨rfl, rfl⟩
    clear h1
    go_wp2_with fail
    refine (plus_c _ _ _ _ _ _ _ _ w _ h h' hB hd hd' (by omega) (by omega)).mono ?_
    rintro e w1 ⟨g, n1, c1, l1, rfl, o1, N1, hb⟩
    have hl : n1 ≤ 65 := by
      rw [← o1.len]
      refine (N1.length_le (by omega) 65).2 ?_
      have e1 := h.fits hd hk.1
      have e2 := h'.fits hd' hk.2
      unfold Fits at e1 e2
      omega
    go_wp2_with fail
    have t2 := fit_c _ _ _ _ w1 _ o1.sl (Nat.le_refl _) N1.dig (by omega)
    rw [N1.val_] at t2
    refine t2.mono ?_
    intro e w2 h9
    obtain ⟨A2, n2, c2, l2, e2, rfl, s2, S2, hb2⟩ := h9.v
    go_wp2
    go_ret2
    exact ⟨_, _, _, _, _, rfl, s2, .inl ⟨hk, S2⟩, hb.trans (hb2.mono hb.size)⟩
  · rw [if_neg hk] at h1
    go_enter Try.func93, Try.ntmps93
    go_wp2_with fail
    refine h1.mono ?_
    rintro e w' ⟨rfl, rfl⟩
    clear h1
    go_wp2
    go_ret2
    exact ⟨_, _, _, _, _, rfl, Sl.nil _ _ _ _ _ (by omega), .inr ⟨hk, rfl, rfl⟩, Below.refl _ _⟩

set_option maxHeartbeats 400000 in
theorem xmul_c : Calls Try.prog 100 #[.slice A n c, .slice A' n' c'] w (NumV w (SLong (n ≤ 64 ∧ n' ≤ 64) (SFit (val 4294967296 l * val 4294967296 l')))) := by
  have h1 := check2_c A n c A' n' c' w h.n63 h'.n63
  by_cases hk : n ≤ 64 ∧ n' ≤ 64
  · rw [if_pos hk] at h1
    go_enter Try.func100, Try.ntmps100
    go_wp2_with fail
    refine h1.mono ?_
    rintro e w' ⟨rfl, rfl⟩
    clear h1
    go_wp2_with fail
    refine (trim_n _ _ _ _ w _ h hd).mono ?_
    rintro e w' ⟨m, hm, rfl, Nm, rfl⟩
    go_wp2_with fail
    refine (trim_n _ _ _ _ w _ h' hd').mono ?_
    rintro e w' ⟨m', hm', rfl, Nm', rfl⟩
    go_wp2_with fail
    have t1 := times_c _ _ _ _ _ _ _ _ w _ (h.take hm) (h'.take hm') hB Nm.dig Nm'.dig (by omega) (by omega)
    rw [Nm.val_, Nm'.val_] at t1
    refine t1.mono ?_
    rintro e w1 ⟨g, n1, c1, l1, rfl, o1, N1, hb⟩
    have hl : n1 ≤ 128 := by
      rw [← o1.len]
      refine (N1.length_le (by omega) 128).2 ?_
      have e1 := h.fits hd hk.1
      have e2 := h'.fits hd' hk.2
      unfold Fits at e1 e2
      have e3 := Nat.mul_lt_mul'' e1 e2
      rwa [← Nat.pow_add] at e3
    go_wp2_with fail
    have t2 := fit_c _ _ _ _ w1 _ o1.sl (Nat.le_refl _) N1.dig (by omega)
    rw [N1.val_] at t2
    refine t2.mono ?_
    intro e w2 h9
    obtain ⟨A2, n2, c2, l2, e2, rfl, s2, S2, hb2⟩ := h9.v
    go_wp2
    go_ret2
    exact ⟨_, _, _, _, _, rfl, s2, .inl ⟨hk, S2⟩, hb.trans (hb2.mono hb.size)⟩
  · rw [if_neg hk] at h1
    go_enter Try.func100, Try.ntmps100
    go_wp2_with fail
    refine h1.mono ?_
    rintro e w' ⟨rfl, rfl⟩
    clear h1
    go_wp2
    go_ret2
    exact ⟨_, _, _, _, _, rfl, Sl.nil _ _ _ _ _ (by omega), .inr ⟨hk, rfl, rfl⟩, Below.refl _ _⟩

set_option maxHeartbeats 400000 in
theorem xsub_c : Calls Try.prog 52 #[.slice A n c, .slice A' n' c'] w (NumV w (SLong (n ≤ 64 ∧ n' ≤ 64) (SSub (val 4294967296 l) (val 4294967296 l')))) := by
  have h1 := check2_c A n c A' n' c' w h.n63 h'.n63
  by_cases hk : n ≤ 64 ∧ n' ≤ 64
  · rw [if_pos hk] at h1
    have t0 := order_c _ _ _ _ _ _ _ _ w _ h h' hd hd'
    by_cases hle : val 4294967296 l' ≤ val 4294967296 l
    · obtain ⟨z, hz, hz0⟩ : ∃ z, ordI (val 4294967296 l) (val 4294967296 l') = z ∧ 0 ≤ z := ⟨_, rfl, by
        unfold ordI
        rw [if_neg (by omega)]
        split <;> omega⟩
      rw [hz] at t0
      clear hz
      go_enter Try.func52, Try.ntmps52
      go_wp2_with fail
      refine h1.mono ?_
      rintro e w' ⟨rfl, rfl⟩
      clear h1
      go_wp2_with fail
      refine t0.mono ?_
      rintro e w' ⟨rfl, q, rfl⟩
      clear t0
      have h2 := h.drewN q
      have h2' := h'.drewN q
      go_wp2_with fail
      refine (trim_n _ _ _ _ _ _ h2 hd).mono ?_
      rintro e w' ⟨m, hm, rfl, Nm, rfl⟩
      go_wp2_with fail
      refine (trim_n _ _ _ _ _ _ h2' hd').mono ?_
      rintro e w' ⟨m', hm', rfl, Nm', rfl⟩
      have hmm : m' ≤ m := by
        have e1 : (l'.take m').length = m' := by rw [List.length_take, h'.len]; omega
        have e2 : (l.take m).length = m := by rw [List.length_take, h.len]; omega
        rw [← e1]
        refine (Nm'.length_le (by omega) m).2 (Nat.lt_of_le_of_lt hle ?_)
        have := (Nm.length_le (by omega) m).1 (by omega)
        exact this
      go_wp2_with fail
      have t1 := minus_c _ _ _ _ _ _ _ _ (w.drewN q) _ (h2.take hm) (h2'.take hm') hB Nm.dig Nm'.dig (by omega) hmm (by rw [Nm.val_, Nm'.val_]; exact hle)
      rw [Nm.val_, Nm'.val_] at t1
      refine t1.mono ?_
      rintro e w1 ⟨g, n1, c1, l1, rfl, o1, N1, hb⟩
      have hfit : Fits (val 4294967296 l - val 4294967296 l') := (h.fits hd hk.1).le (Nat.sub_le _ _)
      have hl : n1 ≤ 64 := by rw [← o1.len]; exact N1.fits.2 hfit
      go_wp2_with fail
      have t2 := fit_c _ _ _ _ w1 _ o1.sl (Nat.le_refl _) N1.dig (by omega)
      rw [N1.val_] at t2
      refine t2.mono ?_
      intro e w2 h9
      obtain ⟨A2, n2, c2, l2, e2, rfl, s2, S2, hb2⟩ := h9.v
      have hbw : Below w.heap.size w w1 := ⟨hb.os, hb.tape, hb.output, hb.size, hb.block⟩
      go_wp2
      go_ret2
      rcases S2 with ⟨_, N2, rfl⟩ | ⟨hn, _⟩
      · exact ⟨_, _, _, _, _, rfl, s2, .inl ⟨hk, .inl ⟨hle, N2, rfl⟩⟩, hbw.trans (hb2.mono hbw.size)⟩
      · exact absurd hfit hn
    · rw [ordI_lt (by omega)] at t0
      go_enter Try.func52, Try.ntmps52
      go_wp2_with fail
      refine h1.mono ?_
      rintro e w' ⟨rfl, rfl⟩
      clear h1
      go_wp2_with fail
      refine t0.mono ?_
      rintro e w' ⟨rfl, q, rfl⟩
      clear t0
      go_wp2
      go_ret2
      exact ⟨_, _, _, _, _, rfl, Sl.nil _ _ _ _ _ (by omega), .inl ⟨hk, .inr ⟨hle, rfl, rfl⟩⟩, below_drewN (Below.refl _ _) q⟩
  · rw [if_neg hk] at h1
    go_enter Try.func52, Try.ntmps52
    go_wp2_with fail
    refine h1.mono ?_
    rintro e w' ⟨rfl, rfl⟩
    clear h1
    go_wp2
    go_ret2
    exact ⟨_, _, _, _, _, rfl, Sl.nil _ _ _ _ _ (by omega), .inr ⟨hk, rfl, rfl⟩, Below.refl _ _⟩

set_option maxHeartbeats 400000 in
theorem xgcd_c : Calls Try.prog 57 #[.slice A n c, .slice A' n' c'] w (NumV w (SLong (n ≤ 64 ∧ n' ≤ 64) (SNum (Nat.gcd (val 4294967296 l) (val 4294967296 l'))))) := by
  have h1 := check2_c A n c A' n' c' w h.n63 h'.n63
  by_cases hk : n ≤ 64 ∧ n' ≤ 64
  · rw [if_pos hk] at h1
    go_enter Try.func57, Try.ntmps57
    go_wp2_with fail
    refine h1.mono ?_
    rintro e w' ⟨rfl, rfl⟩
    clear h1
    go_wp2_with fail
    refine (common_c _ _ _ _ _ _ _ _ w _ h h' hB hd hd' 64 hk.1 hk.2 (by omega)).mono ?_
    rintro e w1 ⟨g, n1, c1, l1, rfl, o1, N1, hb⟩
    have hfit : Fits (Nat.gcd (val 4294967296 l) (val 4294967296 l')) := (h.fits hd hk.1).gcd (h'.fits hd' hk.2)
    have hl : n1 ≤ 64 := by rw [← o1.len]; exact N1.fits.2 hfit
    go_wp2_with fail
    have t2 := fit_c _ _ _ _ w1 _ o1.sl (Nat.le_refl _) N1.dig (by omega)
    rw [N1.val_] at t2
    refine t2.mono ?_
    intro e w2 h9
    obtain ⟨A2, n2, c2, l2, e2, rfl, s2, S2, hb2⟩ := h9.v
    go_wp2
    go_ret2
    rcases S2 with ⟨_, N2, rfl⟩ | ⟨hn, _⟩
    · exact ⟨_, _, _, _, _, rfl, s2, .inl ⟨hk, N2, rfl⟩, hb.trans (hb2.mono hb.size)⟩
    · exact absurd hfit hn
  · rw [if_neg hk] at h1
    go_enter Try.func57, Try.ntmps57
    go_wp2_with fail
    refine h1.mono ?_
    rintro e w' ⟨rfl, rfl⟩
    clear h1
    go_wp2
    go_ret2
    exact ⟨_, _, _, _, _, rfl, Sl.nil _ _ _ _ _ (by omega), .inr ⟨hk, rfl, rfl⟩, Below.refl _ _⟩

/-- Two numbers and an error in memory. -/
def PairV (w : World) (S : List Nat → List Nat → Int → Prop) (e : Ending) (w' : World) : Prop :=
  ∃ A n c l A' n' c' l' err, e = .returned (.tuple #[.slice A n c, .slice A' n' c', .int .i64 err]) ∧ Sl w' w'.heap.size .u32 A n c l ∧ Sl w' w'.heap.size .u32 A' n' c' l' ∧ S l l' err ∧ Below w.heap.size w w'
/-- What Divide returns. -/
def SDiv (ok : Prop) (X Y : Nat) (l l' : List Nat) (err : Int) : Prop :=
  (ok ∧ 0 < Y ∧ Num 4294967296 l (X / Y) ∧ Num 4294967296 l' (X % Y) ∧ err = 0) ∨ (ok ∧ Y = 0 ∧ l = [] ∧ l' = [] ∧ err = 7) ∨ (¬ ok ∧ l = [] ∧ l' = [] ∧ err = 4)
omit h h' hB hd hd' in
theorem SDiv.uniq {ok : Prop} {X Y : Nat} {l l' m m' : List Nat} {e f : Int} (h : SDiv ok X Y l l' e) (k : SDiv ok X Y m m' f) : l = m ∧ l' = m' ∧ e = f := by
  rcases h with ⟨h1, h2, h3, h4, h5⟩ | ⟨h1, h2, h3, h4, h5⟩ | ⟨h1, h3, h4, h5⟩ <;> rcases k with ⟨k1, k2, k3, k4, k5⟩ | ⟨k1, k2, k3, k4, k5⟩ | ⟨k1, k3, k4, k5⟩
  · exact ⟨h3.uniq k3 (by omega), h4.uniq k4 (by omega), by rw [h5, k5]⟩
  · omega
  · exact absurd h1 k1
  · omega
  · exact ⟨by rw [h3, k3], by rw [h4, k4], by rw [h5, k5]⟩
  · exact absurd h1 k1
  · exact absurd k1 h1
  · exact absurd k1 h1
  · exact ⟨by rw [h3, k3], by rw [h4, k4], by rw [h5, k5]⟩

set_option maxHeartbeats 400000 in
theorem xdivide_c : Calls Try.prog 55 #[.slice A n c, .slice A' n' c'] w (PairV w (SDiv (n ≤ 64 ∧ n' ≤ 64) (val 4294967296 l) (val 4294967296 l'))) := by
  have h1 := check2_c A n c A' n' c' w h.n63 h'.n63
  by_cases hk : n ≤ 64 ∧ n' ≤ 64
  · rw [if_pos hk] at h1
    have t1 := size_c A' n' c' l' w B h' hd' (by omega)
    by_cases hz : val 4294967296 l' = 0
    · rw [hz, bitsN_zero] at t1
      go_enter Try.func55, Try.ntmps55
      go_wp2_with fail
      refine h1.mono ?_
      rintro e w' ⟨rfl, rfl⟩
      clear h1
      go_wp2_with fail
      refine t1.mono ?_
      rintro e w' ⟨rfl, rfl⟩
      clear t1
      go_wp2
      go_ret3
      exact ⟨_, _, _, _, _, _, _, _, _, rfl, Sl.nil _ _ _ _ _ (by omega), Sl.nil _ _ _ _ _ (by omega), .inr (.inl ⟨hk, hz, rfl, rfl, rfl⟩), Below.refl _ _⟩
    · have hp := bitsN_pos (Nat.pos_of_ne_zero hz)
      obtain ⟨z, hzz⟩ : ∃ z, bitsN (val 4294967296 l') = z := ⟨_, rfl⟩
      rw [hzz] at t1 hp
      clear hzz
      have hz0 : ((z : Int) == 0) = false := beq_eq_false_iff_ne.2 (by omega)
      go_enter Try.func55, Try.ntmps55
      go_wp2_with fail
      refine h1.mono ?_
      rintro e w' ⟨rfl, rfl⟩
      clear h1
      go_wp2_with fail
      refine t1.mono ?_
      rintro e w' ⟨rfl, rfl⟩
      clear t1
      go_wp2_with fail
      refine (split_c _ _ _ _ _ _ _ _ w _ h h' hB hd hd' (by omega) (by omega) (Nat.pos_of_ne_zero hz)).mono ?_
      rintro e w1 ⟨g, n1, c1, l1, g2, n2, c2, l2, rfl, o1, N1, o2, N2, hb⟩
      go_wp2
      go_ret3
      exact ⟨_, _, _, _, _, _, _, _, _, rfl, o1.sl, o2.sl, .inl ⟨hk, Nat.pos_of_ne_zero hz, N1, N2, rfl⟩, hb⟩
  · rw [if_neg hk] at h1
    go_enter Try.func55, Try.ntmps55
    go_wp2_with fail
    refine h1.mono ?_
    rintro e w' ⟨rfl, rfl⟩
    clear h1
    go_wp2
    go_ret3
    exact ⟨_, _, _, _, _, _, _, _, _, rfl, Sl.nil _ _ _ _ _ (by omega), Sl.nil _ _ _ _ _ (by omega), .inr (.inr ⟨hk, rfl, rfl, rfl⟩), Below.refl _ _⟩

set_option maxHeartbeats 400000 in
theorem ladd_c (hn : n ≤ 64) (hn' : n' ≤ 64) (hf : Fits (val 4294967296 l + val 4294967296 l')) :
    Calls Try.prog 36 #[.slice A n c, .slice A' n' c'] w (NatV w (val 4294967296 l + val 4294967296 l')) := by
  go_enter Try.func36, Try.ntmps36
  go_wp2_with fail
  refine (xadd_c _ _ _ _ _ _ _ _ w _ h h' hB hd hd').mono ?_
  rintro e w1 ⟨A1, n1, c1, l1, e1, rfl, s1, S1, hb⟩
  rcases S1 with ⟨_, ⟨_, N1, rfl⟩ | ⟨hh, _⟩⟩ | ⟨hh, _⟩
  · go_wp2
    go_ret
    exact ⟨_, _, _, _, rfl, s1, N1, hb⟩
  · exact absurd hf hh
  · exact absurd ⟨hn, hn'⟩ hh

set_option maxHeartbeats 400000 in
theorem lmul_c (hn : n ≤ 64) (hn' : n' ≤ 64) (hf : Fits (val 4294967296 l * val 4294967296 l')) :
    Calls Try.prog 51 #[.slice A n c, .slice A' n' c'] w (NatV w (val 4294967296 l * val 4294967296 l')) := by
  go_enter Try.func51, Try.ntmps51
  go_wp2_with fail
  refine (xmul_c _ _ _ _ _ _ _ _ w _ h h' hB hd hd').mono ?_
  rintro e w1 ⟨A1, n1, c1, l1, e1, rfl, s1, S1, hb⟩
  rcases S1 with ⟨_, ⟨_, N1, rfl⟩ | ⟨hh, _⟩⟩ | ⟨hh, _⟩
  · go_wp2
    go_ret
    exact ⟨_, _, _, _, rfl, s1, N1, hb⟩
  · exact absurd hf hh
  · exact absurd ⟨hn, hn'⟩ hh
end
end Go.Proofs.Ytgilhkdmgbeieaa
