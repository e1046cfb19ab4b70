/- Contracts of exact's valid, Reduce, FracText. The contract of exact's FracText. Contracts of exact's Norm, Compare, Add, Sub, Mul, Divide, Gcd, Bits, Text. Contracts of exact's cross, FracCompare. Contracts of Ball, exact's and the reference's. The small example of layer 1: 'works' returns true. The walk of the law ExactPascal. -/
import Derived.Test.YtchhkokpjdkkiaaTopDisclosesa12
import Derived.Deep.RegionHeld3
import Derived.OwnWalk
namespace Go.Proofs.Ytchhkokpjdkkiaa.Ex
open Go.RowKit

/-- A fraction as an argument: its two slices and what they hold. -/
structure FA where
  A : Option Addr
  n : Nat
  c : Nat
  l : List Nat
  A' : Option Addr
  n' : Nat
  c' : Nat
  l' : List Nat
/-- It reads so, below block B. -/
structure FA.Rd (f : FA) (w : World) (B : Nat) : Prop where
  num : Sl w B .u32 f.A f.n f.c f.l
  den : Sl w B .u32 f.A' f.n' f.c' f.l'
  dn : Digs 4294967296 f.l
  dd : Digs 4294967296 f.l'
theorem FA.Rd.below {f : FA} {w w' : World} {B : Nat} (h : f.Rd w B) (hb : Below B w w') : f.Rd w' B := ⟨h.num.below hb, h.den.below hb, h.dn, h.dd⟩
theorem FA.Rd.mono {f : FA} {w : World} {B B' : Nat} (h : f.Rd w B) (hb : B ≤ B') : f.Rd w B' := ⟨h.num.mono hb, h.den.mono hb, h.dn, h.dd⟩
def FA.long (f : FA) : Bool := !(decide (f.n ≤ 64) && decide (f.n' ≤ 64))
def FA.zero (f : FA) : Bool := decide (val 4294967296 f.l' = 0)
def FA.num (f : FA) : Value := .slice f.A f.n f.c
def FA.den (f : FA) : Value := .slice f.A' f.n' f.c'
def errV (fs : List FA) : Int := if fs.any FA.long then 4 else if fs.any FA.zero then 7 else 0

theorem any_take_succ {p : FA → Bool} {fs : List FA} {i : Nat} (h : i < fs.length) (h0 : (fs.take i).any p = false) (h1 : p fs[i] = false) : (fs.take (i + 1)).any p = false := by
  rw [List.take_add_one, List.getElem?_eq_getElem h]
  rw [List.any_append, h0]
  simp [h1]
theorem any_of_getElem {p : FA → Bool} {fs : List FA} {i : Nat} (h : i < fs.length) (h1 : p fs[i] = true) : fs.any p = true :=
  List.any_eq_true.2 ⟨_, List.getElem_mem h, h1⟩

set_option maxHeartbeats 800000 in
theorem valid_c (g c : Nat) (fs : List FA) (w : World) (B : Nat) (hcell : ∀ i (h : i < fs.length), w.cell? ⟨g, i * 2, none⟩ = some fs[i].num ∧ w.cell? ⟨g, i * 2 + 1, none⟩ = some fs[i].den)
    (hg : g < w.heap.size) (hfs : ∀ f ∈ fs, f.Rd w B) (hB : B ≤ w.heap.size) (hlen : fs.length ≤ 1000) :
    Calls Try.prog 116 #[.slice (some ⟨g, 0, none⟩) fs.length c] w fun e w' => e = .returned (.int .i64 (errV fs)) ∧ Below w.heap.size w w' := by
  have hfs' : ∀ f ∈ fs, f.n ≤ 9223372036854775807 ∧ f.n' ≤ 9223372036854775807 := fun f hf => by
    have h := hfs f hf
    have := h.num.cap
    have := h.num.max
    have := h.den.cap
    have := h.den.max
    omega
  go_enter Try.func116, Try.ntmps116
  go_wp2
  go_loopw [10] (fun v wr => ∃ i : Nat, i ≤ fs.length ∧ v = .int .i64 i ∧ (fs.take i).any FA.long = false ∧ Below w.heap.size w wr) (fun v _ => fs.length - (intOf v).toNat)
  case atStart => exact ⟨0, by omega, rfl, rfl, Below.refl _ _⟩
  case round =>
    obtain ⟨i, hi, rfl, hany, hb⟩ := hrel
    have HANY := hide hany
    clear hany
    by_cases hlt : i < fs.length
    · obtain ⟨f, hf⟩ : ∃ f, fs[i] = f := ⟨_, rfl⟩
      obtain ⟨hc1, hc2⟩ := hcell i hlt
      rw [hf] at hc1 hc2
      have hff := hfs f (hf ▸ List.getElem_mem hlt)
      have hfn := hfs' f (hf ▸ List.getElem_mem hlt)
      have HF := hide hf
      have hk1 : wr.cell? ⟨g, i * 2, none⟩ = some (.slice f.A f.n f.c) := (hb.cell hg).trans hc1
      have hk2 : wr.cell? ⟨g, i * 2 + 1, none⟩ = some (.slice f.A' f.n' f.c') := (hb.cell hg).trans hc2
      clear hf hc1 hc2
      have t1 := check2_c f.A f.n f.c f.A' f.n' f.c' (wr.alloc (.cells #[.slice f.A f.n f.c, .slice f.A' f.n' f.c'] 131)) hfn.1 hfn.2
      by_cases hlg : f.n ≤ 64 ∧ f.n' ≤ 64
      · rw [if_pos hlg] at t1
        go_wp2_with fail
        refine t1.mono ?_
        rintro e w' ⟨rfl, rfl⟩
        clear t1
        go_wp2
        go_roundw
        case rel => exact ⟨i + 1, by omega, by go_num, any_take_succ hlt HANY.out (by rw [HF.out]; simp [FA.long, hlg.1, hlg.2]), hb.alloc hb.size _⟩
        case measure => simp [intOf] <;> omega
      · rw [if_neg hlg] at t1
        go_wp2_with fail
        refine t1.mono ?_
        rintro e w' ⟨rfl, rfl⟩
        clear t1
        go_wp2
        go_ret
        have hl : fs.any FA.long = true := any_of_getElem hlt (by rw [HF.out]; simp [FA.long]; omega)
        exact ⟨by unfold errV; rw [if_pos hl]; rfl, hb.alloc hb.size _⟩
    · obtain rfl : i = fs.length := by omega
      have hl : fs.any FA.long = false := by have := HANY.out; rwa [List.take_length] at this
      have HL := hide hl
      have hlong : ∀ f ∈ fs, f.n ≤ 64 ∧ f.n' ≤ 64 := fun f hf => by
        have := List.any_eq_false.1 hl f hf
        simpa [FA.long] using this
      obtain ⟨wo, rfl⟩ : ∃ wo : World, wo = wr := ⟨_, rfl⟩
      clear hl HANY
      go_wp2
      go_loopw [25] (fun v wr => ∃ i : Nat, i ≤ fs.length ∧ v = .int .i64 i ∧ (fs.take i).any FA.zero = false ∧ Below w.heap.size w wr) (fun v _ => fs.length - (intOf v).toNat)
      case atStart => exact ⟨0, by omega, rfl, rfl, hb⟩
      case round =>
        clear hb
        obtain ⟨i, hi, rfl, hany, hb⟩ := hrel
        have HANY := hide hany
        clear hany
        by_cases hlt : i < fs.length
        · obtain ⟨f, hf⟩ : ∃ f, fs[i] = f := ⟨_, rfl⟩
          obtain ⟨hc1, hc2⟩ := hcell i hlt
          rw [hf] at hc1 hc2
          have hff := hfs f (hf ▸ List.getElem_mem hlt)
          have hfn := hlong f (hf ▸ List.getElem_mem hlt)
          have HF := hide hf
          have hk1 : wr.cell? ⟨g, i * 2, none⟩ = some (.slice f.A f.n f.c) := (hb.cell hg).trans hc1
          have hk2 : wr.cell? ⟨g, i * 2 + 1, none⟩ = some (.slice f.A' f.n' f.c') := (hb.cell hg).trans hc2
          clear hf hc1 hc2
          have t1 := size_c f.A' f.n' f.c' f.l' (wr.alloc (.cells #[.slice f.A f.n f.c, .slice f.A' f.n' f.c'] 131)) B (hff.den.below ((hb.mono hB).alloc (by have := hb.size; omega) _)) hff.dd (by omega)
          by_cases hz : val 4294967296 f.l' = 0
          · rw [hz, bitsN_zero] at t1
            go_wp2_with fail
            refine t1.mono ?_
            rintro e w' ⟨rfl, rfl⟩
            clear t1
            go_wp2
            go_ret
            have hl : fs.any FA.zero = true := any_of_getElem hlt (by rw [HF.out]; simp [FA.zero, hz])
            exact ⟨by unfold errV; rw [HL.out, hl]; rfl, hb.alloc hb.size _⟩
          · have hp := bitsN_pos (Nat.pos_of_ne_zero hz)
            obtain ⟨z, hzz⟩ : ∃ z, bitsN (val 4294967296 f.l') = z := ⟨_, rfl⟩
            rw [hzz] at t1 hp
            clear hzz
            have hz0 : ((z : Int) == 0) = false := beq_eq_false_iff_ne.2 (by omega)
            go_wp2_with fail
            refine t1.mono ?_
            rintro e w' ⟨rfl, rfl⟩
            clear t1
            go_wp2
            go_roundw
            case rel => exact ⟨i + 1, by omega, by go_num, any_take_succ hlt HANY.out (by rw [HF.out]; simp [FA.zero, hz]), hb.alloc hb.size _⟩
            case measure => simp [intOf] <;> omega
        · obtain rfl : i = fs.length := by omega
          have hl : fs.any FA.zero = false := by have := HANY.out; rwa [List.take_length] at this
          have HL2 := hide hl
          clear hl
          go_wp2
          go_ret
          exact ⟨by unfold errV; rw [HL.out, HL2.out]; rfl, hb⟩
/-- What Reduce returns. -/
def SReduce (f : FA) (l l' : List Nat) (err : Int) : Prop :=
  (errV [f] = 0 ∧ SRed (val 4294967296 f.l) (val 4294967296 f.l') l l' err) ∨ (errV [f] ≠ 0 ∧ l = [] ∧ l' = [] ∧ err = errV [f])
theorem SReduce.uniq {f : FA} {l l' m m' : List Nat} {e e' : Int} (h : SReduce f l l' e) (k : SReduce f m m' e') : l = m ∧ l' = m' ∧ e = e' := by
  rcases h with ⟨h1, h3⟩ | ⟨h1, h3, h4, h5⟩ <;> rcases k with ⟨k1, k3⟩ | ⟨k1, k3, k4, k5⟩
  · exact h3.uniq k3
  · exact absurd h1 k1
  · exact absurd k1 h1
  · exact ⟨by rw [h3, k3], by rw [h4, k4], by rw [h5, k5]⟩
theorem errV_one {f : FA} (h : errV [f] = 0) : f.n ≤ 64 ∧ f.n' ≤ 64 ∧ 0 < val 4294967296 f.l' := by
  unfold errV at h
  split at h
  · simp at h
  · split at h
    · simp at h
    · rename_i h1 h2
      simp [FA.long, FA.zero] at h1 h2
      omega

end Go.Proofs.Ytchhkokpjdkkiaa.Ex

namespace Go.Proofs.Ytchhkokpjdkkiaa.Ex
open Go.RowKit

/-- What FracText returns. -/
def SText (f : FA) (s : ByteArray) (err : Int) : Prop :=
  ∃ l l' , SReduce f l l' err ∧ s = if err = 0 then strN (textN (val 4294967296 l) ++ 47 :: textN (val 4294967296 l')) else strN []

theorem textN_len {V n : Nat} (h : V < 4294967296 ^ n) : (textN V).length ≤ 32 * n + 1 := by
  unfold textN
  split
  · simp
  · rw [List.length_map, List.length_reverse]
    have h4 : (4294967296 : Nat) ^ n = 2 ^ (32 * n) := by rw [Nat.pow_mul]
    have h2 : 2 ^ (32 * n) ≤ 10 ^ (32 * n) := Nat.pow_le_pow_left (by omega) _
    have := ((decD_num V).length_le (by omega) (32 * n)).2 (by omega)
    omega
theorem strN_size (l : List Nat) : (strN l).size = l.length := by simp [strN, ByteArray.size]
theorem strN_append (l m : List Nat) : strN (l ++ m) = strN l ++ strN m := by
  apply ByteArray.ext
  simp [strN]
theorem size47 : (⟨#[47]⟩ : ByteArray).size = 1 := rfl
theorem strN47 : strN [47] = ⟨#[47]⟩ := rfl

end Go.Proofs.Ytchhkokpjdkkiaa.Ex

namespace Go.Proofs.Ytchhkokpjdkkiaa.Ex
open Go.RowKit

/-- Not too long, else the error 4. -/
def SLong (ok : Prop) (T : List Nat → Int → Prop) (l : List Nat) (err : Int) : Prop := (ok ∧ T l err) ∨ (¬ ok ∧ l = [] ∧ err = 4)
def SFit (N : Nat) (l : List Nat) (err : Int) : Prop := (Fits N ∧ Num 4294967296 l N ∧ err = 0) ∨ (¬ Fits N ∧ l = [] ∧ err = 8)
def SNum (N : Nat) (l : List Nat) (err : Int) : Prop := Num 4294967296 l N ∧ err = 0
def SSub (X Y : Nat) (l : List Nat) (err : Int) : Prop := (Y ≤ X ∧ Num 4294967296 l (X - Y) ∧ err = 0) ∨ (¬ Y ≤ X ∧ l = [] ∧ err = 3)
def Uniq (T : List Nat → Int → Prop) : Prop := ∀ {l m : List Nat} {e f : Int}, T l e → T m f → l = m ∧ e = f
theorem SFit.uniq (N : Nat) : Uniq (SFit N) := fun h k => by
  rcases h with ⟨h1, h2, h3⟩ | ⟨h1, h2, h3⟩ <;> rcases k with ⟨k1, k2, k3⟩ | ⟨k1, k2, k3⟩
  · exact ⟨h2.uniq k2 (by omega), by rw [h3, k3]⟩
  · exact absurd h1 k1
  · exact absurd k1 h1
  · exact ⟨by rw [h2, k2], by rw [h3, k3]⟩
theorem SSub.uniq (X Y : Nat) : Uniq (SSub X Y) := fun h k => by
  rcases h with ⟨h1, h2, h3⟩ | ⟨h1, h2, h3⟩ <;> rcases k with ⟨k1, k2, k3⟩ | ⟨k1, k2, k3⟩
  · exact ⟨h2.uniq k2 (by omega), by rw [h3, k3]⟩
  · exact absurd h1 k1
  · exact absurd k1 h1
  · exact ⟨by rw [h2, k2], by rw [h3, k3]⟩
theorem SNum.uniq (N : Nat) : Uniq (SNum N) := fun h k => ⟨h.1.uniq k.1 (by omega), by rw [h.2, k.2]⟩
theorem SLong.uniq {ok : Prop} {T : List Nat → Int → Prop} (u : Uniq T) : Uniq (SLong ok T) := fun h k => by
  rcases h with ⟨h1, h2⟩ | ⟨h1, h2, h3⟩ <;> rcases k with ⟨k1, k2⟩ | ⟨k1, k2, k3⟩
  · exact u h2 k2
  · exact absurd h1 k1
  · exact absurd k1 h1
  · exact ⟨by rw [h2, k2], by rw [h3, k3]⟩
theorem FitR.v {w w' : World} {N : Nat} {e : Ending} (h : FitR w N e w') : NumV w (SFit N) e w' := by
  obtain ⟨hb, ⟨h1, g, n, c, l, he, ho, hn⟩ | ⟨h1, he⟩⟩ := h
  · exact ⟨_, _, _, _, _, he, ho.sl, .inl ⟨h1, hn, rfl⟩, hb⟩
  · exact ⟨_, _, _, _, _, he, Sl.nil _ _ _ _ _ (by omega), .inr ⟨h1, rfl, rfl⟩, hb⟩
theorem Sl.n63 {w : World} {B : Nat} {A : Option Addr} {n c : Nat} {l : List Nat} (h : Sl w B .u32 A n c l) : n ≤ 9223372036854775807 := by
  have := h.cap
  have := h.max
  omega
theorem Sl.fits {w : World} {B : Nat} {A : Option Addr} {n c : Nat} {l : List Nat} (h : Sl w B .u32 A n c l) (hd : Digs 4294967296 l) (hn : n ≤ 64) : Fits (val 4294967296 l) := by
  have h1 := val_lt hd
  rw [h.len] at h1
  exact Nat.lt_of_lt_of_le h1 (Nat.pow_le_pow_right (by omega) hn)
theorem Fits.le {N M : Nat} (h : Fits N) (hm : M ≤ N) : Fits M := Nat.lt_of_le_of_lt hm h
theorem Fits.gcd {X Y : Nat} (h : Fits X) (k : Fits Y) : Fits (Nat.gcd X Y) := by
  rcases Nat.eq_zero_or_pos X with rfl | hx
  · rw [Nat.gcd_zero_left]; exact k
  · exact h.le (Nat.gcd_le_left _ hx)

section
variable (A : Option Addr) (n c : Nat) (l : List Nat) (A' : Option Addr) (n' c' : Nat) (l' : List Nat) (w : World) (B : Nat)

set_option maxHeartbeats 400000 in
theorem xbits_c (h : Sl w B .u32 A n c l) (hd : Digs 4294967296 l) :
    Calls Try.prog 93 #[.slice A n c] w fun e w' => e = .returned (.tuple #[.int .i64 (if n ≤ 64 then bitsN (val 4294967296 l) else 0 : Nat), .int .i64 (if n ≤ 64 then 0 else 4)]) ∧ w = w' := by
  have h1 := check1_c A n c w h.n63
  by_cases hk : n ≤ 64
  · rw [if_pos hk] at h1 ⊢
    rw [if_pos hk]
    go_enter Try.func93, Try.ntmps93
    go_wp2_with fail
    refine h1.mono ?_
    rintro e w' ⟨rfl, rfl⟩
    clear h1
    go_wp2_with fail
    refine (size_c _ _ _ _ w _ h hd (by omega)).mono ?_
    rintro e w1 ⟨rfl, rfl⟩
    go_wp2
    go_ret2
    exact ⟨rfl, rfl⟩
  · rw [if_neg hk] at h1 ⊢
    rw [if_neg hk]
    go_enter Try.func93, Try.ntmps93
    go_wp2_with fail
    refine h1.mono ?_
    rintro e w' ⟨rfl, rfl⟩
    clear h1
    go_wp2
    go_ret2
    exact ⟨rfl, rfl⟩

variable (h : Sl w B .u32 A n c l) (h' : Sl w B .u32 A' n' c' l') (hB : B ≤ w.heap.size) (hd : Digs 4294967296 l) (hd' : Digs 4294967296 l')
include h h' hd hd'

include hB
/-- Two numbers and an error in memory. -/
def PairV (w : World) (S : List Nat → List Nat → Int → Prop) (e : Ending) (w' : World) : Prop :=
  ∃ A n c l A' n' c' l' err, e = .returned (.tuple #[.slice A n c, .slice A' n' c', .int .i64 err]) ∧ Sl w' w'.heap.size .u32 A n c l ∧ Sl w' w'.heap.size .u32 A' n' c' l' ∧ S l l' err ∧ Below w.heap.size w w'
/-- What Divide returns. -/
def SDiv (ok : Prop) (X Y : Nat) (l l' : List Nat) (err : Int) : Prop :=
  (ok ∧ 0 < Y ∧ Num 4294967296 l (X / Y) ∧ Num 4294967296 l' (X % Y) ∧ err = 0) ∨ (ok ∧ Y = 0 ∧ l = [] ∧ l' = [] ∧ err = 7) ∨ (¬ ok ∧ l = [] ∧ l' = [] ∧ err = 4)
omit h h' hB hd hd' in
theorem SDiv.uniq {ok : Prop} {X Y : Nat} {l l' m m' : List Nat} {e f : Int} (h : SDiv ok X Y l l' e) (k : SDiv ok X Y m m' f) : l = m ∧ l' = m' ∧ e = f := by
  rcases h with ⟨h1, h2, h3, h4, h5⟩ | ⟨h1, h2, h3, h4, h5⟩ | ⟨h1, h3, h4, h5⟩ <;> rcases k with ⟨k1, k2, k3, k4, k5⟩ | ⟨k1, k2, k3, k4, k5⟩ | ⟨k1, k3, k4, k5⟩
  · exact ⟨h3.uniq k3 (by omega), h4.uniq k4 (by omega), by rw [h5, k5]⟩
  · omega
  · exact absurd h1 k1
  · omega
  · exact ⟨by rw [h3, k3], by rw [h4, k4], by rw [h5, k5]⟩
  · exact absurd h1 k1
  · exact absurd k1 h1
  · exact absurd k1 h1
  · exact ⟨by rw [h3, k3], by rw [h4, k4], by rw [h5, k5]⟩

end
end Go.Proofs.Ytchhkokpjdkkiaa.Ex

namespace Go.Proofs.Ytchhkokpjdkkiaa.Ex
open Go.RowKit

/-- Two numbers in memory. -/
def TwoV (w : World) (N M : Nat) (e : Ending) (w' : World) : Prop :=
  ∃ A n c l A' n' c' l', e = .returned (.tuple #[.slice A n c, .slice A' n' c']) ∧ Sl w' w'.heap.size .u32 A n c l ∧ Sl w' w'.heap.size .u32 A' n' c' l' ∧ Num 4294967296 l N ∧ Num 4294967296 l' M ∧ Below w.heap.size w w'

theorem prod_len {l : List Nat} {x y n : Nat} (h : Num 4294967296 l (x * y)) (hx : Fits x) (hy : Fits y) (hl : l.length = n) : n ≤ 128 := by
  rw [← hl]
  refine (h.length_le (by omega) 128).2 ?_
  have e3 := Nat.mul_lt_mul'' hx hy
  rwa [← Nat.pow_add] at e3

set_option maxRecDepth 100000 in
set_option maxHeartbeats 3200000 in
theorem cross_c (f g : FA) (w : World) (B : Nat) (hf : f.Rd w B) (hg : g.Rd w B) (hB : B ≤ w.heap.size) (h1 : f.n ≤ 64) (h2 : f.n' ≤ 64) (h3 : g.n ≤ 64) (h4 : g.n' ≤ 64) :
    Calls Try.prog 120 #[.agg #[.slice f.A f.n f.c, .slice f.A' f.n' f.c'], .agg #[.slice g.A g.n g.c, .slice g.A' g.n' g.c']] w
      (TwoV w (val 4294967296 f.l * val 4294967296 g.l') (val 4294967296 g.l * val 4294967296 f.l')) := by
  have hF := (Blk.new w 131 #[.slice f.A f.n f.c, .slice f.A' f.n' f.c']).alloc (.cells #[.slice g.A g.n g.c, .slice g.A' g.n' g.c'] 131)
  have hG := (Blk.new (w.alloc (.cells #[.slice f.A f.n f.c, .slice f.A' f.n' f.c'] 131)) 131 #[.slice g.A g.n g.c, .slice g.A' g.n' g.c'])
  have hb := ((Below.refl w.heap.size w).alloc (Nat.le_refl _) (.cells #[.slice f.A f.n f.c, .slice f.A' f.n' f.c'] 131)).alloc (by simp) (.cells #[.slice g.A g.n g.c, .slice g.A' g.n' g.c'] 131)
  have hs1 : ((w.alloc (.cells #[.slice f.A f.n f.c, .slice f.A' f.n' f.c'] 131)).alloc (.cells #[.slice g.A g.n g.c, .slice g.A' g.n' g.c'] 131)).heap.size = w.heap.size + 2 := by simp
  go_enter Try.func120, Try.ntmps120
  go_wp2
  generalize ((w.alloc (.cells #[.slice f.A f.n f.c, .slice f.A' f.n' f.c'] 131)).alloc (.cells #[.slice g.A g.n g.c, .slice g.A' g.n' g.c'] 131)) = w1 at *
  simp only [World.size_alloc] at hG
  have hf1 := (hf.below (hb.mono hB)).mono (show B ≤ w1.heap.size by omega)
  have hg1 := (hg.below (hb.mono hB)).mono (show B ≤ w1.heap.size by omega)
  have hc0 := hF.cell 0
  have hc1 := hF.cell 1
  have hd0 := hG.cell 0
  have hd1 := hG.cell 1
  simp at hc0 hc1 hd0 hd1
  have key1 : ∀ wx, Below w1.heap.size w1 wx → Calls Try.prog 114 #[.slice f.A f.n f.c, .slice g.A' g.n' g.c'] wx (NatV wx (val 4294967296 f.l * val 4294967296 g.l')) := fun wx hbx =>
    (times_c _ _ _ _ _ _ _ _ wx _ (hf1.below hbx).num (hg1.below hbx).den hbx.size hf1.dn hg1.dd (by omega) (by omega)).mono fun _ _ h => h.v
  have key2 : ∀ wx, Below w1.heap.size w1 wx → Calls Try.prog 114 #[.slice g.A g.n g.c, .slice f.A' f.n' f.c'] wx (NatV wx (val 4294967296 g.l * val 4294967296 f.l')) := fun wx hbx =>
    (times_c _ _ _ _ _ _ _ _ wx _ (hg1.below hbx).num (hf1.below hbx).den hbx.size hg1.dn hf1.dd (by omega) (by omega)).mono fun _ _ h => h.v
  have K1 := hide key1
  have K2 := hide key2
  clear key1 key2 hf1 hg1 hf hg hF hG
  have keep : ∀ wx wy : World, (wx.cell? ⟨w.heap.size, 0, none⟩ = some (.slice f.A f.n f.c) ∧ wx.cell? ⟨w.heap.size, 1, none⟩ = some (.slice f.A' f.n' f.c') ∧ wx.cell? ⟨w.heap.size + 1, 0, none⟩ = some (.slice g.A g.n g.c) ∧ wx.cell? ⟨w.heap.size + 1, 1, none⟩ = some (.slice g.A' g.n' g.c') ∧ Below w1.heap.size w1 wx) → Below wx.heap.size wx wy →
      wy.cell? ⟨w.heap.size, 0, none⟩ = some (.slice f.A f.n f.c) ∧ wy.cell? ⟨w.heap.size, 1, none⟩ = some (.slice f.A' f.n' f.c') ∧ wy.cell? ⟨w.heap.size + 1, 0, none⟩ = some (.slice g.A g.n g.c) ∧ wy.cell? ⟨w.heap.size + 1, 1, none⟩ = some (.slice g.A' g.n' g.c') ∧ Below w1.heap.size w1 wy := fun wx wy ⟨h1, h2, h3, h4, h5⟩ h6 => by
    have := h5.size
    exact ⟨(h6.cell (p := ⟨w.heap.size, 0, none⟩) (by show w.heap.size < _; omega)).trans h1, (h6.cell (p := ⟨w.heap.size, 1, none⟩) (by show w.heap.size < _; omega)).trans h2,
      (h6.cell (p := ⟨w.heap.size + 1, 0, none⟩) (by show w.heap.size + 1 < _; omega)).trans h3, (h6.cell (p := ⟨w.heap.size + 1, 1, none⟩) (by show w.heap.size + 1 < _; omega)).trans h4, h5.trans (h6.mono this)⟩
  have KP := hide keep
  clear keep
  have hb11 := Below.refl w1.heap.size w1
  go_region_held3 (fun wx => wx.cell? ⟨w.heap.size, 0, none⟩ = some (.slice f.A f.n f.c) ∧ wx.cell? ⟨w.heap.size, 1, none⟩ = some (.slice f.A' f.n' f.c') ∧ wx.cell? ⟨w.heap.size + 1, 0, none⟩ = some (.slice g.A g.n g.c) ∧ wx.cell? ⟨w.heap.size + 1, 1, none⟩ = some (.slice g.A' g.n' g.c') ∧ Below w1.heap.size w1 wx)
    (first | exact ⟨hc0, hc1, hd0, hd1, hb11.drew⟩ | exact KP.out _ _ (by assumption) hbz1 | exact KP.out _ _ (by assumption) hbz2 | exact KP.out _ _ ⟨by assumption, by assumption, by assumption, by assumption, by assumption⟩ hbz1 | exact KP.out _ _ ⟨by assumption, by assumption, by assumption, by assumption, by assumption⟩ hbz2)
    (first
      | (go_at_call_of 114 (Value.slice f.A f.n f.c); refine (K1.out _ ?_).mono ?_; (first | assumption | exact And.right (And.right (And.right (And.right (by assumption))))); rintro e wz ⟨A1, n1, c1, l1, rfl, s1, N1, hbz1⟩)
      | (go_at_call_of 114 (Value.slice g.A g.n g.c); refine (K2.out _ ?_).mono ?_; (first | assumption | exact And.right (And.right (And.right (And.right (by assumption))))); rintro e wz ⟨A2, n2, c2, l2, rfl, s2, N2, hbz2⟩))
  all_goals
    go_wp2
    go_ret2
    have hq : wz.cell? ⟨w.heap.size, 0, none⟩ = some (.slice f.A f.n f.c) ∧ wz.cell? ⟨w.heap.size, 1, none⟩ = some (.slice f.A' f.n' f.c') ∧ wz.cell? ⟨w.heap.size + 1, 0, none⟩ = some (.slice g.A g.n g.c) ∧ wz.cell? ⟨w.heap.size + 1, 1, none⟩ = some (.slice g.A' g.n' g.c') ∧ Below w1.heap.size w1 wz := by assumption
    have hs9 := hb.size
    exact ⟨_, _, _, l1, _, _, _, l2, rfl, by first | exact s1 | exact (s1.below hbz2).mono hbz2.size, by first | exact s2 | exact (s2.below hbz1).mono hbz1.size, N1, N2, hb.trans (hq.2.2.2.2.mono hs9)⟩

theorem errV_two {f g : FA} (h : errV [f, g] = 0) : f.n ≤ 64 ∧ f.n' ≤ 64 ∧ 0 < val 4294967296 f.l' ∧ g.n ≤ 64 ∧ g.n' ≤ 64 ∧ 0 < val 4294967296 g.l' := by
  unfold errV at h
  split at h
  · simp at h
  · split at h
    · simp at h
    · rename_i h1 h2
      simp [FA.long, FA.zero] at h1 h2
      omega

def fcmpV (f g : FA) : Int := if errV [f, g] = 0 then ordI (val 4294967296 f.l * val 4294967296 g.l') (val 4294967296 g.l * val 4294967296 f.l') else 0

set_option maxRecDepth 100000 in
set_option maxHeartbeats 3200000 in
/-- 'FracCompare'. -/
theorem xfcompare_c (f g : FA) (w : World) (B : Nat) (hf : f.Rd w B) (hg : g.Rd w B) (hB : B ≤ w.heap.size) :
    Calls Try.prog 87 #[.agg #[.slice f.A f.n f.c, .slice f.A' f.n' f.c'], .agg #[.slice g.A g.n g.c, .slice g.A' g.n' g.c']] w
      fun e w' => e = .returned (.tuple #[.int .i64 (fcmpV f g), .int .i64 (errV [f, g])]) ∧ Below w.heap.size w w' := by
  have hF := ((Blk.new w 131 #[.slice f.A f.n f.c, .slice f.A' f.n' f.c']).alloc (.cells #[.slice g.A g.n g.c, .slice g.A' g.n' g.c'] 131)).alloc (.cells #[.slice f.A f.n f.c, .slice f.A' f.n' f.c', .slice g.A g.n g.c, .slice g.A' g.n' g.c'] 131)
  have hG := (Blk.new (w.alloc (.cells #[.slice f.A f.n f.c, .slice f.A' f.n' f.c'] 131)) 131 #[.slice g.A g.n g.c, .slice g.A' g.n' g.c']).alloc (.cells #[.slice f.A f.n f.c, .slice f.A' f.n' f.c', .slice g.A g.n g.c, .slice g.A' g.n' g.c'] 131)
  have hL := (Blk.new ((w.alloc (.cells #[.slice f.A f.n f.c, .slice f.A' f.n' f.c'] 131)).alloc (.cells #[.slice g.A g.n g.c, .slice g.A' g.n' g.c'] 131)) 131 #[.slice f.A f.n f.c, .slice f.A' f.n' f.c', .slice g.A g.n g.c, .slice g.A' g.n' g.c'])
  have hb := (((Below.refl w.heap.size w).alloc (Nat.le_refl _) (.cells #[.slice f.A f.n f.c, .slice f.A' f.n' f.c'] 131)).alloc (by simp) (.cells #[.slice g.A g.n g.c, .slice g.A' g.n' g.c'] 131)).alloc (by simp; omega) (.cells #[.slice f.A f.n f.c, .slice f.A' f.n' f.c', .slice g.A g.n g.c, .slice g.A' g.n' g.c'] 131)
  have hs1 : (((w.alloc (.cells #[.slice f.A f.n f.c, .slice f.A' f.n' f.c'] 131)).alloc (.cells #[.slice g.A g.n g.c, .slice g.A' g.n' g.c'] 131)).alloc (.cells #[.slice f.A f.n f.c, .slice f.A' f.n' f.c', .slice g.A g.n g.c, .slice g.A' g.n' g.c'] 131)).heap.size = w.heap.size + 3 := by simp
  go_enter Try.func87, Try.ntmps87
  go_wp2_with fail
  generalize (((w.alloc (.cells #[.slice f.A f.n f.c, .slice f.A' f.n' f.c'] 131)).alloc (.cells #[.slice g.A g.n g.c, .slice g.A' g.n' g.c'] 131)).alloc (.cells #[.slice f.A f.n f.c, .slice f.A' f.n' f.c', .slice g.A g.n g.c, .slice g.A' g.n' g.c'] 131)) = w1 at *
  simp only [World.size_alloc] at hG hL
  have hf1 := (hf.below (hb.mono hB)).mono (show B ≤ w1.heap.size by omega)
  have hg1 := (hg.below (hb.mono hB)).mono (show B ≤ w1.heap.size by omega)
  have t1 := valid_c (w.heap.size + 1 + 1) 2 [f, g] w1 w1.heap.size (fun i h => by
      have h2 : i = 0 ∨ i = 1 := by simp at h; omega
      rcases h2 with rfl | rfl
      · exact ⟨by rw [hL.cell]; rfl, by rw [hL.cell]; rfl⟩
      · exact ⟨by rw [hL.cell]; rfl, by rw [hL.cell]; rfl⟩) (by omega) (fun f' h => by
      have h2 : f' = f ∨ f' = g := by simpa using h
      rcases h2 with rfl | rfl
      · exact hf1
      · exact hg1) (Nat.le_refl _) (by simp)
  refine t1.mono ?_
  rintro e w2 ⟨rfl, hb2⟩
  clear t1 hL
  have hF2 := hF.keep hb2
  have hG2 := hG.keep hb2
  have hf2 := (hf1.below hb2).mono hb2.size
  have hg2 := (hg1.below hb2).mono hb2.size
  have hbw2 := hb.trans (hb2.mono (by omega))
  have hs2 := hb2.size
  clear hF hG hf1 hg1 hb hb2
  obtain ⟨er, her⟩ : ∃ er, errV [f, g] = er := ⟨_, rfl⟩
  have HE := hide her
  rw [her]
  clear her
  have hc0 := hF2.cell 0
  have hc1 := hF2.cell 1
  have hd0 := hG2.cell 0
  have hd1 := hG2.cell 1
  simp at hc0 hc1 hd0 hd1
  by_cases h0 : er = 0
  · subst h0
    obtain ⟨p1, p2, p3, p4, p5, p6⟩ := errV_two HE.out
    go_wp2_with fail
    refine (cross_c f g w2 _ hf2 hg2 (Nat.le_refl _) p1 p2 p4 p5).mono ?_
    rintro e w3 ⟨A1, n1, c1, l1, A2, n2, c2, l2, rfl, s1, s2, N1, N2, hb3⟩
    have t2 := order_c _ _ _ _ _ _ _ _ w3 _ s1 s2 N1.dig N2.dig
    rw [N1.val_, N2.val_] at t2
    go_wp2_with fail
    refine t2.mono ?_
    rintro e w4 ⟨rfl, q, rfl⟩
    go_wp2
    go_ret2
    exact ⟨by unfold fcmpV; rw [HE.out, if_pos rfl]; rfl, below_drewN (hbw2.trans (hb3.mono hbw2.size)) q⟩
  · have h0' : (er != 0) = true := by rw [bne_iff_ne]; exact h0
    go_wp2
    go_ret2
    exact ⟨by unfold fcmpV; rw [HE.out, if_neg h0]; rfl, hbw2⟩
end Go.Proofs.Ytchhkokpjdkkiaa.Ex

namespace Go.Proofs.Ytchhkokpjdkkiaa.Ex
open Go.RowKit

set_option maxRecDepth 100000 in
set_option maxHeartbeats 1600000 in
theorem xball_c (n t : Int) (w : World) (h1 : -9223372036854775808 ≤ t) (h2 : t ≤ 9223372036854775807) :
    Calls Try.prog 92 #[.int .i64 n, .int .i64 t] w (NumV w (SCount n (Bn n.toNat (t + 1).toNat))) := by
  by_cases h : 0 ≤ n ∧ n ≤ 512
  · obtain ⟨N, rfl⟩ := Int.eq_ofNat_of_zero_le h.1
    have hN : N ≤ 512 := by omega
    obtain ⟨m, HM, hm1, hm2⟩ : ∃ m : Int, Hid (min t (N : Int) = m) ∧ m ≤ N ∧ m ≤ t := ⟨_, rfl, by omega, by omega⟩
    obtain ⟨M, HMM⟩ : ∃ M : Nat, Hid ((m + 1).toNat = M) := ⟨_, rfl⟩
    have hMN : M ≤ N + 1 := by have := HMM.out; omega
    have hMm : ∀ i : Nat, i < M ↔ (i : Int) ≤ m := fun i => by have := HMM.out; omega
    have HW : Hid (Bn N (t + 1).toNat = Bn N M) := by
      have h3 := HM.out
      have h4 := HMM.out
      rcases Int.lt_or_le N t with hlt | hge
      · obtain rfl : M = N + 1 := by omega
        exact Bn_stop (Nat.le_refl _) (by omega)
      · show Bn N _ = Bn N _
        congr 1; omega
    rw [show ((N : Int)).toNat = N from rfl, HW.out]
    go_enter Try.func92, Try.ntmps92
    go_wp2
    go_loopw [6, 7, 8] (fun vs v1 iv wr => ∃ (i : Nat) (A0 : Option Addr) (n0 c0 : Nat) (l0 : List Nat) (A1 : Option Addr) (n1 c1 : Nat) (l1 : List Nat),
        i ≤ M ∧ iv = .int .i64 i ∧ vs = .slice A0 n0 c0 ∧ v1 = .slice A1 n1 c1 ∧ Sl wr wr.heap.size .u32 A0 n0 c0 l0 ∧ Num 4294967296 l0 (Bn N i) ∧
        Sl wr wr.heap.size .u32 A1 n1 c1 l1 ∧ Num 4294967296 l1 (Cn N i) ∧ Below w.heap.size w wr)
      (fun _ _ iv _ => M - (intOf iv).toNat)
    case atStart =>
      exact ⟨0, _, _, _, [], _, _, _, [1], by omega, rfl, rfl, rfl, Sl.nil _ _ _ _ _ (by omega), Num.nil _, (Sl.one w _ _ 1 rfl).mono (by simp), ⟨Digs.one (by omega), by rw [Cn_zero]; simp [val], fun i hi => by simp at hi; subst hi; simp⟩, (Below.refl _ _).alloc (Nat.le_refl _) _⟩
    case round =>
      obtain ⟨i, A0, n0, c0, l0, A1, n1, c1, l1, hi, rfl, rfl, rfl, s0, N0, s1, N1, hbw⟩ := hrel
      by_cases hlt : i < M
      · have hl0 := N0.len_Bn hN (by omega) s0.len
        have hl1 := N1.len_Cn hN s1.len
        have him := (hMm i).1 hlt
        go_wp2_with (with_reducible refine wl_min _ rfl _ _ _ rfl _ _ _ _ m rfl rfl (by have := HM.out; omega) ?_)
        have t2 := plus_c _ _ _ _ _ _ _ _ wr _ s0 s1 (Nat.le_refl _) N0.dig N1.dig (by omega) (by omega)
        rw [N0.val_, N1.val_] at t2
        refine t2.mono ?_
        rintro e w4 ⟨g4, n4, c4, l4, rfl, o4, N4, hb4⟩
        clear t2
        have s1' := (s1.below hb4).mono hb4.size
        have hbw4 := hbw.trans (hb4.mono hbw.size)
        clear s0 s1 hb4 hbw
        go_wp2_with fail
        have t3 := next_c _ _ _ _ w4 _ N i s1' (Nat.le_refl _) N1.dig (by omega) (by omega) (by omega)
        rw [N1.val_, Cn_next] at t3
        refine t3.mono ?_
        rintro e w5 ⟨g5, n5, c5, l5, rfl, o5, N5, hb5⟩
        clear t3
        have o4' := o4.below hb5 (Nat.le_refl _)
        have hbw5 := hbw4.trans (hb5.mono hbw4.size)
        clear s1' o4 hb5 hbw4
        go_wp2
        go_roundw
        case rel => exact ⟨i + 1, _, _, _, l4, _, _, _, l5, by omega, by go_num, rfl, rfl, o4'.sl, N4, o5.sl, N5, hbw5⟩
        case measure => simp [intOf] <;> omega
      · obtain rfl : i = M := by omega
        have him : ¬ (i : Int) ≤ m := fun hh => hlt ((hMm i).2 hh)
        have hl0 := N0.len_Bn hN (by omega) s0.len
        go_wp2_with (with_reducible refine wl_min _ rfl _ _ _ rfl _ _ _ _ m rfl rfl (by have := HM.out; omega) ?_)
        have t2 := clone_c _ _ _ _ wr _ s0 (Nat.le_refl _) N0.dig (by omega)
        rw [N0.val_] at t2
        refine t2.mono ?_
        rintro e w4 ⟨g4, n4, c4, l4, rfl, o4, N4, hb4⟩
        go_wp2
        go_ret2
        exact ⟨_, _, _, _, _, rfl, o4.sl, .inl ⟨h.1, h.2, N4, rfl⟩, hbw.trans (hb4.mono hbw.size)⟩
  · have hc : n < 0 ∨ (0 ≤ n ∧ 512 < n) := by omega
    rcases hc with hc | hc
    all_goals
      go_enter Try.func92, Try.ntmps92
      go_wp2
      go_ret2
      exact ⟨_, _, _, _, _, rfl, Sl.nil _ _ _ _ _ (by omega), .inr ⟨h, rfl, rfl⟩, Below.refl _ _⟩

end Go.Proofs.Ytchhkokpjdkkiaa.Ex

namespace Go.Proofs.Ytchhkokpjdkkiaa.Ex
open Go.RowKit

theorem num_one (b x : Nat) (h0 : 0 < x) (h : x < b) : Num b [x] x := ⟨Digs.one h, by simp [val], fun i hi => by
  obtain rfl : i = 0 := by simpa using hi.symm
  simp; omega⟩
theorem fits_small {x : Nat} (h0 : 0 < x) (h : x < 4294967296) : Fits x := (num_one _ x h0 h).fits.1 (by simp)
theorem sred_half {V D : Nat} {l l' : List Nat} {err : Int} (hV : V / Nat.gcd V D = 1) (hD : D / Nat.gcd V D = 2) (h : SRed V D l l' err) : l = [1] ∧ l' = [2] ∧ err = 0 := by
  unfold SRed at h
  rw [hV, hD] at h
  rcases h with ⟨_, _, h3, h4, h5⟩ | ⟨h1, _⟩
  · exact ⟨h3.uniq (num_one _ 1 (by omega) (by omega)) (by omega), h4.uniq (num_one _ 2 (by omega) (by omega)) (by omega), h5⟩
  · exact absurd ⟨fits_small (by omega) (by omega), fits_small (by omega) (by omega)⟩ h1
theorem tail_small {l l' : List Nat} {err : Int} (h : STail 4 1 2 0 l l' err) : l = [1] ∧ l' = [2] ∧ err = 0 := by
  rcases h with ⟨_, _, h⟩ | ⟨h, _⟩
  · exact sred_half (by decide) (by decide) h
  · exact absurd ⟨by decide, by decide⟩ h
theorem text_small {f : FA} {s : ByteArray} {err : Int} (h1 : f.l = [1]) (h2 : f.l' = [2]) (hn : f.n = 1) (hn' : f.n' = 1) (h : SText f s err) : s = strN [49, 47, 50] ∧ err = 0 := by
  obtain ⟨l, l', hS, hs⟩ := h
  have he : errV [f] = 0 := by simp [errV, FA.long, FA.zero, h2, hn, hn', val]
  rcases hS with ⟨_, hS⟩ | ⟨hS, _⟩
  · rw [h1, h2] at hS
    obtain ⟨rfl, rfl, rfl⟩ := sred_half (by decide) (by decide) hS
    refine ⟨?_, rfl⟩
    rw [hs, if_pos rfl]
    have e1 : textN (val 4294967296 [1]) = [49] := by
      rw [show val 4294967296 [1] = 1 by simp [val], textN, if_neg (by omega), decF_small (by omega) (by omega)]; rfl
    have e2 : textN (val 4294967296 [2]) = [50] := by
      rw [show val 4294967296 [2] = 2 by simp [val], textN, if_neg (by omega), decF_small (by omega) (by omega)]; rfl
    rw [e1, e2]; rfl
  · exact absurd he hS

end Go.Proofs.Ytchhkokpjdkkiaa.Ex

namespace Go.Proofs.Ytchhkokpjdkkiaa.Ex
open Go.RowKit

theorem fits_pow {N m : Nat} (h : N ≤ 2 ^ m) (hm : m < 2048) : Fits N := lt_pow_of_le h rfl 64 (by omega)
theorem Cn_fits {n k : Nat} (hn : n ≤ 512) : Fits (Cn n k) := fits_pow (Nat.le_trans (Cn_le n k) (Nat.pow_le_pow_right (by omega) hn)) (by omega)
theorem Bn_fits {n m : Nat} (hn : n ≤ 512) (hm : m ≤ 1024) : Fits (Bn n m) := fits_pow (Bn_bound (g := 10) hn (by omega)) (by omega)
theorem SCount.ok {n N : Nat} {l : List Nat} {e : Int} (h : SCount n N l e) (hn : n ≤ 512) : Num 4294967296 l N ∧ e = 0 := by
  rcases h with ⟨_, _, h3, h4⟩ | ⟨h1, _⟩
  · exact ⟨h3, h4⟩
  · omega

theorem ball_ok (n k : Nat) (w : World) (hn : n ≤ 512) (hk : k ≤ 1000) : Calls Try.prog 92 #[.int .i64 n, .int .i64 k] w fun e w' => ∃ A m c l, e = .returned (.tuple #[.slice A m c, .int .i64 0]) ∧ Sl w' w'.heap.size .u32 A m c l ∧ Num 4294967296 l (Bn n (k + 1)) ∧ m ≤ 64 ∧ Below w.heap.size w w' :=
  (xball_c n k w (by omega) (by omega)).mono fun e w' ⟨A, m, c, l, err, he, s, S, hb⟩ => by
    obtain ⟨h1, rfl⟩ := SCount.ok S hn
    rw [show ((n : Int)).toNat = n from rfl, show ((k : Int) + 1).toNat = k + 1 by omega] at h1
    exact ⟨A, m, c, l, he, s, h1, by rw [← s.len]; exact h1.fits.2 (Bn_fits hn (by omega)), hb⟩

end Go.Proofs.Ytchhkokpjdkkiaa.Ex
