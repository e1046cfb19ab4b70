/- Contracts of what rules do with light that is not bright: loss, noise, late, starve. Contracts of acts, and of the wrapper of a quiet rule. The state of a slot while the rules act on it; the wrapper of a quiet rule; blind. Contract of what blind does. -/
import Derived.Test.YtchhkokpjdkkiaaTopSiftsa06
import Derived.Test.YtchhkokpjdkkiaaTopSiftsa04
namespace Go.Proofs.Ytchhkokpjdkkiaa
open Go.RowKit

def liB (w : World) (X : Nat) (x : Li) : Prop := Blk w X 165 #[.int .i64 x.ph, .int .i64 x.b, .bool x.bit, .bool x.bright]
/-- Behind such a rule: the light, the draws; blocks X and D aside all is as it was. -/
def SQ (X D : Nat) (x : Li) (s : Nat) (w : World) (e : Ending) (w' : World) : Prop :=
  e = .returned (.tuple #[]) ∧ liB w' X x ∧ Dr w' D s ∧ Fr (fun i => i = X ∨ i = D) w w'
theorem Fr.chance {w w1 w2 : World} {X D : Nat} (h : Fr (fun i => i = X ∨ i = D) w w1) (g : w1.grownBy w2 (some D)) : Fr (fun i => i = X ∨ i = D) w w2 :=
  h.trans (Fr.of_grown (T := fun i => i = D) g (fun k e => by injection e with e; exact e.symm)) (fun _ _ c => Or.inr c)
def lossS (a : Int) (s k : Nat) : Int := ((lossF a s k).1 : Nat)
theorem lossS_yes {a : Int} {s k : Nat} (h : (bel (lossF a s k).2 256 : Int) < a) : lossS a s (k + 1) = lossS a s k + 1 := by
  unfold lossS; rw [lossF, if_pos (by unfold hit; exact decide_eq_true h)]; rfl
theorem lossS_no {a : Int} {s k : Nat} (h : ¬ (bel (lossF a s k).2 256 : Int) < a) : lossS a s (k + 1) = lossS a s k := by
  unfold lossS; rw [lossF, if_neg (by unfold hit; simp only [decide_eq_true_eq]; exact h)]; rfl
theorem lossS_le (a : Int) (s k : Nat) : 0 ≤ lossS a s k ∧ lossS a s k ≤ k := by
  have := lossF_le a s k; unfold lossS; omega
theorem lossF_snd (a : Int) (s k : Nat) : (lossF a s (k + 1)).2 = nx (lossF a s k).2 := rfl

set_option maxRecDepth 100000 in
set_option maxHeartbeats 3200000 in
theorem loss_c (k fr td a b : Int) (X D s P : Nat) (xb : Int) (xt : Bool) (w : World) (hX : liB w X ⟨P, xb, xt, false⟩) (hD : Dr w D s) (hXD : X ≠ D) (hP : P ≤ 3) :
    Calls Try.prog 98 #[.agg #[.int .i64 k, .int .i64 fr, .int .i64 td, .int .i64 a, .int .i64 b], .pointer (some ⟨X, 0, none⟩), .pointer (some ⟨D, 0, none⟩)] w
      (SQ X D ⟨P - lossS a s P, xb, xt, false⟩ (lossF a s P).2 w) := by
  have hDX : D ≠ X := fun e => hXD e.symm
  have hlX := hX.lt
  have hlD := Blk.lt hD
  go_enter Try.func98, Try.ntmps98
  go_upto_region 1 with fail
  have hR := Blk.newAt w 108 #[.int .i64 k, .int .i64 fr, .int .i64 td, .int .i64 a, .int .i64 b] w.heap.size rfl
  have hX1 : liB _ X _ := hX.alloc (.cells #[.int .i64 k, .int .i64 fr, .int .i64 td, .int .i64 a, .int .i64 b] 108)
  have hD1 : Dr _ D s := Blk.alloc hD (.cells #[.int .i64 k, .int .i64 fr, .int .i64 td, .int .i64 a, .int .i64 b] 108)
  have hf1 := (Fr.refl (fun i => i = X ∨ i = D) w).alloc (.cells #[.int .i64 k, .int .i64 fr, .int .i64 td, .int .i64 a, .int .i64 b] 108)
  obtain ⟨W, hW⟩ : ∃ W, W = w.alloc (.cells #[.int .i64 k, .int .i64 fr, .int .i64 td, .int .i64 a, .int .i64 b] 108) := ⟨_, rfl⟩
  rw [← hW] at hR hX1 hD1 hf1 ⊢
  clear hW hX hD
  obtain ⟨gR, hgR⟩ : ∃ g, g = w.heap.size := ⟨_, rfl⟩
  rw [← hgR] at hR ⊢
  have hRD : gR ≠ D := by omega
  have hRX : gR ≠ X := by omega
  clear hgR
  have x0 := hX1.cell 0
  simp only [List.getElem?_toArray, List.getElem?_cons_zero] at x0
  go_wp2
  go_loopw [10] (fun iv wr => ∃ i : Nat, i ≤ P ∧ iv = .int .i64 i ∧ liB wr X ⟨P - lossS a s i, xb, xt, false⟩ ∧ Dr wr D (lossF a s i).2 ∧ Blk wr gR 108 #[.int .i64 k, .int .i64 fr, .int .i64 td, .int .i64 a, .int .i64 b] ∧ Fr (fun i => i = X ∨ i = D) w wr) (fun iv _ => P - (intOf iv).toNat)
  case atStart => exact ⟨0, by omega, rfl, by simpa [lossS, lossF] using hX1, hD1, hR, hf1⟩
  case round =>
    clear x0 hX1 hD1 hR hf1
    obtain ⟨i, hi, rfl, hX1, hD1, hR, hf1⟩ := hrel
    by_cases hlt : i < P
    · have r3 := hR.cell 3
      have x0 := hX1.cell 0
      simp only [List.getElem?_toArray, List.getElem?_cons_zero, List.getElem?_cons_succ] at x0 r3
      have hle := lossS_le a s i
      obtain ⟨q, hq⟩ : ∃ q, lossS a s i = q := ⟨_, rfl⟩
      rw [hq] at hle x0 hX1
      have HQ := hide hq
      have hq0 : (0 : Int) ≤ (P : Int) - q := by omega
      have hq1 : (P : Int) - q ≤ 3 := by omega
      have hq2 : (0 : Int) < (P : Int) - q := by omega
      clear hq hle
      have hch := fun W (h : Dr W D (lossF a s i).2) => chance_c D (lossF a s i).2 a W h
      by_cases hit : (bel (lossF a s i).2 256 : Int) < a
      · have HS := hide (lossS_yes hit)
        simp only [decide_eq_true hit] at hch
        have HCH := hide hch
        clear hch hit
        go_wp2_with (go_at_call 99; refine (HCH.out _ hD1).mono ?_; rintro e w1 ⟨rfl, hD2, hg⟩; have hX2 : liB w1 X _ := hX1.grown hg (by simpa using hXD); have x2 := hX2.cell 0; have xf2 := hX2.frozen 0; simp only [List.getElem?_toArray, List.getElem?_cons_zero] at x2)
        go_roundw
        case rel => exact ⟨i + 1, by omega, by go_num, by have := hX2.set_ 0 (.int .i64 ((P : Int) - q - 1)); rw [HS.out, HQ.out, show (P : Int) - (q + 1) = P - q - 1 by omega]; simpa [liB] using this, Dr.far hD2 hDX _, (hR.grown hg (by simpa using hRD)).far hRX _, (hf1.chance hg).setCell (fun _ => Or.inl rfl) _⟩
        case measure => simp [intOf] <;> omega
      · have HS := hide (lossS_no hit)
        simp only [decide_eq_false hit] at hch
        have HCH := hide hch
        clear hch hit
        go_wp2_with (go_at_call 99; refine (HCH.out _ hD1).mono ?_; rintro e w1 ⟨rfl, hD2, hg⟩; have hX2 : liB w1 X _ := hX1.grown hg (by simpa using hXD))
        go_roundw
        case rel => exact ⟨i + 1, by omega, by go_num, by rw [HS.out, HQ.out]; exact hX2, hD2, hR.grown hg (by simpa using hRD), hf1.chance hg⟩
        case measure => simp [intOf] <;> omega
    · obtain rfl : i = P := by omega
      go_wp2
      go_end0
      exact ⟨rfl, hX1, hD1, hf1⟩

/-- The light behind noise. -/
def noiF (a : Int) (s P : Nat) (xb : Int) (xt : Bool) : Li × Nat := if 0 < P then (if (bel s 256 : Int) < a then (⟨P, xb, !xt, false⟩, nx s) else (⟨P, xb, xt, false⟩, nx s)) else (⟨P, xb, xt, false⟩, s)
theorem noiF_hit {a xb : Int} {s P : Nat} {xt : Bool} (h : 0 < P) (h2 : (bel s 256 : Int) < a) : noiF a s P xb xt = (⟨P, xb, !xt, false⟩, nx s) := by unfold noiF; rw [if_pos h, if_pos h2]
theorem noiF_miss {a xb : Int} {s P : Nat} {xt : Bool} (h : 0 < P) (h2 : ¬ (bel s 256 : Int) < a) : noiF a s P xb xt = (⟨P, xb, xt, false⟩, nx s) := by unfold noiF; rw [if_pos h, if_neg h2]
theorem noiF_none {a xb : Int} {s P : Nat} {xt : Bool} (h : ¬ 0 < P) : noiF a s P xb xt = (⟨P, xb, xt, false⟩, s) := by unfold noiF; rw [if_neg h]
def staF (a : Int) (s P : Nat) (xb : Int) (xt : Bool) : Li × Nat := if P = 1 then (if (bel s 256 : Int) < a then (⟨0, xb, xt, false⟩, nx s) else (⟨P, xb, xt, false⟩, nx s)) else (⟨P, xb, xt, false⟩, s)
theorem staF_hit {a xb : Int} {s P : Nat} {xt : Bool} (h : P = 1) (h2 : (bel s 256 : Int) < a) : staF a s P xb xt = (⟨0, xb, xt, false⟩, nx s) := by unfold staF; rw [if_pos h, if_pos h2]
theorem staF_miss {a xb : Int} {s P : Nat} {xt : Bool} (h : P = 1) (h2 : ¬ (bel s 256 : Int) < a) : staF a s P xb xt = (⟨P, xb, xt, false⟩, nx s) := by unfold staF; rw [if_pos h, if_neg h2]
theorem staF_none {a xb : Int} {s P : Nat} {xt : Bool} (h : ¬ P = 1) : staF a s P xb xt = (⟨P, xb, xt, false⟩, s) := by unfold staF; rw [if_neg h]
set_option maxRecDepth 100000 in
set_option maxHeartbeats 3200000 in
theorem noise_c (k fr td a b : Int) (X D s P : Nat) (xb : Int) (xt : Bool) (w : World) (hX : liB w X ⟨P, xb, xt, false⟩) (hD : Dr w D s) (hXD : X ≠ D) (hP : P ≤ 3) :
    Calls Try.prog 100 #[.agg #[.int .i64 k, .int .i64 fr, .int .i64 td, .int .i64 a, .int .i64 b], .pointer (some ⟨X, 0, none⟩), .pointer (some ⟨D, 0, none⟩)] w
      (SQ X D (noiF a s P xb xt).1 (noiF a s P xb xt).2 w) := by
  have hDX : D ≠ X := fun e => hXD e.symm
  have hlX := hX.lt
  have hlD := Blk.lt hD
  go_enter Try.func100, Try.ntmps100
  go_upto_region 1 with fail
  have hR := Blk.newAt w 108 #[.int .i64 k, .int .i64 fr, .int .i64 td, .int .i64 a, .int .i64 b] w.heap.size rfl
  have hX1 : liB _ X _ := hX.alloc (.cells #[.int .i64 k, .int .i64 fr, .int .i64 td, .int .i64 a, .int .i64 b] 108)
  have hD1 : Dr _ D s := Blk.alloc hD (.cells #[.int .i64 k, .int .i64 fr, .int .i64 td, .int .i64 a, .int .i64 b] 108)
  have hf1 := (Fr.refl (fun i => i = X ∨ i = D) w).alloc (.cells #[.int .i64 k, .int .i64 fr, .int .i64 td, .int .i64 a, .int .i64 b] 108)
  obtain ⟨W, hW⟩ : ∃ W, W = w.alloc (.cells #[.int .i64 k, .int .i64 fr, .int .i64 td, .int .i64 a, .int .i64 b] 108) := ⟨_, rfl⟩
  rw [← hW] at hR hX1 hD1 hf1 ⊢
  clear hW hX hD
  obtain ⟨gR, hgR⟩ : ∃ g, g = w.heap.size := ⟨_, rfl⟩
  rw [← hgR] at hR ⊢
  have hRD : gR ≠ D := by omega
  have hRX : gR ≠ X := by omega
  clear hgR
  have x0 := hX1.cell 0
  have x2 := hX1.cell 2
  have r3 := hR.cell 3
  simp only [List.getElem?_toArray, List.getElem?_cons_zero, List.getElem?_cons_succ] at x0 x2 r3
  by_cases hp : 0 < P
  · have hch := fun W (h : Dr W D s) => chance_c D s a W h
    by_cases hit : (bel s 256 : Int) < a
    · have HS := hide (noiF_hit (xb := xb) (xt := xt) hp hit)
      simp only [decide_eq_true hit] at hch
      have HCH := hide hch
      clear hch hit
      have hpp : (0 : Int) < (P : Int) := by omega
      go_wp2_with (go_at_call 99; refine (HCH.out _ hD1).mono ?_; rintro e w1 ⟨rfl, hD2, hg⟩; have hX2 : liB w1 X _ := hX1.grown hg (by simpa using hXD); have y0 := hX2.cell 0; have y2 := hX2.cell 2; have yf := hX2.frozen 2; have yf0 := hX2.frozen 0; simp only [List.getElem?_toArray, List.getElem?_cons_zero, List.getElem?_cons_succ] at y0 y2)
      go_end0
      refine ⟨rfl, ?_, by rw [HS.out]; exact Dr.far hD2 hDX _, (hf1.chance hg).setCell (fun _ => Or.inl rfl) _⟩
      rw [HS.out]
      have := hX2.set_ 2 (.bool (!xt))
      simpa [liB] using this
    · have HS := hide (noiF_miss (xb := xb) (xt := xt) hp hit)
      simp only [decide_eq_false hit] at hch
      have HCH := hide hch
      clear hch hit
      have hpp : (0 : Int) < (P : Int) := by omega
      go_wp2_with (go_at_call 99; refine (HCH.out _ hD1).mono ?_; rintro e w1 ⟨rfl, hD2, hg⟩; have hX2 : liB w1 X _ := hX1.grown hg (by simpa using hXD); have y0 := hX2.cell 0; have y2 := hX2.cell 2; have yf := hX2.frozen 2; have yf0 := hX2.frozen 0; simp only [List.getElem?_toArray, List.getElem?_cons_zero, List.getElem?_cons_succ] at y0 y2)
      go_end0
      exact ⟨rfl, by rw [HS.out]; exact hX2, by rw [HS.out]; exact hD2, hf1.chance hg⟩
  · have HS := hide (noiF_none (a := a) (s := s) (xb := xb) (xt := xt) hp)
    have hpp : ¬ (0 : Int) < (P : Int) := by omega
    go_wp2
    go_end0
    exact ⟨rfl, by rw [HS.out]; exact hX1, by rw [HS.out]; exact hD1, hf1⟩
set_option maxRecDepth 100000 in
set_option maxHeartbeats 3200000 in
theorem starve_c (k fr td a b : Int) (X D s P : Nat) (xb : Int) (xt : Bool) (w : World) (hX : liB w X ⟨P, xb, xt, false⟩) (hD : Dr w D s) (hXD : X ≠ D) (_hP : P ≤ 3) :
    Calls Try.prog 102 #[.agg #[.int .i64 k, .int .i64 fr, .int .i64 td, .int .i64 a, .int .i64 b], .pointer (some ⟨X, 0, none⟩), .pointer (some ⟨D, 0, none⟩)] w
      (SQ X D (staF a s P xb xt).1 (staF a s P xb xt).2 w) := by
  have hDX : D ≠ X := fun e => hXD e.symm
  have hlX := hX.lt
  have hlD := Blk.lt hD
  go_enter Try.func102, Try.ntmps102
  go_upto_region 1 with fail
  have hR := Blk.newAt w 108 #[.int .i64 k, .int .i64 fr, .int .i64 td, .int .i64 a, .int .i64 b] w.heap.size rfl
  have hX1 : liB _ X _ := hX.alloc (.cells #[.int .i64 k, .int .i64 fr, .int .i64 td, .int .i64 a, .int .i64 b] 108)
  have hD1 : Dr _ D s := Blk.alloc hD (.cells #[.int .i64 k, .int .i64 fr, .int .i64 td, .int .i64 a, .int .i64 b] 108)
  have hf1 := (Fr.refl (fun i => i = X ∨ i = D) w).alloc (.cells #[.int .i64 k, .int .i64 fr, .int .i64 td, .int .i64 a, .int .i64 b] 108)
  obtain ⟨W, hW⟩ : ∃ W, W = w.alloc (.cells #[.int .i64 k, .int .i64 fr, .int .i64 td, .int .i64 a, .int .i64 b] 108) := ⟨_, rfl⟩
  rw [← hW] at hR hX1 hD1 hf1 ⊢
  clear hW hX hD
  obtain ⟨gR, hgR⟩ : ∃ g, g = w.heap.size := ⟨_, rfl⟩
  rw [← hgR] at hR ⊢
  have hRD : gR ≠ D := by omega
  have hRX : gR ≠ X := by omega
  clear hgR
  have x0 := hX1.cell 0
  have x2 := hX1.cell 2
  have r3 := hR.cell 3
  simp only [List.getElem?_toArray, List.getElem?_cons_zero, List.getElem?_cons_succ] at x0 x2 r3
  by_cases hp : P = 1
  · have hch := fun W (h : Dr W D s) => chance_c D s a W h
    by_cases hit : (bel s 256 : Int) < a
    · have HS := hide (staF_hit (xb := xb) (xt := xt) hp hit)
      simp only [decide_eq_true hit] at hch
      have HCH := hide hch
      clear hch hit
      have hpp : ((P : Int) == 1) = true := by simp; omega
      clear hp
      go_wp2_with (go_at_call 99; refine (HCH.out _ hD1).mono ?_; rintro e w1 ⟨rfl, hD2, hg⟩; have hX2 : liB w1 X _ := hX1.grown hg (by simpa using hXD); have y0 := hX2.cell 0; have y2 := hX2.cell 2; have yf := hX2.frozen 2; have yf0 := hX2.frozen 0; simp only [List.getElem?_toArray, List.getElem?_cons_zero, List.getElem?_cons_succ] at y0 y2)
      go_end0
      refine ⟨rfl, ?_, by rw [HS.out]; exact Dr.far hD2 hDX _, (hf1.chance hg).setCell (fun _ => Or.inl rfl) _⟩
      rw [HS.out]
      have := hX2.set_ 0 (.int .i64 0)
      simpa [liB] using this
    · have HS := hide (staF_miss (xb := xb) (xt := xt) hp hit)
      simp only [decide_eq_false hit] at hch
      have HCH := hide hch
      clear hch hit
      have hpp : ((P : Int) == 1) = true := by simp; omega
      clear hp
      go_wp2_with (go_at_call 99; refine (HCH.out _ hD1).mono ?_; rintro e w1 ⟨rfl, hD2, hg⟩; have hX2 : liB w1 X _ := hX1.grown hg (by simpa using hXD); have y0 := hX2.cell 0; have y2 := hX2.cell 2; have yf := hX2.frozen 2; have yf0 := hX2.frozen 0; simp only [List.getElem?_toArray, List.getElem?_cons_zero, List.getElem?_cons_succ] at y0 y2)
      go_end0
      exact ⟨rfl, by rw [HS.out]; exact hX2, by rw [HS.out]; exact hD2, hf1.chance hg⟩
  · have HS := hide (staF_none (a := a) (s := s) (xb := xb) (xt := xt) hp)
    have hpp : ((P : Int) == 1) = false := by simp; omega
    clear hp
    go_wp2
    go_end0
    exact ⟨rfl, by rw [HS.out]; exact hX1, by rw [HS.out]; exact hD1, hf1⟩
set_option maxRecDepth 100000 in
set_option maxHeartbeats 3200000 in
theorem late_c (k fr td a b : Int) (X D s : Nat) (x : Li) (w : World) (hX : liB w X x) (hD : Dr w D s) :
    Calls Try.prog 101 #[.agg #[.int .i64 k, .int .i64 fr, .int .i64 td, .int .i64 a, .int .i64 b], .pointer (some ⟨X, 0, none⟩), .pointer (some ⟨D, 0, none⟩)] w (SQ X D x s w) := by
  go_enter Try.func101, Try.ntmps101
  go_wp2
  go_end0
  exact ⟨rfl, hX.alloc _, Blk.alloc hD _, (Fr.refl _ _).alloc _⟩
end Go.Proofs.Ytchhkokpjdkkiaa

namespace Go.Proofs.Ytchhkokpjdkkiaa
open Go.RowKit

/-- What acts returns, the captured functions lying behind block g. -/
def actV (g : Nat) : Array Value :=
  #[.nilFunc, .func (.func 97) #[] #[.pointer (some ⟨g + 1, 0, none⟩)], .func (.func 97) #[] #[.pointer (some ⟨g + 2, 0, none⟩)], .func (.func 97) #[] #[.pointer (some ⟨g + 3, 0, none⟩)],
    .func (.func 104) #[] #[], .func (.func 103) #[] #[], .func (.func 97) #[] #[.pointer (some ⟨g + 4, 0, none⟩)], .func (.func 105) #[] #[]]
def capB (w : World) (g f : Nat) : Prop := Blk w g 196 #[.func (.func f) #[] #[]]
def Caps (w : World) (g : Nat) : Prop := capB w (g + 1) 98 ∧ capB w (g + 2) 100 ∧ capB w (g + 3) 101 ∧ capB w (g + 4) 102
theorem info_acts : (Try.prog.info? 162).map (·.size) = some 8 := by kernel_rfl

set_option maxRecDepth 100000 in
set_option maxHeartbeats 3200000 in
theorem acts_c (w : World) : Calls Try.prog 68 #[] w fun e w' => e = .returned (.agg (actV w.heap.size)) ∧ Caps w' w.heap.size ∧ Below w.heap.size w w' ∧ w.heap.size + 4 < w'.heap.size := by
  have hb := below_alloc w (.cells #[.nilFunc, .nilFunc, .nilFunc, .nilFunc, .nilFunc, .nilFunc, .nilFunc, .nilFunc] 162)
  have B0 := Blk.newAt w 162 #[.nilFunc, .nilFunc, .nilFunc, .nilFunc, .nilFunc, .nilFunc, .nilFunc, .nilFunc] w.heap.size rfl
  obtain ⟨w0, hw0⟩ : ∃ q, q = w.alloc (.cells #[.nilFunc, .nilFunc, .nilFunc, .nilFunc, .nilFunc, .nilFunc, .nilFunc, .nilFunc] 162) := ⟨_, rfl⟩
  have hz0 : w0.heap.size = w.heap.size + 1 := by rw [hw0]; simp
  rw [← hw0] at hb B0
  obtain ⟨w1, hw1⟩ : ∃ q, q = w0.alloc (.cells #[.func (.func 98) #[] #[]] 196) := ⟨_, rfl⟩
  have hz1 : w1.heap.size = w.heap.size + 2 := by rw [hw1]; simp [hz0]
  obtain ⟨w2, hw2⟩ : ∃ q, q = w1.alloc (.cells #[.func (.func 100) #[] #[]] 196) := ⟨_, rfl⟩
  have hz2 : w2.heap.size = w.heap.size + 3 := by rw [hw2]; simp [hz1]
  obtain ⟨w3, hw3⟩ : ∃ q, q = w2.alloc (.cells #[.func (.func 101) #[] #[]] 196) := ⟨_, rfl⟩
  have hz3 : w3.heap.size = w.heap.size + 4 := by rw [hw3]; simp [hz2]
  obtain ⟨w4, hw4⟩ : ∃ q, q = w3.alloc (.cells #[.func (.func 102) #[] #[]] 196) := ⟨_, rfl⟩
  have hz4 : w4.heap.size = w.heap.size + 5 := by rw [hw4]; simp [hz3]
  have k1 : capB w4 (w.heap.size + 1) 98 := by
    rw [hw4, hw3, hw2, hw1]; exact (((Blk.newAt w0 _ _ _ hz0).alloc _).alloc _).alloc _
  have k2 : capB w4 (w.heap.size + 2) 100 := by
    rw [hw4, hw3, hw2]; exact ((Blk.newAt w1 _ _ _ hz1).alloc _).alloc _
  have k3 : capB w4 (w.heap.size + 3) 101 := by
    rw [hw4, hw3]; exact (Blk.newAt w2 _ _ _ hz2).alloc _
  have k4 : capB w4 (w.heap.size + 4) 102 := by
    rw [hw4]; exact Blk.newAt w3 _ _ _ hz3
  have hb4 : Below w.heap.size w w4 := by
    rw [hw4, hw3, hw2, hw1]
    exact (((hb.alloc (by omega) _).alloc (by simp; omega) _).alloc (by simp; omega) _).alloc (by simp; omega) _
  have B4 : Blk w4 w.heap.size 162 #[.nilFunc, .nilFunc, .nilFunc, .nilFunc, .nilFunc, .nilFunc, .nilFunc, .nilFunc] := by
    rw [hw4, hw3, hw2, hw1]; exact (((B0.alloc _).alloc _).alloc _).alloc _
  have HZ := hide hz4
  have HW := hide (show w4 = ((((w.alloc (.cells #[.nilFunc, .nilFunc, .nilFunc, .nilFunc, .nilFunc, .nilFunc, .nilFunc, .nilFunc] 162)).alloc (.cells #[.func (.func 98) #[] #[]] 196)).alloc (.cells #[.func (.func 100) #[] #[]] 196)).alloc (.cells #[.func (.func 101) #[] #[]] 196)).alloc (.cells #[.func (.func 102) #[] #[]] 196) by rw [hw4, hw3, hw2, hw1, hw0])
  clear hz0 hz1 hz2 hz3 hz4 hw4 hw3 hw2 hw1 hw0 hb B0
  rw [HW.out] at B4
  go_enter Try.func68, Try.ntmps68
  go_wp2_with (first | (refine wl_store (o := ⟨none, _, _, _, _, _⟩) rfl 162 _ _ rfl w.heap.size (actV w.heap.size) rfl rfl 162 _ B4 info_acts rfl (by simp [actV, Value.oneCell']) ?_; intro w5 hA hg) | go_in)
  rw [← HW.out] at hg
  refine bodyPost_ret (results_cell_row rfl _ _ w.heap.size _ _ (0, 0) _ rfl hA Try.underlying162 rfl (by kernel_rfl)) rfl ⟨rfl, ⟨k1.grown hg (by simp), k2.grown hg (by simp), k3.grown hg (by simp), k4.grown hg (by simp)⟩, below_grown hb4 hg (Nat.le_refl _) (Nat.le_refl _), by have := hg.size; have := HZ.out; omega⟩
end Go.Proofs.Ytchhkokpjdkkiaa

namespace Go.Proofs.Ytchhkokpjdkkiaa
open Go.RowKit

def Geo (base X D E : Nat) : Prop := base ≤ X ∧ D < base ∧ E < base ∧ D ≠ E
def Tr (base D E : Nat) : Nat → Prop := fun i => base ≤ i ∨ i = D ∨ i = E
def Sta (w : World) (base X D E : Nat) (x : Li) (s : Nat) (N : List No) : Prop :=
  liB w X x ∧ Dr w D s ∧ ∃ A, Bk w E base A N ∧ A.map (·.block) ≠ some X
def SAct (base X D E : Nat) (t : Li × List No × Nat) (w : World) (e : Ending) (w' : World) : Prop :=
  e = .returned (.tuple #[]) ∧ Sta w' base X D E t.1 t.2.2 t.2.1 ∧ Fr (Tr base D E) w w'
theorem Bk.fr {w w' : World} {E base : Nat} {A : Option Addr} {N : List No} {T : Nat → Prop} (h : Bk w E base A N) (f : Fr T w w') (hE : ¬ T E) (hA : ∀ g, A.map (·.block) = some g → ¬ T g) : Bk w' E base A N := by
  obtain ⟨n, c, h1, h2, h3⟩ := h
  exact ⟨n, c, h1.fr f hE, h2.fr f (fun g eg => hA g (by rw [eg]; rfl)), h3⟩
theorem Bk.base {w : World} {E base : Nat} {A : Option Addr} {N : List No} (h : Bk w E base A N) : ∀ g, A.map (·.block) = some g → base ≤ g ∧ g < w.heap.size := by
  obtain ⟨n, c, h1, h2, h3⟩ := h
  exact h2.block
theorem Sta.quiet {w w' : World} {base X D E : Nat} {x x' : Li} {s s' : Nat} {N : List No} (h : Sta w base X D E x s N) (g : Geo base X D E) (hx : liB w' X x') (hd : Dr w' D s') (f : Fr (fun i => i = X ∨ i = D) w w') : Sta w' base X D E x' s' N := by
  obtain ⟨h1, h2, A, h3, h4⟩ := h
  obtain ⟨g1, g2, g3, g4⟩ := g
  exact ⟨hx, hd, A, h3.fr f (by omega) (fun q hq => by have := (h3.base q hq).1; rintro (rfl | rfl); exact h4 hq; omega), h4⟩
theorem Sta.alloc {w : World} {base X D E : Nat} {x : Li} {s : Nat} {N : List No} (h : Sta w base X D E x s N) (g : Geo base X D E) (o : Obj) : Sta (w.alloc o) base X D E x s N :=
  h.quiet g (Blk.alloc h.1 o) (Blk.alloc h.2.1 o) ((Fr.refl _ _).alloc o)
theorem Sta.drewN {w : World} {base X D E : Nat} {x : Li} {s : Nat} {N : List No} (h : Sta w base X D E x s N) (g : Geo base X D E) (n : Nat) : Sta (w.drewN n) base X D E x s N :=
  h.quiet g (Blk.drewN h.1 n) (Blk.drewN h.2.1 n) ((Fr.refl _ _).drewN n)
theorem Fr.quiet {w w' : World} {base X D E : Nat} (f : Fr (fun i => i = X ∨ i = D) w w') (g : Geo base X D E) : Fr (Tr base D E) w w' :=
  f.imp (fun i _ c => by
    rcases c with rfl | rfl
    · exact Or.inl g.1
    · exact Or.inr (Or.inl rfl))
theorem Fr.tr {w w1 w2 : World} {T : Nat → Prop} (f : Fr T w w1) (g : Fr T w1 w2) : Fr T w w2 := f.trans g (fun _ _ c => c)
/-- Behind hear. -/
theorem Sta.hear {w w' : World} {base X D E : Nat} {x : Li} {s : Nat} {N N' : List No} {A : Option Addr} {e : Ending} (h1 : liB w X x) (h2 : Dr w D s) (h3 : Bk w E base A N) (h4 : A.map (·.block) ≠ some X) (g : Geo base X D E) (k : SHear E base A N' w e w') :
    e = .returned (.tuple #[]) ∧ Sta w' base X D E x s N' ∧ Fr (Tr base D E) w w' := by
  obtain ⟨rfl, A', b, hA, f⟩ := k
  obtain ⟨g1, g2, g3, g4⟩ := g
  refine ⟨rfl, ⟨Blk.fr h1 f (by rintro (c | c); omega; exact h4 c), Blk.fr h2 f (by rintro (c | c); exact g4 c; have := (h3.base _ c).1; omega), A', b, ?_⟩, f.imp (fun i _ c => by
    rcases c with rfl | c
    · exact Or.inr (Or.inr rfl)
    · exact Or.inl (h3.base _ c).1)⟩
  rcases hA with rfl | ⟨q, rfl, hq⟩
  · exact h4
  · have := Blk.lt h1
    simp; omega


set_option maxRecDepth 100000 in
set_option maxHeartbeats 3200000 in
theorem quiet2_c (k fr td a b sl : Int) (v : Value) (base X D E C : Nat) (x x' : Li) (s s' : Nat) (N : List No) (w : World) (h : Sta w base X D E x s N) (g : Geo base X D E) (hC : capB w C 98)
    (hq : x.bright = false → ∀ W, liB W X x → Dr W D s → Calls Try.prog 98 #[.agg #[.int .i64 k, .int .i64 fr, .int .i64 td, .int .i64 a, .int .i64 b], .pointer (some ⟨X, 0, none⟩), .pointer (some ⟨D, 0, none⟩)] W (SQ X D x' s' W)) (hb : x.bright = true → x' = x ∧ s' = s) :
    Calls Try.prog 97 #[.agg #[.int .i64 k, .int .i64 fr, .int .i64 td, .int .i64 a, .int .i64 b], .int .i64 sl, .pointer (some ⟨X, 0, none⟩), .pointer (some ⟨D, 0, none⟩), v, .pointer (some ⟨C, 0, none⟩)] w (SAct base X D E (x', N, s') w) := by
  have h1 := h.alloc g (.cells #[.int .i64 k, .int .i64 fr, .int .i64 td, .int .i64 a, .int .i64 b] 108)
  have hR := Blk.newAt w 108 #[.int .i64 k, .int .i64 fr, .int .i64 td, .int .i64 a, .int .i64 b] w.heap.size rfl
  have hC1 : capB _ C _ := Blk.alloc hC (.cells #[.int .i64 k, .int .i64 fr, .int .i64 td, .int .i64 a, .int .i64 b] 108)
  have hf := (Fr.refl (Tr base D E) w).alloc (.cells #[.int .i64 k, .int .i64 fr, .int .i64 td, .int .i64 a, .int .i64 b] 108)
  have x3 := Blk.cell h1.1 3
  have c0 := Blk.cell hC1 0
  simp only [List.getElem?_toArray, List.getElem?_cons_zero, List.getElem?_cons_succ] at x3 c0
  obtain ⟨ph, xb, xt, xr⟩ := x
  cases xr
  · have HQ := hide (hq rfl _ h1.1 h1.2.1)
    simp only at x3
    clear hb hq
    go_enter Try.func97, Try.ntmps97
    go_wp2_with (go_at_call 98; refine HQ.out.mono ?_; rintro e w1 ⟨rfl, k1, k2, k3⟩)
    go_end0
    exact ⟨rfl, h1.quiet g k1 k2 k3, hf.tr (k3.quiet g)⟩
  · obtain ⟨rfl, rfl⟩ := hb rfl
    simp only at x3
    clear hq
    go_enter Try.func97, Try.ntmps97
    go_wp2
    go_end0
    exact ⟨rfl, h1, hf⟩

set_option maxRecDepth 100000 in
set_option maxHeartbeats 3200000 in
theorem quiet3_c (k fr td a b sl : Int) (v : Value) (base X D E C : Nat) (x x' : Li) (s s' : Nat) (N : List No) (w : World) (h : Sta w base X D E x s N) (g : Geo base X D E) (hC : capB w C 100)
    (hq : x.bright = false → ∀ W, liB W X x → Dr W D s → Calls Try.prog 100 #[.agg #[.int .i64 k, .int .i64 fr, .int .i64 td, .int .i64 a, .int .i64 b], .pointer (some ⟨X, 0, none⟩), .pointer (some ⟨D, 0, none⟩)] W (SQ X D x' s' W)) (hb : x.bright = true → x' = x ∧ s' = s) :
    Calls Try.prog 97 #[.agg #[.int .i64 k, .int .i64 fr, .int .i64 td, .int .i64 a, .int .i64 b], .int .i64 sl, .pointer (some ⟨X, 0, none⟩), .pointer (some ⟨D, 0, none⟩), v, .pointer (some ⟨C, 0, none⟩)] w (SAct base X D E (x', N, s') w) := by
  have h1 := h.alloc g (.cells #[.int .i64 k, .int .i64 fr, .int .i64 td, .int .i64 a, .int .i64 b] 108)
  have hR := Blk.newAt w 108 #[.int .i64 k, .int .i64 fr, .int .i64 td, .int .i64 a, .int .i64 b] w.heap.size rfl
  have hC1 : capB _ C _ := Blk.alloc hC (.cells #[.int .i64 k, .int .i64 fr, .int .i64 td, .int .i64 a, .int .i64 b] 108)
  have hf := (Fr.refl (Tr base D E) w).alloc (.cells #[.int .i64 k, .int .i64 fr, .int .i64 td, .int .i64 a, .int .i64 b] 108)
  have x3 := Blk.cell h1.1 3
  have c0 := Blk.cell hC1 0
  simp only [List.getElem?_toArray, List.getElem?_cons_zero, List.getElem?_cons_succ] at x3 c0
  obtain ⟨ph, xb, xt, xr⟩ := x
  cases xr
  · have HQ := hide (hq rfl _ h1.1 h1.2.1)
    simp only at x3
    clear hb hq
    go_enter Try.func97, Try.ntmps97
    go_wp2_with (go_at_call 100; refine HQ.out.mono ?_; rintro e w1 ⟨rfl, k1, k2, k3⟩)
    go_end0
    exact ⟨rfl, h1.quiet g k1 k2 k3, hf.tr (k3.quiet g)⟩
  · obtain ⟨rfl, rfl⟩ := hb rfl
    simp only at x3
    clear hq
    go_enter Try.func97, Try.ntmps97
    go_wp2
    go_end0
    exact ⟨rfl, h1, hf⟩

set_option maxRecDepth 100000 in
set_option maxHeartbeats 3200000 in
theorem quiet4_c (k fr td a b sl : Int) (v : Value) (base X D E C : Nat) (x x' : Li) (s s' : Nat) (N : List No) (w : World) (h : Sta w base X D E x s N) (g : Geo base X D E) (hC : capB w C 101)
    (hq : x.bright = false → ∀ W, liB W X x → Dr W D s → Calls Try.prog 101 #[.agg #[.int .i64 k, .int .i64 fr, .int .i64 td, .int .i64 a, .int .i64 b], .pointer (some ⟨X, 0, none⟩), .pointer (some ⟨D, 0, none⟩)] W (SQ X D x' s' W)) (hb : x.bright = true → x' = x ∧ s' = s) :
    Calls Try.prog 97 #[.agg #[.int .i64 k, .int .i64 fr, .int .i64 td, .int .i64 a, .int .i64 b], .int .i64 sl, .pointer (some ⟨X, 0, none⟩), .pointer (some ⟨D, 0, none⟩), v, .pointer (some ⟨C, 0, none⟩)] w (SAct base X D E (x', N, s') w) := by
  have h1 := h.alloc g (.cells #[.int .i64 k, .int .i64 fr, .int .i64 td, .int .i64 a, .int .i64 b] 108)
  have hR := Blk.newAt w 108 #[.int .i64 k, .int .i64 fr, .int .i64 td, .int .i64 a, .int .i64 b] w.heap.size rfl
  have hC1 : capB _ C _ := Blk.alloc hC (.cells #[.int .i64 k, .int .i64 fr, .int .i64 td, .int .i64 a, .int .i64 b] 108)
  have hf := (Fr.refl (Tr base D E) w).alloc (.cells #[.int .i64 k, .int .i64 fr, .int .i64 td, .int .i64 a, .int .i64 b] 108)
  have x3 := Blk.cell h1.1 3
  have c0 := Blk.cell hC1 0
  simp only [List.getElem?_toArray, List.getElem?_cons_zero, List.getElem?_cons_succ] at x3 c0
  obtain ⟨ph, xb, xt, xr⟩ := x
  cases xr
  · have HQ := hide (hq rfl _ h1.1 h1.2.1)
    simp only at x3
    clear hb hq
    go_enter Try.func97, Try.ntmps97
    go_wp2_with (go_at_call 101; refine HQ.out.mono ?_; rintro e w1 ⟨rfl, k1, k2, k3⟩)
    go_end0
    exact ⟨rfl, h1.quiet g k1 k2 k3, hf.tr (k3.quiet g)⟩
  · obtain ⟨rfl, rfl⟩ := hb rfl
    simp only at x3
    clear hq
    go_enter Try.func97, Try.ntmps97
    go_wp2
    go_end0
    exact ⟨rfl, h1, hf⟩

set_option maxRecDepth 100000 in
set_option maxHeartbeats 3200000 in
theorem quiet5_c (k fr td a b sl : Int) (v : Value) (base X D E C : Nat) (x x' : Li) (s s' : Nat) (N : List No) (w : World) (h : Sta w base X D E x s N) (g : Geo base X D E) (hC : capB w C 102)
    (hq : x.bright = false → ∀ W, liB W X x → Dr W D s → Calls Try.prog 102 #[.agg #[.int .i64 k, .int .i64 fr, .int .i64 td, .int .i64 a, .int .i64 b], .pointer (some ⟨X, 0, none⟩), .pointer (some ⟨D, 0, none⟩)] W (SQ X D x' s' W)) (hb : x.bright = true → x' = x ∧ s' = s) :
    Calls Try.prog 97 #[.agg #[.int .i64 k, .int .i64 fr, .int .i64 td, .int .i64 a, .int .i64 b], .int .i64 sl, .pointer (some ⟨X, 0, none⟩), .pointer (some ⟨D, 0, none⟩), v, .pointer (some ⟨C, 0, none⟩)] w (SAct base X D E (x', N, s') w) := by
  have h1 := h.alloc g (.cells #[.int .i64 k, .int .i64 fr, .int .i64 td, .int .i64 a, .int .i64 b] 108)
  have hR := Blk.newAt w 108 #[.int .i64 k, .int .i64 fr, .int .i64 td, .int .i64 a, .int .i64 b] w.heap.size rfl
  have hC1 : capB _ C _ := Blk.alloc hC (.cells #[.int .i64 k, .int .i64 fr, .int .i64 td, .int .i64 a, .int .i64 b] 108)
  have hf := (Fr.refl (Tr base D E) w).alloc (.cells #[.int .i64 k, .int .i64 fr, .int .i64 td, .int .i64 a, .int .i64 b] 108)
  have x3 := Blk.cell h1.1 3
  have c0 := Blk.cell hC1 0
  simp only [List.getElem?_toArray, List.getElem?_cons_zero, List.getElem?_cons_succ] at x3 c0
  obtain ⟨ph, xb, xt, xr⟩ := x
  cases xr
  · have HQ := hide (hq rfl _ h1.1 h1.2.1)
    simp only at x3
    clear hb hq
    go_enter Try.func97, Try.ntmps97
    go_wp2_with (go_at_call 102; refine HQ.out.mono ?_; rintro e w1 ⟨rfl, k1, k2, k3⟩)
    go_end0
    exact ⟨rfl, h1.quiet g k1 k2 k3, hf.tr (k3.quiet g)⟩
  · obtain ⟨rfl, rfl⟩ := hb rfl
    simp only at x3
    clear hq
    go_enter Try.func97, Try.ntmps97
    go_wp2
    go_end0
    exact ⟨rfl, h1, hf⟩

end Go.Proofs.Ytchhkokpjdkkiaa

namespace Go.Proofs.Ytchhkokpjdkkiaa
open Go.RowKit

theorem Bk.drew {w : World} {E base : Nat} {A : Option Addr} {N : List No} (h : Bk w E base A N) : Bk w.drew E base A N := by
  obtain ⟨n, c, h1, h2, h3⟩ := h
  exact ⟨n, c, h1.drew, h2.drew, h3⟩
theorem nil_hear (E : Nat) (w : World) : (nilAhead 344 157 (.pointer (some ⟨E, 0, none⟩)) "waveplate/optics.hear").run Try.prog w = .ok (some false) w := by kernel_rfl
theorem mth_hear (E : Nat) (w : World) : (method 344 157 (.pointer (some ⟨E, 0, none⟩)) "waveplate/optics.hear").run Try.prog w = .ok (152, .pointer (some ⟨E, 0, none⟩)) w := by kernel_rfl

set_option maxRecDepth 100000 in
set_option maxHeartbeats 3200000 in
theorem blind_c (k fr td a b : Int) (sl : Nat) (base X D E : Nat) (x : Li) (s : Nat) (N : List No) (w : World) (h : Sta w base X D E x s N) (g : Geo base X D E) (hN : N.length ≤ 900000) (hbase : base ≤ w.heap.size) :
    Calls Try.prog 105 #[.agg #[.int .i64 k, .int .i64 fr, .int .i64 td, .int .i64 a, .int .i64 b], .int .i64 sl, .pointer (some ⟨X, 0, none⟩), .pointer (some ⟨D, 0, none⟩), .iface 157 (.pointer (some ⟨E, 0, none⟩))] w
      (SAct base X D E (⟨0, a, b == 1, true⟩, N ++ [⟨sl, 3, a, b == 1⟩], s) w) := by
  obtain ⟨h1, h2, A, h3, h4⟩ := h
  have hlX := Blk.lt h1
  have hlD := Blk.lt h2
  have x1 := h1.alloc (.cells #[.int .i64 k, .int .i64 fr, .int .i64 td, .int .i64 a, .int .i64 b] 108)
  go_enter Try.func105, Try.ntmps105
  go_upto_region 2 with (refine wl_store (o := ⟨none, _, _, _, _, _⟩) rfl 165 _ _ rfl X #[.int .i64 0, .int .i64 a, .bool (b == 1), .bool true] rfl rfl 165 _ x1 (by kernel_rfl) rfl (by simp [Value.oneCell']) ?_; intro w2 hX2 hg2)
  have f2 : Fr (fun i => i = X) w w2 := ((Fr.refl _ w).alloc _).trans (Fr.of_grown (T := fun i => i = X) hg2 (fun k e => by injection e with e; exact e.symm)) (fun _ _ c => c)
  have d2 : Dr w2 D s := Blk.fr h2 f2 (by have := g.1; have := g.2.1; omega)
  have b2 : Bk w2 E base A N := h3.fr f2 (by have := g.1; have := g.2.2.1; omega) (fun q hq e => h4 (by rw [hq, e]))
  have hh := hear_c E base A N ⟨sl, 3, a, b == 1⟩ w2.drew b2.drew (by omega) (by have := f2.size; show base ≤ w2.heap.size; omega)
  have HK := hide (fun (e : Ending) (w' : World) (k : SHear E base A (N ++ [⟨sl, 3, a, b == 1⟩]) w2.drew e w') => Sta.hear (x := ⟨0, a, b == 1, true⟩) (w := w2.drew) hX2 d2 b2.drew h4 g k)
  have F2 : Fr (Tr base D E) w w2.drew := (f2.imp (fun i _ c => by subst c; exact Or.inl g.1)).drew
  have z1 := hX2.cell 1
  have z2 := hX2.cell 2
  simp only [List.getElem?_toArray, List.getElem?_cons_zero, List.getElem?_cons_succ] at z1 z2
  simp only at hh
  have HH := hide hh
  have hn := nil_hear E
  have hm := mth_hear E
  clear hh x1 h1 h2 h3 h4
  go_region_held3 (fun w' => w'.cell? ⟨X, 1, none⟩ = some (.int .i64 a) ∧ w'.cell? ⟨X, 2, none⟩ = some (.bool (b == 1))) (first | exact ⟨z1, z2⟩ | exact ⟨by simpa using Blk.cell hst.1 1, by simpa using Blk.cell hst.1 2⟩)
    (first | (go_at_call 152; refine HH.out.mono ?_; rintro e w3 hs; obtain ⟨rfl, hst, hfr⟩ := HK.out _ _ hs))
  go_end0
  exact ⟨rfl, hst, F2.tr hfr⟩
end Go.Proofs.Ytchhkokpjdkkiaa
