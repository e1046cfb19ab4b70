/- Contracts of what rules do with light that is not bright: loss, noise, late, starve. -/
import Derived.Test.YthdidjnhfkeokaaDoorVb
import Derived.Test.YthdidjnhfkeokaaDoorQq
namespace Go.Proofs.YthdidjnhfkeokaaDoor
open Go.RowKit

def liB (w : World) (X : Nat) (x : Li) : Prop := Blk w X 144 #[.int .i64 x.ph, .int .i64 x.b, .bool x.bit, .bool x.bright]
/-- Behind such a rule: the light, the draws; blocks X and D aside all is as it was. -/
def SQ (X D : Nat) (x : Li) (s : Nat) (w : World) (e : Ending) (w' : World) : Prop :=
  e = .returned (.tuple #[]) ∧ liB w' X x ∧ Dr w' D s ∧ Fr (fun i => i = X ∨ i = D) w w'
theorem Fr.chance {w w1 w2 : World} {X D : Nat} (h : Fr (fun i => i = X ∨ i = D) w w1) (g : w1.grownBy w2 (some D)) : Fr (fun i => i = X ∨ i = D) w w2 :=
  h.trans (Fr.of_grown (T := fun i => i = D) g (fun k e => by injection e with e; exact e.symm)) (fun _ _ c => Or.inr c)
def lossS (a : Int) (s k : Nat) : Int := ((lossF a s k).1 : Nat)
theorem lossS_yes {a : Int} {s k : Nat} (h : (bel (lossF a s k).2 256 : Int) < a) : lossS a s (k + 1) = lossS a s k + 1 := by
  unfold lossS; rw [lossF, if_pos (by unfold hit; exact decide_eq_true h)]; rfl
theorem lossS_no {a : Int} {s k : Nat} (h : ¬ (bel (lossF a s k).2 256 : Int) < a) : lossS a s (k + 1) = lossS a s k := by
  unfold lossS; rw [lossF, if_neg (by unfold hit; simp only [decide_eq_true_eq]; exact h)]; rfl
theorem lossS_le (a : Int) (s k : Nat) : 0 ≤ lossS a s k ∧ lossS a s k ≤ k := by
  have := lossF_le a s k; unfold lossS; omega
theorem lossF_snd (a : Int) (s k : Nat) : (lossF a s (k + 1)).2 = nx (lossF a s k).2 := rfl

set_option maxRecDepth 100000 in
set_option maxHeartbeats 3200000 in
theorem loss_c (k fr td a b : Int) (X D s P : Nat) (xb : Int) (xt : Bool) (w : World) (hX : liB w X ⟨P, xb, xt, false⟩) (hD : Dr w D s) (hXD : X ≠ D) (hP : P ≤ 3) :
    Calls Tryd.prog 94 #[.agg #[.int .i64 k, .int .i64 fr, .int .i64 td, .int .i64 a, .int .i64 b], .pointer (some ⟨X, 0, none⟩), .pointer (some ⟨D, 0, none⟩)] w
      (SQ X D ⟨P - lossS a s P, xb, xt, false⟩ (lossF a s P).2 w) := by
  have hDX : D ≠ X := fun e => hXD e.symm
  have hlX := hX.lt
  have hlD := Blk.lt hD
  go_enter Tryd.func94, Tryd.ntmps94
  go_upto_region 1 with fail
  have hR := Blk.newAt w 62 #[.int .i64 k, .int .i64 fr, .int .i64 td, .int .i64 a, .int .i64 b] w.heap.size rfl
  have hX1 : liB _ X _ := hX.alloc (.cells #[.int .i64 k, .int .i64 fr, .int .i64 td, .int .i64 a, .int .i64 b] 62)
  have hD1 : Dr _ D s := Blk.alloc hD (.cells #[.int .i64 k, .int .i64 fr, .int .i64 td, .int .i64 a, .int .i64 b] 62)
  have hf1 := (Fr.refl (fun i => i = X ∨ i = D) w).alloc (.cells #[.int .i64 k, .int .i64 fr, .int .i64 td, .int .i64 a, .int .i64 b] 62)
  obtain ⟨W, hW⟩ : ∃ W, W = w.alloc (.cells #[.int .i64 k, .int .i64 fr, .int .i64 td, .int .i64 a, .int .i64 b] 62) := ⟨_, rfl⟩
  rw [← hW] at hR hX1 hD1 hf1 ⊢
  clear hW hX hD
  obtain ⟨gR, hgR⟩ : ∃ g, g = w.heap.size := ⟨_, rfl⟩
  rw [← hgR] at hR ⊢
  have hRD : gR ≠ D := by omega
  have hRX : gR ≠ X := by omega
  clear hgR
  have x0 := hX1.cell 0
  simp only [List.getElem?_toArray, List.getElem?_cons_zero] at x0
  go_wp2
  go_loopw [10] (fun iv wr => ∃ i : Nat, i ≤ P ∧ iv = .int .i64 i ∧ liB wr X ⟨P - lossS a s i, xb, xt, false⟩ ∧ Dr wr D (lossF a s i).2 ∧ Blk wr gR 62 #[.int .i64 k, .int .i64 fr, .int .i64 td, .int .i64 a, .int .i64 b] ∧ Fr (fun i => i = X ∨ i = D) w wr) (fun iv _ => P - (intOf iv).toNat)
  case atStart => exact ⟨0, by omega, rfl, by simpa [lossS, lossF] using hX1, hD1, hR, hf1⟩
  case round =>
    clear x0 hX1 hD1 hR hf1
    obtain ⟨i, hi, rfl, hX1, hD1, hR, hf1⟩ := hrel
    by_cases hlt : i < P
    · have r3 := hR.cell 3
      have x0 := hX1.cell 0
      simp only [List.getElem?_toArray, List.getElem?_cons_zero, List.getElem?_cons_succ] at x0 r3
      have hle := lossS_le a s i
      obtain ⟨q, hq⟩ : ∃ q, lossS a s i = q := ⟨_, rfl⟩
      rw [hq] at hle x0 hX1
      have HQ := hide hq
      have hq0 : (0 : Int) ≤ (P : Int) - q := by omega
      have hq1 : (P : Int) - q ≤ 3 := by omega
      have hq2 : (0 : Int) < (P : Int) - q := by omega
      clear hq hle
      have hch := fun W (h : Dr W D (lossF a s i).2) => chance_c D (lossF a s i).2 a W h
      by_cases hit : (bel (lossF a s i).2 256 : Int) < a
      · have HS := hide (lossS_yes hit)
        simp only [decide_eq_true hit] at hch
        have HCH := hide hch
        clear hch hit
        go_wp2_with (go_at_call 95; refine (HCH.out _ hD1).mono ?_; rintro e w1 ⟨rfl, hD2, hg⟩; have hX2 : liB w1 X _ := hX1.grown hg (by simpa using hXD); have x2 := hX2.cell 0; have xf2 := hX2.frozen 0; simp only [List.getElem?_toArray, List.getElem?_cons_zero] at x2)
        go_roundw
        case rel => exact ⟨i + 1, by omega, by go_num, by have := hX2.set_ 0 (.int .i64 ((P : Int) - q - 1)); rw [HS.out, HQ.out, show (P : Int) - (q + 1) = P - q - 1 by omega]; simpa [liB] using this, Dr.far hD2 hDX _, (hR.grown hg (by simpa using hRD)).far hRX _, (hf1.chance hg).setCell (fun _ => Or.inl rfl) _⟩
        case measure => simp [intOf] <;> omega
      · have HS := hide (lossS_no hit)
        simp only [decide_eq_false hit] at hch
        have HCH := hide hch
        clear hch hit
        go_wp2_with (go_at_call 95; refine (HCH.out _ hD1).mono ?_; rintro e w1 ⟨rfl, hD2, hg⟩; have hX2 : liB w1 X _ := hX1.grown hg (by simpa using hXD))
        go_roundw
        case rel => exact ⟨i + 1, by omega, by go_num, by rw [HS.out, HQ.out]; exact hX2, hD2, hR.grown hg (by simpa using hRD), hf1.chance hg⟩
        case measure => simp [intOf] <;> omega
    · obtain rfl : i = P := by omega
      go_wp2
      go_end0
      exact ⟨rfl, hX1, hD1, hf1⟩

/-- The light behind noise. -/
def noiF (a : Int) (s P : Nat) (xb : Int) (xt : Bool) : Li × Nat := if 0 < P then (if (bel s 256 : Int) < a then (⟨P, xb, !xt, false⟩, nx s) else (⟨P, xb, xt, false⟩, nx s)) else (⟨P, xb, xt, false⟩, s)
theorem noiF_hit {a xb : Int} {s P : Nat} {xt : Bool} (h : 0 < P) (h2 : (bel s 256 : Int) < a) : noiF a s P xb xt = (⟨P, xb, !xt, false⟩, nx s) := by unfold noiF; rw [if_pos h, if_pos h2]
theorem noiF_miss {a xb : Int} {s P : Nat} {xt : Bool} (h : 0 < P) (h2 : ¬ (bel s 256 : Int) < a) : noiF a s P xb xt = (⟨P, xb, xt, false⟩, nx s) := by unfold noiF; rw [if_pos h, if_neg h2]
theorem noiF_none {a xb : Int} {s P : Nat} {xt : Bool} (h : ¬ 0 < P) : noiF a s P xb xt = (⟨P, xb, xt, false⟩, s) := by unfold noiF; rw [if_neg h]
def staF (a : Int) (s P : Nat) (xb : Int) (xt : Bool) : Li × Nat := if P = 1 then (if (bel s 256 : Int) < a then (⟨0, xb, xt, false⟩, nx s) else (⟨P, xb, xt, false⟩, nx s)) else (⟨P, xb, xt, false⟩, s)
theorem staF_hit {a xb : Int} {s P : Nat} {xt : Bool} (h : P = 1) (h2 : (bel s 256 : Int) < a) : staF a s P xb xt = (⟨0, xb, xt, false⟩, nx s) := by unfold staF; rw [if_pos h, if_pos h2]
theorem staF_miss {a xb : Int} {s P : Nat} {xt : Bool} (h : P = 1) (h2 : ¬ (bel s 256 : Int) < a) : staF a s P xb xt = (⟨P, xb, xt, false⟩, nx s) := by unfold staF; rw [if_pos h, if_neg h2]
theorem staF_none {a xb : Int} {s P : Nat} {xt : Bool} (h : ¬ P = 1) : staF a s P xb xt = (⟨P, xb, xt, false⟩, s) := by unfold staF; rw [if_neg h]
set_option maxRecDepth 100000 in
set_option maxHeartbeats 3200000 in
theorem noise_c (k fr td a b : Int) (X D s P : Nat) (xb : Int) (xt : Bool) (w : World) (hX : liB w X ⟨P, xb, xt, false⟩) (hD : Dr w D s) (hXD : X ≠ D) (hP : P ≤ 3) :
    Calls Tryd.prog 96 #[.agg #[.int .i64 k, .int .i64 fr, .int .i64 td, .int .i64 a, .int .i64 b], .pointer (some ⟨X, 0, none⟩), .pointer (some ⟨D, 0, none⟩)] w
      (SQ X D (noiF a s P xb xt).1 (noiF a s P xb xt).2 w) := by
  have hDX : D ≠ X := fun e => hXD e.symm
  have hlX := hX.lt
  have hlD := Blk.lt hD
  go_enter Tryd.func96, Tryd.ntmps96
  go_upto_region 1 with fail
  have hR := Blk.newAt w 62 #[.int .i64 k, .int .i64 fr, .int .i64 td, .int .i64 a, .int .i64 b] w.heap.size rfl
  have hX1 : liB _ X _ := hX.alloc (.cells #[.int .i64 k, .int .i64 fr, .int .i64 td, .int .i64 a, .int .i64 b] 62)
  have hD1 : Dr _ D s := Blk.alloc hD (.cells #[.int .i64 k, .int .i64 fr, .int .i64 td, .int .i64 a, .int .i64 b] 62)
  have hf1 := (Fr.refl (fun i => i = X ∨ i = D) w).alloc (.cells #[.int .i64 k, .int .i64 fr, .int .i64 td, .int .i64 a, .int .i64 b] 62)
  obtain ⟨W, hW⟩ : ∃ W, W = w.alloc (.cells #[.int .i64 k, .int .i64 fr, .int .i64 td, .int .i64 a, .int .i64 b] 62) := ⟨_, rfl⟩
  rw [← hW] at hR hX1 hD1 hf1 ⊢
  clear hW hX hD
  obtain ⟨gR, hgR⟩ : ∃ g, g = w.heap.size := ⟨_, rfl⟩
  rw [← hgR] at hR ⊢
  have hRD : gR ≠ D := by omega
  have hRX : gR ≠ X := by omega
  clear hgR
  have x0 := hX1.cell 0
  have x2 := hX1.cell 2
  have r3 := hR.cell 3
  simp only [List.getElem?_toArray, List.getElem?_cons_zero, List.getElem?_cons_succ] at x0 x2 r3
  by_cases hp : 0 < P
  · have hch := fun W (h : Dr W D s) => chance_c D s a W h
    by_cases hit : (bel s 256 : Int) < a
    · have HS := hide (noiF_hit (xb := xb) (xt := xt) hp hit)
      simp only [decide_eq_true hit] at hch
      have HCH := hide hch
      clear hch hit
      have hpp : (0 : Int) < (P : Int) := by omega
      go_wp2_with (go_at_call 95; refine (HCH.out _ hD1).mono ?_; rintro e w1 ⟨rfl, hD2, hg⟩; have hX2 : liB w1 X _ := hX1.grown hg (by simpa using hXD); have y0 := hX2.cell 0; have y2 := hX2.cell 2; have yf := hX2.frozen 2; have yf0 := hX2.frozen 0; simp only [List.getElem?_toArray, List.getElem?_cons_zero, List.getElem?_cons_succ] at y0 y2)
      go_end0
      refine ⟨rfl, ?_, by rw [HS.out]; exact Dr.far hD2 hDX _, (hf1.chance hg).setCell (fun _ => Or.inl rfl) _⟩
      rw [HS.out]
      have := hX2.set_ 2 (.bool (!xt))
      simpa [liB] using this
    · have HS := hide (noiF_miss (xb := xb) (xt := xt) hp hit)
      simp only [decide_eq_false hit] at hch
      have HCH := hide hch
      clear hch hit
      have hpp : (0 : Int) < (P : Int) := by omega
      go_wp2_with (go_at_call 95; refine (HCH.out _ hD1).mono ?_; rintro e w1 ⟨rfl, hD2, hg⟩; have hX2 : liB w1 X _ := hX1.grown hg (by simpa using hXD); have y0 := hX2.cell 0; have y2 := hX2.cell 2; have yf := hX2.frozen 2; have yf0 := hX2.frozen 0; simp only [List.getElem?_toArray, List.getElem?_cons_zero, List.getElem?_cons_succ] at y0 y2)
      go_end0
      exact ⟨rfl, by rw [HS.out]; exact hX2, by rw [HS.out]; exact hD2, hf1.chance hg⟩
  · have HS := hide (noiF_none (a := a) (s := s) (xb := xb) (xt := xt) hp)
    have hpp : ¬ (0 : Int) < (P : Int) := by omega
    go_wp2
    go_end0
    exact ⟨rfl, by rw [HS.out]; exact hX1, by rw [HS.out]; exact hD1, hf1⟩
set_option maxRecDepth 100000 in
set_option maxHeartbeats 3200000 in
theorem starve_c (k fr td a b : Int) (X D s P : Nat) (xb : Int) (xt : Bool) (w : World) (hX : liB w X ⟨P, xb, xt, false⟩) (hD : Dr w D s) (hXD : X ≠ D) (_hP : P ≤ 3) :
    Calls Tryd.prog 98 #[.agg #[.int .i64 k, .int .i64 fr, .int .i64 td, .int .i64 a, .int .i64 b], .pointer (some ⟨X, 0, none⟩), .pointer (some ⟨D, 0, none⟩)] w
      (SQ X D (staF a s P xb xt).1 (staF a s P xb xt).2 w) := by
  have hDX : D ≠ X := fun e => hXD e.symm
  have hlX := hX.lt
  have hlD := Blk.lt hD
  go_enter Tryd.func98, Tryd.ntmps98
  go_upto_region 1 with fail
  have hR := Blk.newAt w 62 #[.int .i64 k, .int .i64 fr, .int .i64 td, .int .i64 a, .int .i64 b] w.heap.size rfl
  have hX1 : liB _ X _ := hX.alloc (.cells #[.int .i64 k, .int .i64 fr, .int .i64 td, .int .i64 a, .int .i64 b] 62)
  have hD1 : Dr _ D s := Blk.alloc hD (.cells #[.int .i64 k, .int .i64 fr, .int .i64 td, .int .i64 a, .int .i64 b] 62)
  have hf1 := (Fr.refl (fun i => i = X ∨ i = D) w).alloc (.cells #[.int .i64 k, .int .i64 fr, .int .i64 td, .int .i64 a, .int .i64 b] 62)
  obtain ⟨W, hW⟩ : ∃ W, W = w.alloc (.cells #[.int .i64 k, .int .i64 fr, .int .i64 td, .int .i64 a, .int .i64 b] 62) := ⟨_, rfl⟩
  rw [← hW] at hR hX1 hD1 hf1 ⊢
  clear hW hX hD
  obtain ⟨gR, hgR⟩ : ∃ g, g = w.heap.size := ⟨_, rfl⟩
  rw [← hgR] at hR ⊢
  have hRD : gR ≠ D := by omega
  have hRX : gR ≠ X := by omega
  clear hgR
  have x0 := hX1.cell 0
  have x2 := hX1.cell 2
  have r3 := hR.cell 3
  simp only [List.getElem?_toArray, List.getElem?_cons_zero, List.getElem?_cons_succ] at x0 x2 r3
  by_cases hp : P = 1
  · have hch := fun W (h : Dr W D s) => chance_c D s a W h
    by_cases hit : (bel s 256 : Int) < a
    · have HS := hide (staF_hit (xb := xb) (xt := xt) hp hit)
      simp only [decide_eq_true hit] at hch
      have HCH := hide hch
      clear hch hit
      have hpp : ((P : Int) == 1) = true := by simp; omega
      clear hp
      go_wp2_with (go_at_call 95; refine (HCH.out _ hD1).mono ?_; rintro e w1 ⟨rfl, hD2, hg⟩; have hX2 : liB w1 X _ := hX1.grown hg (by simpa using hXD); have y0 := hX2.cell 0; have y2 := hX2.cell 2; have yf := hX2.frozen 2; have yf0 := hX2.frozen 0; simp only [List.getElem?_toArray, List.getElem?_cons_zero, List.getElem?_cons_succ] at y0 y2)
      go_end0
      refine ⟨rfl, ?_, by rw [HS.out]; exact Dr.far hD2 hDX _, (hf1.chance hg).setCell (fun _ => Or.inl rfl) _⟩
      rw [HS.out]
      have := hX2.set_ 0 (.int .i64 0)
      simpa [liB] using this
    · have HS := hide (staF_miss (xb := xb) (xt := xt) hp hit)
      simp only [decide_eq_false hit] at hch
      have HCH := hide hch
      clear hch hit
      have hpp : ((P : Int) == 1) = true := by simp; omega
      clear hp
      go_wp2_with (go_at_call 95; refine (HCH.out _ hD1).mono ?_; rintro e w1 ⟨rfl, hD2, hg⟩; have hX2 : liB w1 X _ := hX1.grown hg (by simpa using hXD); have y0 := hX2.cell 0; have y2 := hX2.cell 2; have yf := hX2.frozen 2; have yf0 := hX2.frozen 0; simp only [List.getElem?_toArray, List.getElem?_cons_zero, List.getElem?_cons_succ] at y0 y2)
      go_end0
      exact ⟨rfl, by rw [HS.out]; exact hX2, by rw [HS.out]; exact hD2, hf1.chance hg⟩
  · have HS := hide (staF_none (a := a) (s := s) (xb := xb) (xt := xt) hp)
    have hpp : ((P : Int) == 1) = false := by simp; omega
    clear hp
    go_wp2
    go_end0
    exact ⟨rfl, by rw [HS.out]; exact hX1, by rw [HS.out]; exact hD1, hf1⟩
set_option maxRecDepth 100000 in
set_option maxHeartbeats 3200000 in
theorem late_c (k fr td a b : Int) (X D s : Nat) (x : Li) (w : World) (hX : liB w X x) (hD : Dr w D s) :
    Calls Tryd.prog 97 #[.agg #[.int .i64 k, .int .i64 fr, .int .i64 td, .int .i64 a, .int .i64 b], .pointer (some ⟨X, 0, none⟩), .pointer (some ⟨D, 0, none⟩)] w (SQ X D x s w) := by
  go_enter Tryd.func97, Tryd.ntmps97
  go_wp2
  go_end0
  exact ⟨rfl, hX.alloc _, Blk.alloc hD _, (Fr.refl _ _).alloc _⟩
end Go.Proofs.YthdidjnhfkeokaaDoor
