/- The plain model of detection; the contract of optics.side, optics.click. -/
import Derived.Test.YtchhkokpjdkkiaaTopSiftsa03
namespace Go.Proofs.Ytchhkokpjdkkiaa
open Go.RowKit

def fire (f : Bool × Bool) (bit : Bool) : Bool × Bool := if bit then (f.1, true) else (true, f.2)
/-- One photon at the detectors: what has fired, and the state of the draws. -/
def phot (eta b : Int) (x : Li) (t : (Bool × Bool) × Nat) : (Bool × Bool) × Nat :=
  if (bel t.2 256 : Int) < eta then
    (if b = x.b then (fire t.1 x.bit, nx t.2) else (fire t.1 (decide (bel (nx t.2) 2 = 1)), nx (nx t.2)))
  else (t.1, nx t.2)
def phots (eta b : Int) (x : Li) (s : Nat) : Nat → (Bool × Bool) × Nat
  | 0 => ((false, false), s)
  | k + 1 => phot eta b x (phots eta b x s k)
def knd (z o : Bool) : Int := (if z then 1 else 0) + (if o then 2 else 0)
/-- What the receiver sees of a slot, and the state behind it. -/
def detF (eta dark : Int) (x : Li) (s : Nat) : Ck × Nat :=
  if x.bright then (⟨(bel s 2 : Int), if (bel s 2 : Int) = x.b then (if x.bit then 2 else 1) else 0⟩, nx s)
  else
    (⟨(bel s 2 : Int), knd ((phots eta (bel s 2 : Int) x (nx s) x.ph.toNat).1.1 || decide ((bel (phots eta (bel s 2 : Int) x (nx s) x.ph.toNat).2 256 : Int) < dark))
        ((phots eta (bel s 2 : Int) x (nx s) x.ph.toNat).1.2 || decide ((bel (nx (phots eta (bel s 2 : Int) x (nx s) x.ph.toNat).2) 256 : Int) < dark))⟩,
      nx (nx (phots eta (bel s 2 : Int) x (nx s) x.ph.toNat).2))

set_option maxRecDepth 100000 in
set_option maxHeartbeats 1600000 in
theorem side_c (b : Bool) (w : World) : Calls Try.prog 107 #[.bool b] w fun e w' => e = .returned (.int .i64 (if b then 1 else 0)) ∧ w = w' := by
  cases b
  · go_enter Try.func107, Try.ntmps107
    go_wp2
    go_ret
    exact ⟨rfl, rfl⟩
  · go_enter Try.func107, Try.ntmps107
    go_wp2
    go_ret
    exact ⟨rfl, rfl⟩

theorem detF_bright {eta dark : Int} {x : Li} {s : Nat} (h : x.bright = true) : detF eta dark x s = (⟨(bel s 2 : Int), if (bel s 2 : Int) = x.b then (if x.bit then 2 else 1) else 0⟩, nx s) := by unfold detF; rw [if_pos h]
/-- Both detectors fire by themselves, one after the other. -/
def dk (dark : Int) (t : (Bool × Bool) × Nat) : Nat → (Bool × Bool) × Nat
  | 0 => t
  | 1 => ((t.1.1 || decide ((bel t.2 256 : Int) < dark), t.1.2), nx t.2)
  | _ => ((t.1.1 || decide ((bel t.2 256 : Int) < dark), t.1.2 || decide ((bel (nx t.2) 256 : Int) < dark)), nx (nx t.2))
theorem detF_dull {eta dark : Int} {x : Li} {s : Nat} (h : x.bright = false) : detF eta dark x s = (⟨(bel s 2 : Int), knd (dk dark (phots eta (bel s 2 : Int) x (nx s) x.ph.toNat) 2).1.1 (dk dark (phots eta (bel s 2 : Int) x (nx s) x.ph.toNat) 2).1.2⟩, (dk dark (phots eta (bel s 2 : Int) x (nx s) x.ph.toNat) 2).2) := by
  unfold detF; rw [if_neg (by simp [h])]; rfl
theorem dk_one (e : Int) (t : (Bool × Bool) × Nat) : dk e t (0 + 1) = (((dk e t 0).1.1 || decide ((bel (dk e t 0).2 256 : Int) < e), (dk e t 0).1.2), nx (dk e t 0).2) := rfl
theorem dk_two (e : Int) (t : (Bool × Bool) × Nat) : dk e t (1 + 1) = (((dk e t 1).1.1, (dk e t 1).1.2 || decide ((bel (dk e t 1).2 256 : Int) < e)), nx (dk e t 1).2) := rfl
def SClick (eta dark : Int) (x : Li) (D s : Nat) (w : World) (e : Ending) (w' : World) : Prop :=
  e = .returned (.agg #[.int .i64 (detF eta dark x s).1.b, .int .i64 (detF eta dark x s).1.k]) ∧ Dr w' D (detF eta dark x s).2 ∧ w.grownBy w' (some D)
theorem Dr.alloc {w : World} {D s : Nat} (h : Dr w D s) (o : Obj) : Dr (w.alloc o) D s := Blk.alloc h o
theorem Dr.drew {w : World} {D s : Nat} (h : Dr w D s) : Dr w.drew D s := h
theorem Dr.drewN {w : World} {D s : Nat} (h : Dr w D s) (n : Nat) : Dr (w.drewN n) D s := h
theorem Dr.far {w : World} {D s : Nat} (h : Dr w D s) {p : Addr} (hp : D ≠ p.block) (u : Value) : Dr (w.setCell p u) D s := Blk.far h hp u
theorem grownBy_alloc {w w' : World} {row : Option Nat} (h : w.grownBy w' row) (o : Obj) : w.grownBy (w'.alloc o) row := h.trans (World.grownBy_alloc w' o row)
theorem grownBy_set {w w' : World} {D : Nat} (h : w.grownBy w' (some D)) {p : Addr} (hp : w.heap.size ≤ p.block) (u : Value) : w.grownBy (w'.setCell p u) (some D) :=
  ⟨h.os, h.tape, h.output, by simpa [World.setCell] using h.size, fun i hi hne => (Below.heap_setCell w' p u i (fun e => by omega)).trans (h.block i hi hne)⟩

set_option maxRecDepth 100000 in
set_option maxHeartbeats 6400000 in
theorem click_c (f : Nat → Int) (x : Li) (D s : Nat) (w : World) (h : Dr w D s) (hp : 0 ≤ x.ph ∧ x.ph ≤ 3) :
    Calls Try.prog 70 #[.agg (cells18 f), .agg #[.int .i64 x.ph, .int .i64 x.b, .bool x.bit, .bool x.bright], .pointer (some ⟨D, 0, none⟩)] w (SClick (f 16) (f 17) x D s w) := by
  obtain ⟨xp, xb, xbit, xbr⟩ := x
  simp only at hp
  obtain ⟨P, rfl⟩ := Int.eq_ofNat_of_zero_le hp.1
  have hP : P ≤ 3 := by omega
  clear hp
  have hlt := Blk.lt h
  have O1 := ((Blk.newAt w 57 (cells18 f) w.heap.size rfl).alloc (.cells #[.int .i64 (P : Int), .int .i64 xb, .bool xbit, .bool xbr] 165)).alloc (.cells #[.int .i64 0, .int .i64 0] 81)
  have X1 := (Blk.newAt (w.alloc (.cells (cells18 f) 57)) 165 #[.int .i64 (P : Int), .int .i64 xb, .bool xbit, .bool xbr] (w.heap.size + 1) (by simp)).alloc (.cells #[.int .i64 0, .int .i64 0] 81)
  have R1 := Blk.newAt ((w.alloc (.cells (cells18 f) 57)).alloc (.cells #[.int .i64 (P : Int), .int .i64 xb, .bool xbit, .bool xbr] 165)) 81 #[.int .i64 0, .int .i64 0] (w.heap.size + 2) (by simp)
  have D1 := ((h.alloc (.cells (cells18 f) 57)).alloc (.cells #[.int .i64 (P : Int), .int .i64 xb, .bool xbit, .bool xbr] 165)).alloc (.cells #[.int .i64 0, .int .i64 0] 81)
  have G1 := grownBy_alloc (grownBy_alloc (grownBy_alloc (World.grownBy.refl w (some D)) (.cells (cells18 f) 57)) (.cells #[.int .i64 (P : Int), .int .i64 xb, .bool xbit, .bool xbr] 165)) (.cells #[.int .i64 0, .int .i64 0] 81)
  have hz1 : (((w.alloc (.cells (cells18 f) 57)).alloc (.cells #[.int .i64 (P : Int), .int .i64 xb, .bool xbit, .bool xbr] 165)).alloc (.cells #[.int .i64 0, .int .i64 0] 81)).heap.size = w.heap.size + 3 := by simp
  have hbel := bel_lt s 2 (by omega)
  obtain ⟨b, hb⟩ : ∃ b : Int, b = (bel s 2 : Int) := ⟨_, rfl⟩
  have hcall := below_c D s 2 _ D1 (by omega) (by omega)
  rw [← hb] at hcall
  have HB := hide hb
  clear hb hbel
  go_enter Try.func70, Try.ntmps70
  go_upto_region 3 with (go_at_call 106; refine hcall.mono ?_; rintro e w1 ⟨rfl, D2, hg1⟩)
  have hs1 := hg1.size
  rw [hz1] at hs1
  have O2 := ((O1.grown hg1 (by simp; omega)).alloc (.cells #[.int .i64 b, .int .i64 0] 81)).alloc (.cells #[.bool false, .bool false] 203)
  have X2 := ((X1.grown hg1 (by simp; omega)).alloc (.cells #[.int .i64 b, .int .i64 0] 81)).alloc (.cells #[.bool false, .bool false] 203)
  have R2 := ((R1.grown hg1 (by simp; omega)).alloc (.cells #[.int .i64 b, .int .i64 0] 81)).alloc (.cells #[.bool false, .bool false] 203)
  have C2 := (Blk.newAt w1 81 #[.int .i64 b, .int .i64 0] w1.heap.size rfl).alloc (.cells #[.bool false, .bool false] 203)
  have F2 := Blk.newAt (w1.alloc (.cells #[.int .i64 b, .int .i64 0] 81)) 203 #[.bool false, .bool false] (w1.heap.size + 1) (by simp)
  have D3 := (D2.alloc (.cells #[.int .i64 b, .int .i64 0] 81)).alloc (.cells #[.bool false, .bool false] 203)
  have G3 := grownBy_alloc (grownBy_alloc (G1.trans hg1) (.cells #[.int .i64 b, .int .i64 0] 81)) (.cells #[.bool false, .bool false] 203)
  obtain ⟨W, hW⟩ : ∃ W, W = (w1.alloc (.cells #[.int .i64 b, .int .i64 0] 81)).alloc (.cells #[.bool false, .bool false] 203) := ⟨_, rfl⟩
  rw [← hW] at O2 X2 R2 C2 F2 D3 G3 ⊢
  clear hW O1 X1 R1 D1 G1 D2 hg1 hcall hz1
  obtain ⟨c, hc⟩ : ∃ c, c = w1.heap.size := ⟨_, rfl⟩
  rw [← hc] at C2 F2 hs1 ⊢
  clear hc
  obtain ⟨gF, hgF⟩ : ∃ g, g = c + 1 := ⟨_, rfl⟩
  obtain ⟨gO, hgO⟩ : ∃ g, g = w.heap.size := ⟨_, rfl⟩
  obtain ⟨gX, hgX⟩ : ∃ g, g = w.heap.size + 1 := ⟨_, rfl⟩
  obtain ⟨gR, hgR⟩ : ∃ g, g = w.heap.size + 2 := ⟨_, rfl⟩
  rw [← hgF] at F2
  rw [← hgX] at X2
  rw [← hgR] at R2
  rw [← hgO] at O2
  rw [show w.heap.size + 1 + 1 = gR from hgR.symm, ← hgF, ← hgX, ← hgO]
  have q01 : ¬ gO = gX := by omega
  have q02 : ¬ gO = gR := by omega
  have q03 : ¬ gO = c := by omega
  have q04 : ¬ gO = gF := by omega
  have q10 : ¬ gX = gO := by omega
  have q12 : ¬ gX = gR := by omega
  have q13 : ¬ gX = c := by omega
  have q14 : ¬ gX = gF := by omega
  have q20 : ¬ gR = gO := by omega
  have q21 : ¬ gR = gX := by omega
  have q23 : ¬ gR = c := by omega
  have q24 : ¬ gR = gF := by omega
  have q30 : ¬ c = gO := by omega
  have q31 : ¬ c = gX := by omega
  have q32 : ¬ c = gR := by omega
  have q34 : ¬ c = gF := by omega
  have q40 : ¬ gF = gO := by omega
  have q41 : ¬ gF = gX := by omega
  have q42 : ¬ gF = gR := by omega
  have q43 : ¬ gF = c := by omega
  have hX0 : w.heap.size ≤ gX := by omega
  have hR0 : w.heap.size ≤ gR := by omega
  have hC0 : w.heap.size ≤ c := by omega
  have hF0 : w.heap.size ≤ gF := by omega
  have d0 : ¬ D = gO := by omega
  have d1 : ¬ D = gX := by omega
  have d2 : ¬ D = gR := by omega
  have d3 : ¬ D = c := by omega
  have d4 : ¬ D = gF := by omega
  clear hgF hgO hgX hgR hs1 hlt
  have x0 := X2.cell 0
  have x1 := X2.cell 1
  have x2 := X2.cell 2
  have x3 := X2.cell 3
  have c0 := C2.cell 0
  have c1 := C2.cell 1
  have f0 := F2.cell 0
  have f1 := F2.cell 1
  have r0 := R2.cell 0
  have r1 := R2.cell 1
  have cz := C2.frozen
  have fz := F2.frozen
  have rz := R2.frozen
  have e0 := O2.cell 16
  have e1 := O2.cell 17
  rw [cells18_get f (by omega)] at e0 e1
  simp only [List.getElem?_toArray, List.getElem?_cons_zero, List.getElem?_cons_succ] at x0 x1 x2 x3 c0 c1 f0 f1 r0 r1
  cases xbr
  · have neF : some gF ≠ some D := by simp; omega
    have neO : some gO ≠ some D := by simp; omega
    have neX : some gX ≠ some D := by simp; omega
    have neC : some c ≠ some D := by simp; omega
    have neR : some gR ≠ some D := by simp; omega
    clear e0 e1 x0 x1 x2 x3 c0 c1 f0 f1 r0 r1 cz fz rz
    have x0 := X2.cell 0
    have x3 := X2.cell 3
    simp only [List.getElem?_toArray, List.getElem?_cons_zero, List.getElem?_cons_succ] at x0 x3
    go_wp2
    go_loopw [28, 9] (fun iv _ wr => ∃ k : Nat, k ≤ P ∧ iv = .int .i64 k ∧ Blk wr gF 203 #[.bool (phots (f 16) b ⟨(P : Int), xb, xbit, false⟩ (nx s) k).1.1, .bool (phots (f 16) b ⟨(P : Int), xb, xbit, false⟩ (nx s) k).1.2] ∧ Dr wr D (phots (f 16) b ⟨(P : Int), xb, xbit, false⟩ (nx s) k).2 ∧
        Blk wr gO 57 (cells18 f) ∧ Blk wr gX 165 #[.int .i64 (P : Int), .int .i64 xb, .bool xbit, .bool false] ∧ Blk wr c 81 #[.int .i64 b, .int .i64 0] ∧ Blk wr gR 81 #[.int .i64 0, .int .i64 0] ∧ w.grownBy wr (some D)) (fun iv _ _ => P - (intOf iv).toNat)
    case atStart => exact ⟨0, by omega, rfl, F2, D3, O2, X2, C2, R2, G3⟩
    case round =>
      clear F2 D3 O2 X2 C2 R2 G3 x0 x3
      obtain ⟨k, hk, rfl, hF, hD, hO, hX, hC, hR, hG⟩ := hrel
      have hGs := hG.size
      obtain ⟨z, o, t2, ht⟩ : ∃ z o t2, phots (f 16) b ⟨(P : Int), xb, xbit, false⟩ (nx s) k = ((z, o), t2) := ⟨_, _, _, rfl⟩
      rw [ht] at hF hD
      have HT := hide ht
      clear ht
      have e0 := hO.cell 16
      rw [cells18_get f (by omega)] at e0
      have xp := hX.cell 0
      simp only [List.getElem?_toArray, List.getElem?_cons_zero] at xp
      by_cases hlt : k < P
      · have hcc := chance_c D t2 (f 16) wr hD
        by_cases hch : (bel t2 256 : Int) < f 16
        · rw [decide_eq_true hch] at hcc
          have HCC := hide hcc
          have HCH := hide hch
          clear hcc hch
          go_wp2_with (go_at_call 99; refine HCC.out.mono ?_; rintro e w2 ⟨rfl, hD2, hg2⟩; refine Hid.out ?_)
          refine hide ?_
          have hF2 := hF.grown hg2 neF
          have hO2 := hO.grown hg2 neO
          have hX2 := hX.grown hg2 neX
          have hC2 := hC.grown hg2 neC
          have hR2 := hR.grown hg2 neR
          have hG2 := hG.trans hg2
          clear hF hO hX hC hR hG hg2 e0 xp HCC hD
          have a0 := hX2.cell 0
          have a1 := hX2.cell 1
          have a2 := hX2.cell 2
          have b0 := hC2.cell 0
          have fz := hF2.frozen
          have f0 := hF2.cell 0
          have f1 := hF2.cell 1
          simp only [List.getElem?_toArray, List.getElem?_cons_zero, List.getElem?_cons_succ] at a0 a1 a2 b0 f0 f1
          by_cases hbb : b = xb
          · have hbq : (b != xb) = false := by simpa using hbb
            have HBB := hide hbb
            clear hbb
            cases xbit
            · skip
              have HT2 := hide (show phots (f 16) b ⟨(P : Int), xb, false, false⟩ (nx s) (k + 1) = ((true, o), nx t2) by rw [phots, HT.out, phot, if_pos HCH.out, if_pos HBB.out]; rfl)
              go_wp2_with (go_at_call 107; refine (side_c _ _).mono ?_; rintro e w' ⟨rfl, rfl⟩)
              go_roundw
              case rel => first | exact ⟨k + 1, by omega, by go_num, by rw [HT2.out]; exact hF2.set_ 0 (.bool true), by rw [HT2.out]; exact hD2.far (p := ⟨gF, 0, none⟩) d4 _, hO2.far (p := ⟨gF, 0, none⟩) q04 _, hX2.far (p := ⟨gF, 0, none⟩) q14 _, hC2.far (p := ⟨gF, 0, none⟩) q34 _, hR2.far (p := ⟨gF, 0, none⟩) q24 _, grownBy_set (p := ⟨gF, 0, none⟩) hG2 hF0 _⟩ | ((repeat apply Exists.intro); exact ⟨⟨k + 1, by omega, by go_num, by rw [HT2.out]; exact hF2.set_ 0 (.bool true), by rw [HT2.out]; exact hD2.far (p := ⟨gF, 0, none⟩) d4 _, hO2.far (p := ⟨gF, 0, none⟩) q04 _, hX2.far (p := ⟨gF, 0, none⟩) q14 _, hC2.far (p := ⟨gF, 0, none⟩) q34 _, hR2.far (p := ⟨gF, 0, none⟩) q24 _, grownBy_set (p := ⟨gF, 0, none⟩) hG2 hF0 _⟩, rfl⟩)
              case measure => simp [intOf] <;> omega
            · skip
              have HT2 := hide (show phots (f 16) b ⟨(P : Int), xb, true, false⟩ (nx s) (k + 1) = ((z, true), nx t2) by rw [phots, HT.out, phot, if_pos HCH.out, if_pos HBB.out]; rfl)
              go_wp2_with (go_at_call 107; refine (side_c _ _).mono ?_; rintro e w' ⟨rfl, rfl⟩)
              go_roundw
              case rel => first | exact ⟨k + 1, by omega, by go_num, by rw [HT2.out]; exact hF2.set_ 1 (.bool true), by rw [HT2.out]; exact hD2.far (p := ⟨gF, 1, none⟩) d4 _, hO2.far (p := ⟨gF, 1, none⟩) q04 _, hX2.far (p := ⟨gF, 1, none⟩) q14 _, hC2.far (p := ⟨gF, 1, none⟩) q34 _, hR2.far (p := ⟨gF, 1, none⟩) q24 _, grownBy_set (p := ⟨gF, 1, none⟩) hG2 hF0 _⟩ | ((repeat apply Exists.intro); exact ⟨⟨k + 1, by omega, by go_num, by rw [HT2.out]; exact hF2.set_ 1 (.bool true), by rw [HT2.out]; exact hD2.far (p := ⟨gF, 1, none⟩) d4 _, hO2.far (p := ⟨gF, 1, none⟩) q04 _, hX2.far (p := ⟨gF, 1, none⟩) q14 _, hC2.far (p := ⟨gF, 1, none⟩) q34 _, hR2.far (p := ⟨gF, 1, none⟩) q24 _, grownBy_set (p := ⟨gF, 1, none⟩) hG2 hF0 _⟩, rfl⟩)
              case measure => simp [intOf] <;> omega
          · have hbq : (b != xb) = true := by simpa using hbb
            have HBB := hide hbb
            clear hbb
            have hlt2 := bel_lt (nx t2) 2 (by omega)
            have hbc := below_c D (nx t2) 2 w2 hD2 (by omega) (by omega)
            have h01 : bel (nx t2) 2 = 0 ∨ bel (nx t2) 2 = 1 := by omega
            cases xbit
            · skip
              rcases h01 with h0 | h0
              · skip
                rw [h0] at hbc
                have HB2 := hide hbc
                have HT2 := hide (show phots (f 16) b ⟨(P : Int), xb, false, false⟩ (nx s) (k + 1) = ((true, o), nx (nx t2)) by rw [phots, HT.out, phot, if_pos HCH.out, if_neg HBB.out]; simp only [h0]; rfl)
                clear hbc h0 hlt2
                go_wp2_with (first | (go_at_call 107; refine (side_c _ _).mono ?_; rintro e w' ⟨rfl, rfl⟩) | (go_at_call 106; refine HB2.out.mono ?_; rintro e w3 ⟨rfl, hD3, hg3⟩; refine Hid.out ?_))
                refine hide ?_
                have hF3 := hF2.grown hg3 neF
                have hO3 := hO2.grown hg3 neO
                have hX3 := hX2.grown hg3 neX
                have hC3 := hC2.grown hg3 neC
                have hR3 := hR2.grown hg3 neR
                have hG3 := hG2.trans hg3
                clear a0 a1 a2 b0 fz f0 f1 hF2 hO2 hX2 hC2 hR2 hG2 hg3 HB2 hD2
                have fz := hF3.frozen
                have f0 := hF3.cell 0
                have f1 := hF3.cell 1
                simp only [List.getElem?_toArray, List.getElem?_cons_zero, List.getElem?_cons_succ] at f0 f1
                go_wp2
                go_roundw
                case rel => first | exact ⟨k + 1, by omega, by go_num, by rw [HT2.out]; exact hF3.set_ 0 (.bool true), by rw [HT2.out]; exact hD3.far (p := ⟨gF, 0, none⟩) d4 _, hO3.far (p := ⟨gF, 0, none⟩) q04 _, hX3.far (p := ⟨gF, 0, none⟩) q14 _, hC3.far (p := ⟨gF, 0, none⟩) q34 _, hR3.far (p := ⟨gF, 0, none⟩) q24 _, grownBy_set (p := ⟨gF, 0, none⟩) hG3 hF0 _⟩ | ((repeat apply Exists.intro); exact ⟨⟨k + 1, by omega, by go_num, by rw [HT2.out]; exact hF3.set_ 0 (.bool true), by rw [HT2.out]; exact hD3.far (p := ⟨gF, 0, none⟩) d4 _, hO3.far (p := ⟨gF, 0, none⟩) q04 _, hX3.far (p := ⟨gF, 0, none⟩) q14 _, hC3.far (p := ⟨gF, 0, none⟩) q34 _, hR3.far (p := ⟨gF, 0, none⟩) q24 _, grownBy_set (p := ⟨gF, 0, none⟩) hG3 hF0 _⟩, rfl⟩)
                case measure => simp [intOf] <;> omega
              · skip
                rw [h0] at hbc
                have HB2 := hide hbc
                have HT2 := hide (show phots (f 16) b ⟨(P : Int), xb, false, false⟩ (nx s) (k + 1) = ((z, true), nx (nx t2)) by rw [phots, HT.out, phot, if_pos HCH.out, if_neg HBB.out]; simp only [h0]; rfl)
                clear hbc h0 hlt2
                go_wp2_with (first | (go_at_call 107; refine (side_c _ _).mono ?_; rintro e w' ⟨rfl, rfl⟩) | (go_at_call 106; refine HB2.out.mono ?_; rintro e w3 ⟨rfl, hD3, hg3⟩; refine Hid.out ?_))
                refine hide ?_
                have hF3 := hF2.grown hg3 neF
                have hO3 := hO2.grown hg3 neO
                have hX3 := hX2.grown hg3 neX
                have hC3 := hC2.grown hg3 neC
                have hR3 := hR2.grown hg3 neR
                have hG3 := hG2.trans hg3
                clear a0 a1 a2 b0 fz f0 f1 hF2 hO2 hX2 hC2 hR2 hG2 hg3 HB2 hD2
                have fz := hF3.frozen
                have f0 := hF3.cell 0
                have f1 := hF3.cell 1
                simp only [List.getElem?_toArray, List.getElem?_cons_zero, List.getElem?_cons_succ] at f0 f1
                go_wp2
                go_roundw
                case rel => first | exact ⟨k + 1, by omega, by go_num, by rw [HT2.out]; exact hF3.set_ 1 (.bool true), by rw [HT2.out]; exact hD3.far (p := ⟨gF, 1, none⟩) d4 _, hO3.far (p := ⟨gF, 1, none⟩) q04 _, hX3.far (p := ⟨gF, 1, none⟩) q14 _, hC3.far (p := ⟨gF, 1, none⟩) q34 _, hR3.far (p := ⟨gF, 1, none⟩) q24 _, grownBy_set (p := ⟨gF, 1, none⟩) hG3 hF0 _⟩ | ((repeat apply Exists.intro); exact ⟨⟨k + 1, by omega, by go_num, by rw [HT2.out]; exact hF3.set_ 1 (.bool true), by rw [HT2.out]; exact hD3.far (p := ⟨gF, 1, none⟩) d4 _, hO3.far (p := ⟨gF, 1, none⟩) q04 _, hX3.far (p := ⟨gF, 1, none⟩) q14 _, hC3.far (p := ⟨gF, 1, none⟩) q34 _, hR3.far (p := ⟨gF, 1, none⟩) q24 _, grownBy_set (p := ⟨gF, 1, none⟩) hG3 hF0 _⟩, rfl⟩)
                case measure => simp [intOf] <;> omega
            · skip
              rcases h01 with h0 | h0
              · skip
                rw [h0] at hbc
                have HB2 := hide hbc
                have HT2 := hide (show phots (f 16) b ⟨(P : Int), xb, true, false⟩ (nx s) (k + 1) = ((true, o), nx (nx t2)) by rw [phots, HT.out, phot, if_pos HCH.out, if_neg HBB.out]; simp only [h0]; rfl)
                clear hbc h0 hlt2
                go_wp2_with (first | (go_at_call 107; refine (side_c _ _).mono ?_; rintro e w' ⟨rfl, rfl⟩) | (go_at_call 106; refine HB2.out.mono ?_; rintro e w3 ⟨rfl, hD3, hg3⟩; refine Hid.out ?_))
                refine hide ?_
                have hF3 := hF2.grown hg3 neF
                have hO3 := hO2.grown hg3 neO
                have hX3 := hX2.grown hg3 neX
                have hC3 := hC2.grown hg3 neC
                have hR3 := hR2.grown hg3 neR
                have hG3 := hG2.trans hg3
                clear a0 a1 a2 b0 fz f0 f1 hF2 hO2 hX2 hC2 hR2 hG2 hg3 HB2 hD2
                have fz := hF3.frozen
                have f0 := hF3.cell 0
                have f1 := hF3.cell 1
                simp only [List.getElem?_toArray, List.getElem?_cons_zero, List.getElem?_cons_succ] at f0 f1
                go_wp2
                go_roundw
                case rel => first | exact ⟨k + 1, by omega, by go_num, by rw [HT2.out]; exact hF3.set_ 0 (.bool true), by rw [HT2.out]; exact hD3.far (p := ⟨gF, 0, none⟩) d4 _, hO3.far (p := ⟨gF, 0, none⟩) q04 _, hX3.far (p := ⟨gF, 0, none⟩) q14 _, hC3.far (p := ⟨gF, 0, none⟩) q34 _, hR3.far (p := ⟨gF, 0, none⟩) q24 _, grownBy_set (p := ⟨gF, 0, none⟩) hG3 hF0 _⟩ | ((repeat apply Exists.intro); exact ⟨⟨k + 1, by omega, by go_num, by rw [HT2.out]; exact hF3.set_ 0 (.bool true), by rw [HT2.out]; exact hD3.far (p := ⟨gF, 0, none⟩) d4 _, hO3.far (p := ⟨gF, 0, none⟩) q04 _, hX3.far (p := ⟨gF, 0, none⟩) q14 _, hC3.far (p := ⟨gF, 0, none⟩) q34 _, hR3.far (p := ⟨gF, 0, none⟩) q24 _, grownBy_set (p := ⟨gF, 0, none⟩) hG3 hF0 _⟩, rfl⟩)
                case measure => simp [intOf] <;> omega
              · skip
                rw [h0] at hbc
                have HB2 := hide hbc
                have HT2 := hide (show phots (f 16) b ⟨(P : Int), xb, true, false⟩ (nx s) (k + 1) = ((z, true), nx (nx t2)) by rw [phots, HT.out, phot, if_pos HCH.out, if_neg HBB.out]; simp only [h0]; rfl)
                clear hbc h0 hlt2
                go_wp2_with (first | (go_at_call 107; refine (side_c _ _).mono ?_; rintro e w' ⟨rfl, rfl⟩) | (go_at_call 106; refine HB2.out.mono ?_; rintro e w3 ⟨rfl, hD3, hg3⟩; refine Hid.out ?_))
                refine hide ?_
                have hF3 := hF2.grown hg3 neF
                have hO3 := hO2.grown hg3 neO
                have hX3 := hX2.grown hg3 neX
                have hC3 := hC2.grown hg3 neC
                have hR3 := hR2.grown hg3 neR
                have hG3 := hG2.trans hg3
                clear a0 a1 a2 b0 fz f0 f1 hF2 hO2 hX2 hC2 hR2 hG2 hg3 HB2 hD2
                have fz := hF3.frozen
                have f0 := hF3.cell 0
                have f1 := hF3.cell 1
                simp only [List.getElem?_toArray, List.getElem?_cons_zero, List.getElem?_cons_succ] at f0 f1
                go_wp2
                go_roundw
                case rel => first | exact ⟨k + 1, by omega, by go_num, by rw [HT2.out]; exact hF3.set_ 1 (.bool true), by rw [HT2.out]; exact hD3.far (p := ⟨gF, 1, none⟩) d4 _, hO3.far (p := ⟨gF, 1, none⟩) q04 _, hX3.far (p := ⟨gF, 1, none⟩) q14 _, hC3.far (p := ⟨gF, 1, none⟩) q34 _, hR3.far (p := ⟨gF, 1, none⟩) q24 _, grownBy_set (p := ⟨gF, 1, none⟩) hG3 hF0 _⟩ | ((repeat apply Exists.intro); exact ⟨⟨k + 1, by omega, by go_num, by rw [HT2.out]; exact hF3.set_ 1 (.bool true), by rw [HT2.out]; exact hD3.far (p := ⟨gF, 1, none⟩) d4 _, hO3.far (p := ⟨gF, 1, none⟩) q04 _, hX3.far (p := ⟨gF, 1, none⟩) q14 _, hC3.far (p := ⟨gF, 1, none⟩) q34 _, hR3.far (p := ⟨gF, 1, none⟩) q24 _, grownBy_set (p := ⟨gF, 1, none⟩) hG3 hF0 _⟩, rfl⟩)
                case measure => simp [intOf] <;> omega
        · rw [decide_eq_false hch] at hcc
          have HCC := hide hcc
          have HT2 := hide (show phots (f 16) b ⟨(P : Int), xb, xbit, false⟩ (nx s) (k + 1) = ((z, o), nx t2) by rw [phots, HT.out, phot, if_neg hch])
          clear hcc hch
          go_wp2_with (go_at_call 99; refine HCC.out.mono ?_; rintro e w2 ⟨rfl, hD2, hg2⟩)
          go_roundw
          case rel => first | exact ⟨k + 1, by omega, by go_num, by rw [HT2.out]; exact hF.grown hg2 neF, by rw [HT2.out]; exact hD2, hO.grown hg2 neO, hX.grown hg2 neX, hC.grown hg2 neC, hR.grown hg2 neR, hG.trans hg2⟩ | ((repeat apply Exists.intro); exact ⟨⟨k + 1, by omega, by go_num, by rw [HT2.out]; exact hF.grown hg2 neF, by rw [HT2.out]; exact hD2, hO.grown hg2 neO, hX.grown hg2 neX, hC.grown hg2 neC, hR.grown hg2 neR, hG.trans hg2⟩, rfl⟩)
          case measure => simp [intOf] <;> omega
      · obtain rfl : P = k := by omega
        go_wp2
        obtain ⟨wq, rfl⟩ : ∃ wo : World, wo = wr := ⟨_, rfl⟩
        clear e0 xp
        go_loopw [48, 10, 11] (fun iv _ _ wr => ∃ k2 : Nat, k2 ≤ 2 ∧ iv = .int .i64 k2 ∧ Blk wr gF 203 #[.bool (dk (f 17) ((z, o), t2) k2).1.1, .bool (dk (f 17) ((z, o), t2) k2).1.2] ∧ Dr wr D (dk (f 17) ((z, o), t2) k2).2 ∧
            Blk wr gO 57 (cells18 f) ∧ Blk wr c 81 #[.int .i64 b, .int .i64 0] ∧ Blk wr gR 81 #[.int .i64 0, .int .i64 0] ∧ w.grownBy wr (some D)) (fun iv _ _ _ => 2 - (intOf iv).toNat)
        case atStart => exact ⟨0, by omega, rfl, hF, hD, hO, hC, hR, hG⟩
        case round =>
          clear hF hD hO hX hC hR hG hGs
          obtain ⟨k2, hk2, rfl, hF, hD, hO, hC, hR, hG⟩ := hrel
          have hGs := hG.size
          have e1 := hO.cell 17
          rw [cells18_get f (by omega)] at e1
          obtain ⟨z1, o1, s1, hdk⟩ : ∃ z1 o1 s1, dk (f 17) ((z, o), t2) k2 = ((z1, o1), s1) := ⟨_, _, _, rfl⟩
          rw [hdk] at hF hD
          have HDK := hide hdk
          clear hdk
          have h012 : k2 = 0 ∨ k2 = 1 ∨ k2 = 2 := by omega
          have hcc := chance_c D s1 (f 17) wr hD
          obtain ⟨d, Hd⟩ : ∃ d, Hid (decide ((bel s1 256 : Int) < f 17) = d) := ⟨_, rfl⟩
          rw [Hd.out] at hcc
          have HCC := hide hcc
          clear hcc hlt
          rcases h012 with rfl | rfl | rfl
          · have HN := hide (show dk (f 17) ((z, o), t2) (0 + 1) = ((z1 || d, o1), nx s1) by rw [dk_one, HDK.out]; simp only [Hd.out])
            cases z1
            · skip
              go_wp2_with (go_at_call 99; refine HCC.out.mono ?_; rintro e w2 ⟨rfl, hD2, hg2⟩; refine Hid.out ?_)
              refine hide ?_
              have hF2 := hF.grown hg2 neF
              have hO2 := hO.grown hg2 neO
              have hC2 := hC.grown hg2 neC
              have hR2 := hR.grown hg2 neR
              have hG2 := hG.trans hg2
              have fz := hF2.frozen
              have f0 := hF2.cell 0
              have f1 := hF2.cell 1
              simp only [List.getElem?_toArray, List.getElem?_cons_zero, List.getElem?_cons_succ] at f0 f1
              clear hF hO hC hR hG hg2 HCC hD e1
              cases d
              · go_wp2
                go_roundw
                case rel => first | exact ⟨1, by omega, by go_num, by rw [HN.out]; exact hF2.set_ 0 (.bool false), by rw [HN.out]; exact hD2.far (p := ⟨gF, 0, none⟩) d4 _, hO2.far (p := ⟨gF, 0, none⟩) q04 _, hC2.far (p := ⟨gF, 0, none⟩) q34 _, hR2.far (p := ⟨gF, 0, none⟩) q24 _, grownBy_set (p := ⟨gF, 0, none⟩) hG2 hF0 _⟩ | ((repeat apply Exists.intro); exact ⟨⟨1, by omega, by go_num, by rw [HN.out]; exact hF2.set_ 0 (.bool false), by rw [HN.out]; exact hD2.far (p := ⟨gF, 0, none⟩) d4 _, hO2.far (p := ⟨gF, 0, none⟩) q04 _, hC2.far (p := ⟨gF, 0, none⟩) q34 _, hR2.far (p := ⟨gF, 0, none⟩) q24 _, grownBy_set (p := ⟨gF, 0, none⟩) hG2 hF0 _⟩, rfl⟩)
                case measure => simp [intOf] <;> omega
              · go_wp2
                go_roundw
                case rel => first | exact ⟨1, by omega, by go_num, by rw [HN.out]; exact hF2.set_ 0 (.bool true), by rw [HN.out]; exact hD2.far (p := ⟨gF, 0, none⟩) d4 _, hO2.far (p := ⟨gF, 0, none⟩) q04 _, hC2.far (p := ⟨gF, 0, none⟩) q34 _, hR2.far (p := ⟨gF, 0, none⟩) q24 _, grownBy_set (p := ⟨gF, 0, none⟩) hG2 hF0 _⟩ | ((repeat apply Exists.intro); exact ⟨⟨1, by omega, by go_num, by rw [HN.out]; exact hF2.set_ 0 (.bool true), by rw [HN.out]; exact hD2.far (p := ⟨gF, 0, none⟩) d4 _, hO2.far (p := ⟨gF, 0, none⟩) q04 _, hC2.far (p := ⟨gF, 0, none⟩) q34 _, hR2.far (p := ⟨gF, 0, none⟩) q24 _, grownBy_set (p := ⟨gF, 0, none⟩) hG2 hF0 _⟩, rfl⟩)
                case measure => simp [intOf] <;> omega
            · skip
              go_wp2_with (go_at_call 99; refine HCC.out.mono ?_; rintro e w2 ⟨rfl, hD2, hg2⟩; refine Hid.out ?_)
              refine hide ?_
              have hF2 := hF.grown hg2 neF
              have hO2 := hO.grown hg2 neO
              have hC2 := hC.grown hg2 neC
              have hR2 := hR.grown hg2 neR
              have hG2 := hG.trans hg2
              have fz := hF2.frozen
              have f0 := hF2.cell 0
              have f1 := hF2.cell 1
              simp only [List.getElem?_toArray, List.getElem?_cons_zero, List.getElem?_cons_succ] at f0 f1
              clear hF hO hC hR hG hg2 HCC hD e1
              cases d
              · go_wp2
                go_roundw
                case rel => first | exact ⟨1, by omega, by go_num, by rw [HN.out]; exact hF2.set_ 0 (.bool true), by rw [HN.out]; exact hD2.far (p := ⟨gF, 0, none⟩) d4 _, hO2.far (p := ⟨gF, 0, none⟩) q04 _, hC2.far (p := ⟨gF, 0, none⟩) q34 _, hR2.far (p := ⟨gF, 0, none⟩) q24 _, grownBy_set (p := ⟨gF, 0, none⟩) hG2 hF0 _⟩ | ((repeat apply Exists.intro); exact ⟨⟨1, by omega, by go_num, by rw [HN.out]; exact hF2.set_ 0 (.bool true), by rw [HN.out]; exact hD2.far (p := ⟨gF, 0, none⟩) d4 _, hO2.far (p := ⟨gF, 0, none⟩) q04 _, hC2.far (p := ⟨gF, 0, none⟩) q34 _, hR2.far (p := ⟨gF, 0, none⟩) q24 _, grownBy_set (p := ⟨gF, 0, none⟩) hG2 hF0 _⟩, rfl⟩)
                case measure => simp [intOf] <;> omega
              · go_wp2
                go_roundw
                case rel => first | exact ⟨1, by omega, by go_num, by rw [HN.out]; exact hF2.set_ 0 (.bool true), by rw [HN.out]; exact hD2.far (p := ⟨gF, 0, none⟩) d4 _, hO2.far (p := ⟨gF, 0, none⟩) q04 _, hC2.far (p := ⟨gF, 0, none⟩) q34 _, hR2.far (p := ⟨gF, 0, none⟩) q24 _, grownBy_set (p := ⟨gF, 0, none⟩) hG2 hF0 _⟩ | ((repeat apply Exists.intro); exact ⟨⟨1, by omega, by go_num, by rw [HN.out]; exact hF2.set_ 0 (.bool true), by rw [HN.out]; exact hD2.far (p := ⟨gF, 0, none⟩) d4 _, hO2.far (p := ⟨gF, 0, none⟩) q04 _, hC2.far (p := ⟨gF, 0, none⟩) q34 _, hR2.far (p := ⟨gF, 0, none⟩) q24 _, grownBy_set (p := ⟨gF, 0, none⟩) hG2 hF0 _⟩, rfl⟩)
                case measure => simp [intOf] <;> omega
          · have HN := hide (show dk (f 17) ((z, o), t2) (1 + 1) = ((z1, o1 || d), nx s1) by rw [dk_two, HDK.out]; simp only [Hd.out])
            cases o1
            · skip
              go_wp2_with (go_at_call 99; refine HCC.out.mono ?_; rintro e w2 ⟨rfl, hD2, hg2⟩; refine Hid.out ?_)
              refine hide ?_
              have hF2 := hF.grown hg2 neF
              have hO2 := hO.grown hg2 neO
              have hC2 := hC.grown hg2 neC
              have hR2 := hR.grown hg2 neR
              have hG2 := hG.trans hg2
              have fz := hF2.frozen
              have f0 := hF2.cell 0
              have f1 := hF2.cell 1
              simp only [List.getElem?_toArray, List.getElem?_cons_zero, List.getElem?_cons_succ] at f0 f1
              clear hF hO hC hR hG hg2 HCC hD e1
              cases d
              · go_wp2
                go_roundw
                case rel => first | exact ⟨2, by omega, by go_num, by rw [HN.out]; exact hF2.set_ 1 (.bool false), by rw [HN.out]; exact hD2.far (p := ⟨gF, 1, none⟩) d4 _, hO2.far (p := ⟨gF, 1, none⟩) q04 _, hC2.far (p := ⟨gF, 1, none⟩) q34 _, hR2.far (p := ⟨gF, 1, none⟩) q24 _, grownBy_set (p := ⟨gF, 1, none⟩) hG2 hF0 _⟩ | ((repeat apply Exists.intro); exact ⟨⟨2, by omega, by go_num, by rw [HN.out]; exact hF2.set_ 1 (.bool false), by rw [HN.out]; exact hD2.far (p := ⟨gF, 1, none⟩) d4 _, hO2.far (p := ⟨gF, 1, none⟩) q04 _, hC2.far (p := ⟨gF, 1, none⟩) q34 _, hR2.far (p := ⟨gF, 1, none⟩) q24 _, grownBy_set (p := ⟨gF, 1, none⟩) hG2 hF0 _⟩, rfl⟩)
                case measure => simp [intOf] <;> omega
              · go_wp2
                go_roundw
                case rel => first | exact ⟨2, by omega, by go_num, by rw [HN.out]; exact hF2.set_ 1 (.bool true), by rw [HN.out]; exact hD2.far (p := ⟨gF, 1, none⟩) d4 _, hO2.far (p := ⟨gF, 1, none⟩) q04 _, hC2.far (p := ⟨gF, 1, none⟩) q34 _, hR2.far (p := ⟨gF, 1, none⟩) q24 _, grownBy_set (p := ⟨gF, 1, none⟩) hG2 hF0 _⟩ | ((repeat apply Exists.intro); exact ⟨⟨2, by omega, by go_num, by rw [HN.out]; exact hF2.set_ 1 (.bool true), by rw [HN.out]; exact hD2.far (p := ⟨gF, 1, none⟩) d4 _, hO2.far (p := ⟨gF, 1, none⟩) q04 _, hC2.far (p := ⟨gF, 1, none⟩) q34 _, hR2.far (p := ⟨gF, 1, none⟩) q24 _, grownBy_set (p := ⟨gF, 1, none⟩) hG2 hF0 _⟩, rfl⟩)
                case measure => simp [intOf] <;> omega
            · skip
              go_wp2_with (go_at_call 99; refine HCC.out.mono ?_; rintro e w2 ⟨rfl, hD2, hg2⟩; refine Hid.out ?_)
              refine hide ?_
              have hF2 := hF.grown hg2 neF
              have hO2 := hO.grown hg2 neO
              have hC2 := hC.grown hg2 neC
              have hR2 := hR.grown hg2 neR
              have hG2 := hG.trans hg2
              have fz := hF2.frozen
              have f0 := hF2.cell 0
              have f1 := hF2.cell 1
              simp only [List.getElem?_toArray, List.getElem?_cons_zero, List.getElem?_cons_succ] at f0 f1
              clear hF hO hC hR hG hg2 HCC hD e1
              cases d
              · go_wp2
                go_roundw
                case rel => first | exact ⟨2, by omega, by go_num, by rw [HN.out]; exact hF2.set_ 1 (.bool true), by rw [HN.out]; exact hD2.far (p := ⟨gF, 1, none⟩) d4 _, hO2.far (p := ⟨gF, 1, none⟩) q04 _, hC2.far (p := ⟨gF, 1, none⟩) q34 _, hR2.far (p := ⟨gF, 1, none⟩) q24 _, grownBy_set (p := ⟨gF, 1, none⟩) hG2 hF0 _⟩ | ((repeat apply Exists.intro); exact ⟨⟨2, by omega, by go_num, by rw [HN.out]; exact hF2.set_ 1 (.bool true), by rw [HN.out]; exact hD2.far (p := ⟨gF, 1, none⟩) d4 _, hO2.far (p := ⟨gF, 1, none⟩) q04 _, hC2.far (p := ⟨gF, 1, none⟩) q34 _, hR2.far (p := ⟨gF, 1, none⟩) q24 _, grownBy_set (p := ⟨gF, 1, none⟩) hG2 hF0 _⟩, rfl⟩)
                case measure => simp [intOf] <;> omega
              · go_wp2
                go_roundw
                case rel => first | exact ⟨2, by omega, by go_num, by rw [HN.out]; exact hF2.set_ 1 (.bool true), by rw [HN.out]; exact hD2.far (p := ⟨gF, 1, none⟩) d4 _, hO2.far (p := ⟨gF, 1, none⟩) q04 _, hC2.far (p := ⟨gF, 1, none⟩) q34 _, hR2.far (p := ⟨gF, 1, none⟩) q24 _, grownBy_set (p := ⟨gF, 1, none⟩) hG2 hF0 _⟩ | ((repeat apply Exists.intro); exact ⟨⟨2, by omega, by go_num, by rw [HN.out]; exact hF2.set_ 1 (.bool true), by rw [HN.out]; exact hD2.far (p := ⟨gF, 1, none⟩) d4 _, hO2.far (p := ⟨gF, 1, none⟩) q04 _, hC2.far (p := ⟨gF, 1, none⟩) q34 _, hR2.far (p := ⟨gF, 1, none⟩) q24 _, grownBy_set (p := ⟨gF, 1, none⟩) hG2 hF0 _⟩, rfl⟩)
                case measure => simp [intOf] <;> omega
          · have c0 := hC.cell 0
            have c1 := hC.cell 1
            have r0 := hR.cell 0
            have r1 := hR.cell 1
            have f0 := hF.cell 0
            have f1 := hF.cell 1
            have cz := hC.frozen
            have rz := hR.frozen
            simp only [List.getElem?_toArray, List.getElem?_cons_zero, List.getElem?_cons_succ] at c0 c1 r0 r1 f0 f1
            have HR := hide (show detF (f 16) (f 17) ⟨(P : Int), xb, xbit, false⟩ s = (⟨b, knd z1 o1⟩, s1) by rw [detF_dull rfl, ← HB.out]; simp only [Int.toNat_natCast]; rw [HT.out, HDK.out])
            clear hF hO hC hR e1 HCC
            cases z1
            · cases o1
              · go_wp2
                refine bodyPost_ret (v := .agg #[.int .i64 b, .int .i64 0]) (by simp [results, Try.results70, go_sem, r0, r1]) rfl ⟨?_, ?_, ?_⟩
                · rw [HR.out]; rfl
                · rw [HR.out]
                  repeat (first | exact hD | refine Dr.far ?_ (by simp; omega) _ | refine Dr.drew ?_)
                · repeat (first | exact hG | refine grownBy_set ?_ (by simp; omega) _ | refine grownBy_drew ?_)
              · go_wp2
                refine bodyPost_ret (v := .agg #[.int .i64 b, .int .i64 2]) (by simp [results, Try.results70, go_sem, r0, r1]) rfl ⟨?_, ?_, ?_⟩
                · rw [HR.out]; rfl
                · rw [HR.out]
                  repeat (first | exact hD | refine Dr.far ?_ (by simp; omega) _ | refine Dr.drew ?_)
                · repeat (first | exact hG | refine grownBy_set ?_ (by simp; omega) _ | refine grownBy_drew ?_)
            · cases o1
              · go_wp2
                refine bodyPost_ret (v := .agg #[.int .i64 b, .int .i64 1]) (by simp [results, Try.results70, go_sem, r0, r1]) rfl ⟨?_, ?_, ?_⟩
                · rw [HR.out]; rfl
                · rw [HR.out]
                  repeat (first | exact hD | refine Dr.far ?_ (by simp; omega) _ | refine Dr.drew ?_)
                · repeat (first | exact hG | refine grownBy_set ?_ (by simp; omega) _ | refine grownBy_drew ?_)
              · go_wp2
                refine bodyPost_ret (v := .agg #[.int .i64 b, .int .i64 3]) (by simp [results, Try.results70, go_sem, r0, r1]) rfl ⟨?_, ?_, ?_⟩
                · rw [HR.out]; rfl
                · rw [HR.out]
                  repeat (first | exact hD | refine Dr.far ?_ (by simp; omega) _ | refine Dr.drew ?_)
                · repeat (first | exact hG | refine grownBy_set ?_ (by simp; omega) _ | refine grownBy_drew ?_)
  · clear e0 e1
    by_cases hbb : b = xb
    · have hbq : (b == xb) = true := by simpa using hbb
      have HBB := hide hbb
      clear hbb
      cases xbit
      · skip
        go_wp2
        go_region_held3 (fun w' => w'.cell? ⟨gX, 2, none⟩ = some (.bool false) ∧ w'.cell? ⟨gX, 1, none⟩ = some (.int .i64 xb) ∧ w'.cell? ⟨c, 0, none⟩ = some (.int .i64 b)) (go_keep) ((go_at_call 107; refine (side_c _ _).mono ?_; rintro e w' ⟨rfl, rfl⟩))
        go_wp2
        refine bodyPost_ret (v := .agg #[.int .i64 b, .int .i64 1]) (by simp [results, Try.results70, go_sem, r0, r1]) rfl ⟨?_, ?_, ?_⟩
        · rw [detF_bright rfl, ← HB.out]; simp [HBB.out]
        · rw [detF_bright rfl]
          repeat (first | exact D3 | refine Dr.far ?_ (by simp; omega) _ | refine Dr.drew ?_)
        · repeat (first | exact G3 | refine grownBy_set ?_ (by simp; omega) _ | refine grownBy_drew ?_)
      · skip
        go_wp2
        go_region_held3 (fun w' => w'.cell? ⟨gX, 2, none⟩ = some (.bool true) ∧ w'.cell? ⟨gX, 1, none⟩ = some (.int .i64 xb) ∧ w'.cell? ⟨c, 0, none⟩ = some (.int .i64 b)) (go_keep) ((go_at_call 107; refine (side_c _ _).mono ?_; rintro e w' ⟨rfl, rfl⟩))
        go_wp2
        refine bodyPost_ret (v := .agg #[.int .i64 b, .int .i64 2]) (by simp [results, Try.results70, go_sem, r0, r1]) rfl ⟨?_, ?_, ?_⟩
        · rw [detF_bright rfl, ← HB.out]; simp [HBB.out]
        · rw [detF_bright rfl]
          repeat (first | exact D3 | refine Dr.far ?_ (by simp; omega) _ | refine Dr.drew ?_)
        · repeat (first | exact G3 | refine grownBy_set ?_ (by simp; omega) _ | refine grownBy_drew ?_)
    · have hbq : (b == xb) = false := by simpa using hbb
      have HBB := hide hbb
      clear hbb
      cases xbit
      · skip
        go_wp2
        go_region_held3 (fun w' => w'.cell? ⟨gX, 2, none⟩ = some (.bool false) ∧ w'.cell? ⟨gX, 1, none⟩ = some (.int .i64 xb) ∧ w'.cell? ⟨c, 0, none⟩ = some (.int .i64 b)) (go_keep) ((go_at_call 107; refine (side_c _ _).mono ?_; rintro e w' ⟨rfl, rfl⟩))
        go_wp2
        refine bodyPost_ret (v := .agg #[.int .i64 b, .int .i64 0]) (by simp [results, Try.results70, go_sem, r0, r1]) rfl ⟨?_, ?_, ?_⟩
        · rw [detF_bright rfl, ← HB.out]; simp [HBB.out]
        · rw [detF_bright rfl]
          repeat (first | exact D3 | refine Dr.far ?_ (by simp; omega) _ | refine Dr.drew ?_)
        · repeat (first | exact G3 | refine grownBy_set ?_ (by simp; omega) _ | refine grownBy_drew ?_)
      · skip
        go_wp2
        go_region_held3 (fun w' => w'.cell? ⟨gX, 2, none⟩ = some (.bool true) ∧ w'.cell? ⟨gX, 1, none⟩ = some (.int .i64 xb) ∧ w'.cell? ⟨c, 0, none⟩ = some (.int .i64 b)) (go_keep) ((go_at_call 107; refine (side_c _ _).mono ?_; rintro e w' ⟨rfl, rfl⟩))
        go_wp2
        refine bodyPost_ret (v := .agg #[.int .i64 b, .int .i64 0]) (by simp [results, Try.results70, go_sem, r0, r1]) rfl ⟨?_, ?_, ?_⟩
        · rw [detF_bright rfl, ← HB.out]; simp [HBB.out]
        · rw [detF_bright rfl]
          repeat (first | exact D3 | refine Dr.far ?_ (by simp; omega) _ | refine Dr.drew ?_)
        · repeat (first | exact G3 | refine grownBy_set ?_ (by simp; omega) _ | refine grownBy_drew ?_)
end Go.Proofs.Ytchhkokpjdkkiaa
