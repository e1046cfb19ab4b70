/- Contracts of the reference's kind, detect. -/
import Derived.Test.YtddajmagdjkodaaDoorQq
namespace Go.Proofs.YtddajmagdjkodaaDoor
open Go.RowKit

set_option maxRecDepth 100000 in
set_option maxHeartbeats 1600000 in
theorem rkind_c (z o : Bool) (w : World) : Calls Tryd.prog 102 #[.bool z, .bool o] w fun e w' => e = .returned (.int .i64 (knd z o)) ∧ w = w' := by
  cases z
  · cases o
    · go_enter Tryd.func102, Tryd.ntmps102
      go_wp2
      go_ret
      exact ⟨rfl, rfl⟩
    · go_enter Tryd.func102, Tryd.ntmps102
      go_wp2
      go_ret
      exact ⟨rfl, rfl⟩
  · cases o
    · go_enter Tryd.func102, Tryd.ntmps102
      go_wp2
      go_ret
      exact ⟨rfl, rfl⟩
    · go_enter Tryd.func102, Tryd.ntmps102
      go_wp2
      go_ret
      exact ⟨rfl, rfl⟩

def SDetect (eta dark : Int) (x : Li) (D s : Nat) (w : World) (e : Ending) (w' : World) : Prop :=
  e = .returned (.agg #[.int .i64 (detF eta dark x s).1.b, .int .i64 (detF eta dark x s).1.k]) ∧ Rr w' D (detF eta dark x s).2 ∧ w.grownBy w' (some D)
theorem Rr.alloc {w : World} {D s : Nat} (h : Rr w D s) (o : Obj) : Rr (w.alloc o) D s := Blk.alloc h o
theorem Rr.drew {w : World} {D s : Nat} (h : Rr w D s) : Rr w.drew D s := h
theorem Rr.drewN {w : World} {D s : Nat} (h : Rr w D s) (n : Nat) : Rr (w.drewN n) D s := h
theorem Rr.far {w : World} {D s : Nat} (h : Rr w D s) {p : Addr} (hp : D ≠ p.block) (u : Value) : Rr (w.setCell p u) D s := Blk.far h hp u

theorem rbelow256 (D s : Nat) (w : World) (h : Rr w D s) : Calls Tryd.prog 70 #[.pointer (some ⟨D, 0, none⟩), .int .i64 256] w fun e w' => e = .returned (.int .i64 (bel s 256 : Int)) ∧ Rr w' D (nx s) ∧ w.grownBy w' (some D) :=
  rbelow_c D s 256 w h (by omega) (by omega)
theorem rbelow2 (D s : Nat) (w : World) (h : Rr w D s) : Calls Tryd.prog 70 #[.pointer (some ⟨D, 0, none⟩), .int .i64 2] w fun e w' => e = .returned (.int .i64 (bel s 2 : Int)) ∧ Rr w' D (nx s) ∧ w.grownBy w' (some D) :=
  rbelow_c D s 2 w h (by omega) (by omega)

set_option maxRecDepth 100000 in
set_option maxHeartbeats 6400000 in
theorem rdetect_c (f : Nat → Int) (x : Li) (D s : Nat) (w : World) (h : Rr w D s) (hp : 0 ≤ x.ph ∧ x.ph ≤ 3) :
    Calls Tryd.prog 68 #[.agg (cells18 f), .agg #[.int .i64 x.ph, .int .i64 x.b, .bool x.bit, .bool x.bright], .pointer (some ⟨D, 0, none⟩)] w (SDetect (f 16) (f 17) x D s w) := by
  obtain ⟨xp, xb, xbit, xbr⟩ := x
  simp only at hp
  obtain ⟨P, rfl⟩ := Int.eq_ofNat_of_zero_le hp.1
  have hP : P ≤ 3 := by omega
  clear hp
  have hlt := Blk.lt h
  have O1 := ((Blk.newAt w 40 (cells18 f) w.heap.size rfl).alloc (.cells #[.int .i64 (P : Int), .int .i64 xb, .bool xbit, .bool xbr] 65)).alloc (.cells #[.int .i64 0, .int .i64 0] 67)
  have X1 := (Blk.newAt (w.alloc (.cells (cells18 f) 40)) 65 #[.int .i64 (P : Int), .int .i64 xb, .bool xbit, .bool xbr] (w.heap.size + 1) (by simp)).alloc (.cells #[.int .i64 0, .int .i64 0] 67)
  have R1 := Blk.newAt ((w.alloc (.cells (cells18 f) 40)).alloc (.cells #[.int .i64 (P : Int), .int .i64 xb, .bool xbit, .bool xbr] 65)) 67 #[.int .i64 0, .int .i64 0] (w.heap.size + 2) (by simp)
  have D1 := ((h.alloc (.cells (cells18 f) 40)).alloc (.cells #[.int .i64 (P : Int), .int .i64 xb, .bool xbit, .bool xbr] 65)).alloc (.cells #[.int .i64 0, .int .i64 0] 67)
  have G1 := grownBy_alloc (grownBy_alloc (grownBy_alloc (World.grownBy.refl w (some D)) (.cells (cells18 f) 40)) (.cells #[.int .i64 (P : Int), .int .i64 xb, .bool xbit, .bool xbr] 65)) (.cells #[.int .i64 0, .int .i64 0] 67)
  have hz1 : (((w.alloc (.cells (cells18 f) 40)).alloc (.cells #[.int .i64 (P : Int), .int .i64 xb, .bool xbit, .bool xbr] 65)).alloc (.cells #[.int .i64 0, .int .i64 0] 67)).heap.size = w.heap.size + 3 := by simp
  obtain ⟨b, hb⟩ : ∃ b : Int, b = (bel s 2 : Int) := ⟨_, rfl⟩
  have hcall := rbelow2 D s _ D1
  rw [← hb] at hcall
  have HB := hide hb
  clear hb
  go_enter Tryd.func68, Tryd.ntmps68
  go_upto_region 2 with (go_at_call 70; refine hcall.mono ?_; rintro e w1 ⟨rfl, D2, hg1⟩)
  have hs1 := hg1.size
  rw [hz1] at hs1
  have O2 := (O1.grown hg1 (by simp; omega)).alloc (.cells #[.int .i64 b, .int .i64 0] 67)
  have X2 := (X1.grown hg1 (by simp; omega)).alloc (.cells #[.int .i64 b, .int .i64 0] 67)
  have R2 := (R1.grown hg1 (by simp; omega)).alloc (.cells #[.int .i64 b, .int .i64 0] 67)
  have C2 := Blk.newAt w1 67 #[.int .i64 b, .int .i64 0] w1.heap.size rfl
  have D3 := D2.alloc (.cells #[.int .i64 b, .int .i64 0] 67)
  have G3 := grownBy_alloc (G1.trans hg1) (.cells #[.int .i64 b, .int .i64 0] 67)
  obtain ⟨W, hW⟩ : ∃ W, W = w1.alloc (.cells #[.int .i64 b, .int .i64 0] 67) := ⟨_, rfl⟩
  rw [← hW] at O2 X2 R2 C2 D3 G3 ⊢
  clear hW O1 X1 R1 D1 G1 D2 hg1 hcall hz1
  obtain ⟨c, hc⟩ : ∃ c, c = w1.heap.size := ⟨_, rfl⟩
  rw [← hc] at C2 hs1 ⊢
  clear hc
  obtain ⟨gO, hgO⟩ : ∃ g, g = w.heap.size := ⟨_, rfl⟩
  obtain ⟨gX, hgX⟩ : ∃ g, g = w.heap.size + 1 := ⟨_, rfl⟩
  obtain ⟨gR, hgR⟩ : ∃ g, g = w.heap.size + 2 := ⟨_, rfl⟩
  rw [← hgX] at X2
  rw [← hgR] at R2
  rw [← hgO] at O2
  rw [show w.heap.size + 1 + 1 = gR from hgR.symm, ← hgX, ← hgO]
  have q01 : ¬ gO = gX := by omega
  have q02 : ¬ gO = gR := by omega
  have q03 : ¬ gO = c := by omega
  have q10 : ¬ gX = gO := by omega
  have q12 : ¬ gX = gR := by omega
  have q13 : ¬ gX = c := by omega
  have q20 : ¬ gR = gO := by omega
  have q21 : ¬ gR = gX := by omega
  have q23 : ¬ gR = c := by omega
  have q30 : ¬ c = gO := by omega
  have q31 : ¬ c = gX := by omega
  have q32 : ¬ c = gR := by omega
  have hR0 : w.heap.size ≤ gR := by omega
  have hC0 : w.heap.size ≤ c := by omega
  have d2 : ¬ D = gR := by omega
  have d3 : ¬ D = c := by omega
  have neO : some gO ≠ some D := by simp; omega
  have neX : some gX ≠ some D := by simp; omega
  have neC : some c ≠ some D := by simp; omega
  have neR : some gR ≠ some D := by simp; omega
  clear hgO hgX hgR hs1 hlt
  have x0 := X2.cell 0
  have x1 := X2.cell 1
  have x2 := X2.cell 2
  have x3 := X2.cell 3
  simp only [List.getElem?_toArray, List.getElem?_cons_zero, List.getElem?_cons_succ] at x0 x1 x2 x3
  cases xbr
  · go_wp2
    go_loopw [10, 8, 9, 11] (fun iv zv ov _ wr => ∃ k : Nat, k ≤ P ∧ iv = .int .i64 k ∧ zv = .bool (phots (f 16) b ⟨(P : Int), xb, xbit, false⟩ (nx s) k).1.1 ∧ ov = .bool (phots (f 16) b ⟨(P : Int), xb, xbit, false⟩ (nx s) k).1.2 ∧ Rr wr D (phots (f 16) b ⟨(P : Int), xb, xbit, false⟩ (nx s) k).2 ∧
        Blk wr gO 40 (cells18 f) ∧ Blk wr gX 65 #[.int .i64 (P : Int), .int .i64 xb, .bool xbit, .bool false] ∧ Blk wr c 67 #[.int .i64 b, .int .i64 0] ∧ Blk wr gR 67 #[.int .i64 0, .int .i64 0] ∧ w.grownBy wr (some D)) (fun iv _ _ _ _ => P - (intOf iv).toNat)
    case atStart => exact ⟨0, by omega, rfl, rfl, rfl, D3, O2, X2, C2, R2, G3⟩
    case round =>
      clear D3 O2 X2 C2 R2 G3 x0 x1 x2 x3
      obtain ⟨k, hk, rfl, rfl, rfl, hD, hO, hX, hC, hR, hG⟩ := hrel
      obtain ⟨z, o, t2, ht⟩ : ∃ z o t2, phots (f 16) b ⟨(P : Int), xb, xbit, false⟩ (nx s) k = ((z, o), t2) := ⟨_, _, _, rfl⟩
      rw [ht] at hD ⊢
      have HT := hide ht
      clear ht
      have e0 := hO.cell 16
      rw [cells18_get f (by omega)] at e0
      have x0 := hX.cell 0
      simp only [List.getElem?_toArray, List.getElem?_cons_zero] at x0
      obtain ⟨y, hy⟩ : ∃ y : Int, y = (bel t2 256 : Int) := ⟨_, rfl⟩
      have hcc := fun W (hd : Rr W D t2) => rbelow256 D t2 W hd
      simp only [← hy] at hcc
      have HCC := hide hcc
      have HY := hide hy
      clear hcc hy
      by_cases hlt : k < P
      · by_cases hch : y < f 16
        · have hch2 : ¬ f 16 ≤ y := by omega
          go_wp2
          go_region_held3 (fun w' => w'.cell? ⟨gO, 16, none⟩ = some (.int .i64 (f 16))) (first | exact e0 | exact hg2.cell e0 neO | assumption) ((go_at_call 70; refine (HCC.out _ ?_).mono ?_; (first | exact hD | exact hD.drew); rintro e w2 ⟨rfl, hD2, hg2⟩))
          have hO2 : Blk w2 gO 40 (cells18 f) := by first | exact hO.grown hg2 neO | exact hO.drew.grown hg2 neO
          have hX2 : Blk w2 gX 65 #[.int .i64 (P : Int), .int .i64 xb, .bool xbit, .bool false] := by first | exact hX.grown hg2 neX | exact hX.drew.grown hg2 neX
          have hC2 : Blk w2 c 67 #[.int .i64 b, .int .i64 0] := by first | exact hC.grown hg2 neC | exact hC.drew.grown hg2 neC
          have hR2 : Blk w2 gR 67 #[.int .i64 0, .int .i64 0] := by first | exact hR.grown hg2 neR | exact hR.drew.grown hg2 neR
          have hG2 : w.grownBy w2 (some D) := by first | exact hG.trans hg2 | exact (grownBy_drew hG).trans hg2
          clear hO hX hC hR hG hg2 e0 x0 HCC hD
          have a1 := hX2.cell 1
          have a2 := hX2.cell 2
          have b0 := hC2.cell 0
          simp only [List.getElem?_toArray, List.getElem?_cons_zero, List.getElem?_cons_succ] at a1 a2 b0
          have HCH := hide (show (bel t2 256 : Int) < f 16 by rw [← HY.out]; exact hch)
          by_cases hbb : b = xb
          · have hbq : (b != xb) = false := by simpa using hbb
            have HBB := hide hbb
            clear hbb
            cases xbit
            · have HT2 := hide (show phots (f 16) b ⟨(P : Int), xb, false, false⟩ (nx s) (k + 1) = ((true, o), nx t2) by rw [phots, HT.out, phot, if_pos HCH.out, if_pos HBB.out]; rfl)
              go_wp2
              go_roundw
              case rel => exact ⟨k + 1, by omega, by go_num, by rw [HT2.out], by rw [HT2.out], by rw [HT2.out]; first | exact hD2 | exact hD2.drew, by first | exact hO2 | exact hO2.drew, by first | exact hX2 | exact hX2.drew, by first | exact hC2 | exact hC2.drew, by first | exact hR2 | exact hR2.drew, by first | exact hG2 | exact grownBy_drew hG2⟩
              case measure => simp [intOf] <;> omega
            · have HT2 := hide (show phots (f 16) b ⟨(P : Int), xb, true, false⟩ (nx s) (k + 1) = ((z, true), nx t2) by rw [phots, HT.out, phot, if_pos HCH.out, if_pos HBB.out]; rfl)
              go_wp2
              go_roundw
              case rel => exact ⟨k + 1, by omega, by go_num, by rw [HT2.out], by rw [HT2.out], by rw [HT2.out]; first | exact hD2 | exact hD2.drew, by first | exact hO2 | exact hO2.drew, by first | exact hX2 | exact hX2.drew, by first | exact hC2 | exact hC2.drew, by first | exact hR2 | exact hR2.drew, by first | exact hG2 | exact grownBy_drew hG2⟩
              case measure => simp [intOf] <;> omega
          · have hbq : (b != xb) = true := by simpa using hbb
            have HBB := hide hbb
            clear hbb
            have hlt2 := bel_lt (nx t2) 2 (by omega)
            have h01 : bel (nx t2) 2 = 0 ∨ bel (nx t2) 2 = 1 := by omega
            have hbc := fun W (hd : Rr W D (nx t2)) => rbelow2 D (nx t2) W hd
            rcases h01 with h0 | h0
            · simp only [h0] at hbc
              have HB2 := hide hbc
              have HT2 := hide (show phots (f 16) b ⟨(P : Int), xb, xbit, false⟩ (nx s) (k + 1) = ((true, o), nx (nx t2)) by rw [phots, HT.out, phot, if_pos HCH.out, if_neg HBB.out]; simp only [h0]; rfl)
              clear hbc h0 hlt2
              go_wp2_with (go_at_call 70; refine (HB2.out _ ?_).mono ?_; (first | exact hD2 | exact hD2.drew); rintro e w3 ⟨rfl, hD3, hg3⟩)
              go_roundw
              case rel => exact ⟨k + 1, by omega, by go_num, by rw [HT2.out], by rw [HT2.out], by rw [HT2.out]; exact hD3, by first | exact hO2.grown hg3 neO | exact hO2.drew.grown hg3 neO, by first | exact hX2.grown hg3 neX | exact hX2.drew.grown hg3 neX, by first | exact hC2.grown hg3 neC | exact hC2.drew.grown hg3 neC, by first | exact hR2.grown hg3 neR | exact hR2.drew.grown hg3 neR, by first | exact hG2.trans hg3 | exact (grownBy_drew hG2).trans hg3⟩
              case measure => simp [intOf] <;> omega
            · simp only [h0] at hbc
              have HB2 := hide hbc
              have HT2 := hide (show phots (f 16) b ⟨(P : Int), xb, xbit, false⟩ (nx s) (k + 1) = ((z, true), nx (nx t2)) by rw [phots, HT.out, phot, if_pos HCH.out, if_neg HBB.out]; simp only [h0]; rfl)
              clear hbc h0 hlt2
              go_wp2_with (go_at_call 70; refine (HB2.out _ ?_).mono ?_; (first | exact hD2 | exact hD2.drew); rintro e w3 ⟨rfl, hD3, hg3⟩)
              go_roundw
              case rel => exact ⟨k + 1, by omega, by go_num, by rw [HT2.out], by rw [HT2.out], by rw [HT2.out]; exact hD3, by first | exact hO2.grown hg3 neO | exact hO2.drew.grown hg3 neO, by first | exact hX2.grown hg3 neX | exact hX2.drew.grown hg3 neX, by first | exact hC2.grown hg3 neC | exact hC2.drew.grown hg3 neC, by first | exact hR2.grown hg3 neR | exact hR2.drew.grown hg3 neR, by first | exact hG2.trans hg3 | exact (grownBy_drew hG2).trans hg3⟩
              case measure => simp [intOf] <;> omega
        · have hch2 : f 16 ≤ y := by omega
          have HT2 := hide (show phots (f 16) b ⟨(P : Int), xb, xbit, false⟩ (nx s) (k + 1) = ((z, o), nx t2) by rw [phots, HT.out, phot, if_neg (by simp only; rw [← HY.out]; exact hch)])
          go_wp2
          go_region_held3 (fun w' => w'.cell? ⟨gO, 16, none⟩ = some (.int .i64 (f 16))) (first | exact e0 | exact hg2.cell e0 neO | assumption) ((go_at_call 70; refine (HCC.out _ ?_).mono ?_; (first | exact hD | exact hD.drew); rintro e w2 ⟨rfl, hD2, hg2⟩))
          go_wp2
          go_roundw
          case rel => exact ⟨k + 1, by omega, by go_num, by rw [HT2.out], by rw [HT2.out], by rw [HT2.out]; first | exact hD2 | exact hD2.drew, by first | exact hO.grown hg2 neO | exact (hO.grown hg2 neO).drew | exact hO.drew.grown hg2 neO | exact (hO.drew.grown hg2 neO).drew, by first | exact hX.grown hg2 neX | exact (hX.grown hg2 neX).drew | exact hX.drew.grown hg2 neX | exact (hX.drew.grown hg2 neX).drew, by first | exact hC.grown hg2 neC | exact (hC.grown hg2 neC).drew | exact hC.drew.grown hg2 neC | exact (hC.drew.grown hg2 neC).drew, by first | exact hR.grown hg2 neR | exact (hR.grown hg2 neR).drew | exact hR.drew.grown hg2 neR | exact (hR.drew.grown hg2 neR).drew, by first | exact hG.trans hg2 | exact grownBy_drew (hG.trans hg2) | exact (grownBy_drew hG).trans hg2 | exact grownBy_drew ((grownBy_drew hG).trans hg2)⟩
          case measure => simp [intOf] <;> omega
      · obtain rfl : P = k := by omega
        clear e0
        have e0 := hO.cell 17
        rw [cells18_get f (by omega)] at e0
        have c0 := hC.cell 0
        have c1 := hC.cell 1
        have r0 := hR.cell 0
        have r1 := hR.cell 1
        simp only [List.getElem?_toArray, List.getElem?_cons_zero, List.getElem?_cons_succ] at c0 c1 r0 r1
        obtain ⟨y2, hy2⟩ : ∃ y2 : Int, y2 = (bel (nx t2) 256 : Int) := ⟨_, rfl⟩
        have hc2 := fun W (hd : Rr W D (nx t2)) => rbelow256 D (nx t2) W hd
        simp only [← hy2] at hc2
        have HC2 := hide hc2
        have HY2 := hide hy2
        clear hc2 hy2
        have HRES := hide (show detF (f 16) (f 17) ⟨(P : Int), xb, xbit, false⟩ s = (⟨b, knd (z || decide (y < f 17)) (o || decide (y2 < f 17))⟩, nx (nx t2)) by rw [detF_dull rfl, ← HB.out]; simp only [Int.toNat_natCast]; rw [HT.out, HY.out, HY2.out]; rfl)
        by_cases g1 : y < f 17
        · rw [decide_eq_true g1, Bool.or_true] at HRES
          by_cases g2 : y2 < f 17
          · rw [decide_eq_true g2, Bool.or_true] at HRES
            go_wp2
            go_region_held3 (fun w' => w'.cell? ⟨gO, 17, none⟩ = some (.int .i64 (f 17))) (first | exact e0 | exact hg2.cell e0 neO | assumption) ((go_at_call 70; refine (HCC.out _ ?_).mono ?_; (first | exact hD | exact hD.drew); rintro e w2 ⟨rfl, hD2, hg2⟩))
            have e2 := hg2.cell e0 neO
            have hC2 : Blk w2 c 67 #[.int .i64 b, .int .i64 0] := by first | exact hC.grown hg2 neC | exact hC.drew.grown hg2 neC
            have hR2 : Blk w2 gR 67 #[.int .i64 0, .int .i64 0] := by first | exact hR.grown hg2 neR | exact hR.drew.grown hg2 neR
            have hG2 : w.grownBy w2 (some D) := by first | exact hG.trans hg2 | exact (grownBy_drew hG).trans hg2
            clear hg2 e0 hC hR hG hO hX x0 c0 c1 r0 r1 HCC hD
            go_wp2
            go_region_held3 (fun w' => w'.cell? ⟨gO, 17, none⟩ = some (.int .i64 (f 17))) (first | exact e2 | exact hg3.cell e2 neO | assumption) ((go_at_call 70; refine (HC2.out _ ?_).mono ?_; (first | exact hD2 | exact hD2.drew); rintro e w3 ⟨rfl, hD3, hg3⟩))
            have hC3 : Blk w3 c 67 #[.int .i64 b, .int .i64 0] := by first | exact hC2.grown hg3 neC | exact hC2.drew.grown hg3 neC
            have hR3 : Blk w3 gR 67 #[.int .i64 0, .int .i64 0] := by first | exact hR2.grown hg3 neR | exact hR2.drew.grown hg3 neR
            have hG3 : w.grownBy w3 (some D) := by first | exact hG2.trans hg3 | exact (grownBy_drew hG2).trans hg3
            clear hg3 e2 hC2 hR2 hG2 hD2
            have c0 := hC3.cell 0
            have c1 := hC3.cell 1
            have r0 := hR3.cell 0
            have r1 := hR3.cell 1
            have cz := hC3.frozen
            have rz := hR3.frozen
            simp only [List.getElem?_toArray, List.getElem?_cons_zero, List.getElem?_cons_succ] at c0 c1 r0 r1
            go_wp2_with (go_at_call 102; refine (rkind_c _ _ _).mono ?_; rintro e w' ⟨rfl, rfl⟩)
            refine bodyPost_ret (v := .agg #[.int .i64 b, .int .i64 (knd true true)]) (by simp [results, Tryd.results68, go_sem, r0, r1]) rfl ⟨?_, ?_, ?_⟩
            · rw [HRES.out]
            · rw [HRES.out]
              repeat (first | exact hD3 | refine Rr.far ?_ (by simp; omega) _ | refine Rr.drew ?_)
            · repeat (first | exact hG3 | refine grownBy_set ?_ (by simp; omega) _ | refine grownBy_drew ?_)
          · rw [decide_eq_false g2, Bool.or_false] at HRES
            go_wp2
            go_region_held3 (fun w' => w'.cell? ⟨gO, 17, none⟩ = some (.int .i64 (f 17))) (first | exact e0 | exact hg2.cell e0 neO | assumption) ((go_at_call 70; refine (HCC.out _ ?_).mono ?_; (first | exact hD | exact hD.drew); rintro e w2 ⟨rfl, hD2, hg2⟩))
            have e2 := hg2.cell e0 neO
            have hC2 : Blk w2 c 67 #[.int .i64 b, .int .i64 0] := by first | exact hC.grown hg2 neC | exact hC.drew.grown hg2 neC
            have hR2 : Blk w2 gR 67 #[.int .i64 0, .int .i64 0] := by first | exact hR.grown hg2 neR | exact hR.drew.grown hg2 neR
            have hG2 : w.grownBy w2 (some D) := by first | exact hG.trans hg2 | exact (grownBy_drew hG).trans hg2
            clear hg2 e0 hC hR hG hO hX x0 c0 c1 r0 r1 HCC hD
            go_wp2
            go_region_held3 (fun w' => w'.cell? ⟨gO, 17, none⟩ = some (.int .i64 (f 17))) (first | exact e2 | exact hg3.cell e2 neO | assumption) ((go_at_call 70; refine (HC2.out _ ?_).mono ?_; (first | exact hD2 | exact hD2.drew); rintro e w3 ⟨rfl, hD3, hg3⟩))
            have hC3 : Blk w3 c 67 #[.int .i64 b, .int .i64 0] := by first | exact hC2.grown hg3 neC | exact hC2.drew.grown hg3 neC
            have hR3 : Blk w3 gR 67 #[.int .i64 0, .int .i64 0] := by first | exact hR2.grown hg3 neR | exact hR2.drew.grown hg3 neR
            have hG3 : w.grownBy w3 (some D) := by first | exact hG2.trans hg3 | exact (grownBy_drew hG2).trans hg3
            clear hg3 e2 hC2 hR2 hG2 hD2
            have c0 := hC3.cell 0
            have c1 := hC3.cell 1
            have r0 := hR3.cell 0
            have r1 := hR3.cell 1
            have cz := hC3.frozen
            have rz := hR3.frozen
            simp only [List.getElem?_toArray, List.getElem?_cons_zero, List.getElem?_cons_succ] at c0 c1 r0 r1
            go_wp2_with (go_at_call 102; refine (rkind_c _ _ _).mono ?_; rintro e w' ⟨rfl, rfl⟩)
            refine bodyPost_ret (v := .agg #[.int .i64 b, .int .i64 (knd true o)]) (by simp [results, Tryd.results68, go_sem, r0, r1]) rfl ⟨?_, ?_, ?_⟩
            · rw [HRES.out]
            · rw [HRES.out]
              repeat (first | exact hD3 | refine Rr.far ?_ (by simp; omega) _ | refine Rr.drew ?_)
            · repeat (first | exact hG3 | refine grownBy_set ?_ (by simp; omega) _ | refine grownBy_drew ?_)
        · rw [decide_eq_false g1, Bool.or_false] at HRES
          by_cases g2 : y2 < f 17
          · rw [decide_eq_true g2, Bool.or_true] at HRES
            go_wp2
            go_region_held3 (fun w' => w'.cell? ⟨gO, 17, none⟩ = some (.int .i64 (f 17))) (first | exact e0 | exact hg2.cell e0 neO | assumption) ((go_at_call 70; refine (HCC.out _ ?_).mono ?_; (first | exact hD | exact hD.drew); rintro e w2 ⟨rfl, hD2, hg2⟩))
            have e2 := hg2.cell e0 neO
            have hC2 : Blk w2 c 67 #[.int .i64 b, .int .i64 0] := by first | exact hC.grown hg2 neC | exact hC.drew.grown hg2 neC
            have hR2 : Blk w2 gR 67 #[.int .i64 0, .int .i64 0] := by first | exact hR.grown hg2 neR | exact hR.drew.grown hg2 neR
            have hG2 : w.grownBy w2 (some D) := by first | exact hG.trans hg2 | exact (grownBy_drew hG).trans hg2
            clear hg2 e0 hC hR hG hO hX x0 c0 c1 r0 r1 HCC hD
            go_wp2
            go_region_held3 (fun w' => w'.cell? ⟨gO, 17, none⟩ = some (.int .i64 (f 17))) (first | exact e2 | exact hg3.cell e2 neO | assumption) ((go_at_call 70; refine (HC2.out _ ?_).mono ?_; (first | exact hD2 | exact hD2.drew); rintro e w3 ⟨rfl, hD3, hg3⟩))
            have hC3 : Blk w3 c 67 #[.int .i64 b, .int .i64 0] := by first | exact hC2.grown hg3 neC | exact hC2.drew.grown hg3 neC
            have hR3 : Blk w3 gR 67 #[.int .i64 0, .int .i64 0] := by first | exact hR2.grown hg3 neR | exact hR2.drew.grown hg3 neR
            have hG3 : w.grownBy w3 (some D) := by first | exact hG2.trans hg3 | exact (grownBy_drew hG2).trans hg3
            clear hg3 e2 hC2 hR2 hG2 hD2
            have c0 := hC3.cell 0
            have c1 := hC3.cell 1
            have r0 := hR3.cell 0
            have r1 := hR3.cell 1
            have cz := hC3.frozen
            have rz := hR3.frozen
            simp only [List.getElem?_toArray, List.getElem?_cons_zero, List.getElem?_cons_succ] at c0 c1 r0 r1
            go_wp2_with (go_at_call 102; refine (rkind_c _ _ _).mono ?_; rintro e w' ⟨rfl, rfl⟩)
            refine bodyPost_ret (v := .agg #[.int .i64 b, .int .i64 (knd z true)]) (by simp [results, Tryd.results68, go_sem, r0, r1]) rfl ⟨?_, ?_, ?_⟩
            · rw [HRES.out]
            · rw [HRES.out]
              repeat (first | exact hD3 | refine Rr.far ?_ (by simp; omega) _ | refine Rr.drew ?_)
            · repeat (first | exact hG3 | refine grownBy_set ?_ (by simp; omega) _ | refine grownBy_drew ?_)
          · rw [decide_eq_false g2, Bool.or_false] at HRES
            go_wp2
            go_region_held3 (fun w' => w'.cell? ⟨gO, 17, none⟩ = some (.int .i64 (f 17))) (first | exact e0 | exact hg2.cell e0 neO | assumption) ((go_at_call 70; refine (HCC.out _ ?_).mono ?_; (first | exact hD | exact hD.drew); rintro e w2 ⟨rfl, hD2, hg2⟩))
            have e2 := hg2.cell e0 neO
            have hC2 : Blk w2 c 67 #[.int .i64 b, .int .i64 0] := by first | exact hC.grown hg2 neC | exact hC.drew.grown hg2 neC
            have hR2 : Blk w2 gR 67 #[.int .i64 0, .int .i64 0] := by first | exact hR.grown hg2 neR | exact hR.drew.grown hg2 neR
            have hG2 : w.grownBy w2 (some D) := by first | exact hG.trans hg2 | exact (grownBy_drew hG).trans hg2
            clear hg2 e0 hC hR hG hO hX x0 c0 c1 r0 r1 HCC hD
            go_wp2
            go_region_held3 (fun w' => w'.cell? ⟨gO, 17, none⟩ = some (.int .i64 (f 17))) (first | exact e2 | exact hg3.cell e2 neO | assumption) ((go_at_call 70; refine (HC2.out _ ?_).mono ?_; (first | exact hD2 | exact hD2.drew); rintro e w3 ⟨rfl, hD3, hg3⟩))
            have hC3 : Blk w3 c 67 #[.int .i64 b, .int .i64 0] := by first | exact hC2.grown hg3 neC | exact hC2.drew.grown hg3 neC
            have hR3 : Blk w3 gR 67 #[.int .i64 0, .int .i64 0] := by first | exact hR2.grown hg3 neR | exact hR2.drew.grown hg3 neR
            have hG3 : w.grownBy w3 (some D) := by first | exact hG2.trans hg3 | exact (grownBy_drew hG2).trans hg3
            clear hg3 e2 hC2 hR2 hG2 hD2
            have c0 := hC3.cell 0
            have c1 := hC3.cell 1
            have r0 := hR3.cell 0
            have r1 := hR3.cell 1
            have cz := hC3.frozen
            have rz := hR3.frozen
            simp only [List.getElem?_toArray, List.getElem?_cons_zero, List.getElem?_cons_succ] at c0 c1 r0 r1
            go_wp2_with (go_at_call 102; refine (rkind_c _ _ _).mono ?_; rintro e w' ⟨rfl, rfl⟩)
            refine bodyPost_ret (v := .agg #[.int .i64 b, .int .i64 (knd z o)]) (by simp [results, Tryd.results68, go_sem, r0, r1]) rfl ⟨?_, ?_, ?_⟩
            · rw [HRES.out]
            · rw [HRES.out]
              repeat (first | exact hD3 | refine Rr.far ?_ (by simp; omega) _ | refine Rr.drew ?_)
            · repeat (first | exact hG3 | refine grownBy_set ?_ (by simp; omega) _ | refine grownBy_drew ?_)
  · have c0 := C2.cell 0
    have c1 := C2.cell 1
    have r0 := R2.cell 0
    have r1 := R2.cell 1
    have cz := C2.frozen
    have rz := R2.frozen
    simp only [List.getElem?_toArray, List.getElem?_cons_zero, List.getElem?_cons_succ] at c0 c1 r0 r1
    by_cases hbb : b = xb
    · have hbq : (b == xb) = true := by simpa using hbb
      have HBB := hide hbb
      clear hbb
      cases xbit
      · skip
        go_wp2_with (go_at_call 102; refine (rkind_c _ _ _).mono ?_; rintro e w' ⟨rfl, rfl⟩)
        refine bodyPost_ret (v := .agg #[.int .i64 b, .int .i64 (knd true false)]) (by simp [results, Tryd.results68, go_sem, r0, r1]) rfl ⟨?_, ?_, ?_⟩
        · rw [detF_bright rfl, ← HB.out]; simp [HBB.out, knd]
        · rw [detF_bright rfl]
          repeat (first | exact D3 | refine Rr.far ?_ (by simp; omega) _ | refine Rr.drew ?_)
        · repeat (first | exact G3 | refine grownBy_set ?_ (by simp; omega) _ | refine grownBy_drew ?_)
      · skip
        go_wp2_with (go_at_call 102; refine (rkind_c _ _ _).mono ?_; rintro e w' ⟨rfl, rfl⟩)
        refine bodyPost_ret (v := .agg #[.int .i64 b, .int .i64 (knd false true)]) (by simp [results, Tryd.results68, go_sem, r0, r1]) rfl ⟨?_, ?_, ?_⟩
        · rw [detF_bright rfl, ← HB.out]; simp [HBB.out, knd]
        · rw [detF_bright rfl]
          repeat (first | exact D3 | refine Rr.far ?_ (by simp; omega) _ | refine Rr.drew ?_)
        · repeat (first | exact G3 | refine grownBy_set ?_ (by simp; omega) _ | refine grownBy_drew ?_)
    · have hbq : (b == xb) = false := by simpa using hbb
      have HBB := hide hbb
      clear hbb
      go_wp2
      refine bodyPost_ret (v := .agg #[.int .i64 b, .int .i64 0]) (by simp [results, Tryd.results68, go_sem, r0, r1]) rfl ⟨?_, ?_, ?_⟩
      · rw [detF_bright rfl, ← HB.out]; simp [HBB.out]
      · rw [detF_bright rfl]
        repeat (first | exact D3 | refine Rr.far ?_ (by simp; omega) _ | refine Rr.drew ?_)
      · repeat (first | exact G3 | refine grownBy_set ?_ (by simp; omega) _ | refine grownBy_drew ?_)
end Go.Proofs.YtddajmagdjkodaaDoor
