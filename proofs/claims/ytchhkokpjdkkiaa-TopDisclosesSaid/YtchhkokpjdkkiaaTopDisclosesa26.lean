/- Contracts of the law's two and plan (the Top seat). Contracts of reconcile's Places and Reply (the Top seat). -/
import Derived.Test.YtchhkokpjdkkiaaTopDisclosesa02
import Derived.Test.YtchhkokpjdkkiaaTopDisclosesa21
import Derived.BigQuiet
import Derived.Deep.DeepCutAuto
import Derived.Test.YtchhkokpjdkkiaaTopDisclosesa19
namespace Go.Proofs.Ytchhkokpjdkkiaa
open Go.RowKit

/-- The plan of a job. -/
def planC (x : Jb) : Cas := ⟨1 + x.p % 3, 1 + x.bl % 32, x.sd⟩
theorem planC_ok (x : Jb) : okCas (planC x) := by
  unfold planC okCas
  have := x.ok.2.2.2.2.2.2
  simp only
  omega
theorem inf_cas : (Try.prog.info? 34).map (·.size) = some 3 := by kernel_rfl
set_option maxRecDepth 100000 in
set_option maxHeartbeats 1600000 in
theorem plan_c (x : Jb) (A0 : Option Addr) (n0 c0 : Nat) (A1 : Option Addr) (n1 c1 : Nat) (w : World) :
    Calls Try.prog 8 #[.agg (jobV x A0 n0 c0 A1 n1 c1)] w fun e w' => e = .returned (.agg (casV (planC x))) ∧ Below w.heap.size w w' := by
  have hB0 := Blk.newAt w 26 (jobV x A0 n0 c0 A1 n1 c1) w.heap.size rfl
  have hb0 := below_alloc w (.cells (jobV x A0 n0 c0 A1 n1 c1) 26)
  obtain ⟨p, bl, sa, ma, wi, ep, sd, h1, h2, h3, h4, h5, h6, h7⟩ := x
  obtain ⟨p3, hp3⟩ : ∃ q, q = p % 3 := ⟨_, rfl⟩
  obtain ⟨b3, hb3⟩ : ∃ q, q = bl % 32 := ⟨_, rfl⟩
  have hp3' : p3 < 3 := by omega
  have hb3' : b3 < 32 := by omega
  have hr1 : (p : Int) % 3 = (p3 : Int) := by omega
  have hr2 : (p : Int).tmod 3 = (p3 : Int) := by rw [Int.tmod_eq_emod_of_nonneg (by omega)]; exact hr1
  have hr3 : (bl : Int) % 32 = (b3 : Int) := by omega
  have hr4 : (bl : Int).tmod 32 = (b3 : Int) := by rw [Int.tmod_eq_emod_of_nonneg (by omega)]; exact hr3
  unfold planC casV
  simp only [jobV] at hB0 hb0 ⊢
  rw [← hp3, ← hb3]
  clear hp3 hb3
  go_enter Try.func8, Try.ntmps8
  go_upto_region 1 with fail
  have hB1 := Blk.newAt (w.alloc (.cells #[.slice A0 n0 c0, .slice A1 n1 c1, .int .u8 (p : Int), .int .u8 (bl : Int), .int .u8 (sa : Int), .int .u8 (ma : Int), .int .u8 (wi : Int), .int .u8 (ep : Int), .int .u64 (sd : Int)] 26)) 34 #[.int .i64 0, .int .i64 0, .int .u64 0] (w.heap.size + 1) (by simp)
  have hB0 := hB0.alloc (.cells #[.int .i64 0, .int .i64 0, .int .u64 0] 34)
  have hb0 := hb0.alloc hb0.size (.cells #[.int .i64 0, .int .i64 0, .int .u64 0] 34)
  obtain ⟨w2, hw2⟩ : ∃ q, q = (w.alloc (.cells #[.slice A0 n0 c0, .slice A1 n1 c1, .int .u8 (p : Int), .int .u8 (bl : Int), .int .u8 (sa : Int), .int .u8 (ma : Int), .int .u8 (wi : Int), .int .u8 (ep : Int), .int .u64 (sd : Int)] 26)).alloc (.cells #[.int .i64 0, .int .i64 0, .int .u64 0] 34) := ⟨_, rfl⟩
  rw [← hw2] at hB0 hB1 hb0 ⊢
  obtain ⟨gR, hgR⟩ : ∃ q, q = w.heap.size + 1 := ⟨_, rfl⟩
  rw [← hgR] at hB1 ⊢
  have hne : w.heap.size ≠ gR := by omega
  have hle : w.heap.size ≤ gR := by omega
  obtain ⟨gJ, hgJ⟩ : ∃ q, q = w.heap.size := ⟨_, rfl⟩
  rw [← hgJ] at hB0 hne ⊢
  clear hw2 hgR hgJ
  have l2 := hB0.cell 2
  have l3 := hB0.cell 3
  have l8 := hB0.cell 8
  have k0 := hB1.cell 0
  have k1 := hB1.cell 1
  have k2 := hB1.cell 2
  have f0 := hB1.frozen 0
  have f1 := hB1.frozen 1
  have f2 := hB1.frozen 2
  simp only [List.getElem?_toArray, List.getElem?_cons_zero, List.getElem?_cons_succ] at l2 l3 l8 k0 k1 k2
  have H1 := hide (And.intro hB1 (And.intro hb0 hle))
  clear hB0 hB1 hb0 hle
  go_wp2
  have hF := ((H1.out.1.set_ 0 (.int .i64 (1 + (p3 : Int)))).set_ 1 (.int .i64 (1 + (b3 : Int)))).set_ 2 (.int .u64 (sd : Int))
  exact bodyPost_ret (results_cell_row rfl _ _ gR _ _ (0, 0) _ rfl hF Try.underlying34 rfl inf_cas) rfl ⟨rfl, ((H1.out.2.1.setCell (p := ⟨gR, 0, none⟩) H1.out.2.2 _).setCell (p := ⟨gR, 1, none⟩) H1.out.2.2 _).setCell (p := ⟨gR, 2, none⟩) H1.out.2.2 _⟩
def STwo (w : World) (e : Ending) (w' : World) : Prop :=
  ∃ A B n c d L M, n ≤ 9 ∧ e = .returned (.tuple #[.slice A n c, .slice B n d]) ∧ Rd eBool w' w'.heap.size A n c L ∧ Rd eBool w' w'.heap.size B n d M ∧ Below w.heap.size w w'
set_option maxRecDepth 100000 in
set_option maxHeartbeats 3200000 in
theorem two_c (x : Jb) (A0 : Option Addr) (n0 c0 : Nat) (B0 : List Bool) (A1 : Option Addr) (n1 c1 : Nat) (E0 : List (Fin 65536)) (w : World) (s0 : Rd eBool w w.heap.size A0 n0 c0 B0) (s1 : Rd eU16 w w.heap.size A1 n1 c1 E0) :
    Calls Try.prog 6 #[.agg (jobV x A0 n0 c0 A1 n1 c1), .int .i64 9] w (STwo w) := by
  have hB0 := Blk.newAt w 26 (jobV x A0 n0 c0 A1 n1 c1) w.heap.size rfl
  have hb0 := below_alloc w (.cells (jobV x A0 n0 c0 A1 n1 c1) 26)
  have hm0 := s0.max
  have hm1 := s1.max
  have hc0 := s0.cap
  have hc1 := s1.cap
  have HST := hide s0
  have HS1 := hide s1
  clear s0 s1
  go_enter Try.func6, Try.ntmps6
  go_upto_region 1 with fail
  obtain ⟨wA, hwA⟩ : ∃ q, q = w.alloc (.cells (jobV x A0 n0 c0 A1 n1 c1) 26) := ⟨_, rfl⟩
  rw [← hwA] at hB0 hb0 ⊢
  obtain ⟨gJ, hgJ⟩ : ∃ q, q = w.heap.size := ⟨_, rfl⟩
  have HGJ := hide hgJ
  rw [← hgJ] at hB0 ⊢
  clear hwA hgJ
  have j0 := hB0.cell 0
  have j1 := hB0.cell 1
  simp only [jobV, List.getElem?_toArray, List.getElem?_cons_zero, List.getElem?_cons_succ] at j0 j1
  have hbE := below_alloc wA (.cells #[] 4)
  have jE := (hbE.cell (p := ⟨gJ, 0, none⟩) hB0.lt).trans j0
  have HE := hide (And.intro (Ow.emptyAt (e := eBool) wA 4 gJ (Nat.le_of_lt hB0.lt) wA.heap.size rfl) (And.intro (hB0.keep hbE) (And.intro (below_on hb0 hbE) hB0.lt)))
  clear hB0 hb0 hbE
  go_cut [6] (fun sv wx => ∃ (A6 : Option Addr) (c6 m : Nat), m ≤ 9 ∧ sv = .slice A6 m c6 ∧ Rd eBool wx wx.heap.size A6 m c6 (B0.take m) ∧ Below w.heap.size w wx ∧ Blk wx gJ 26 (jobV x A0 n0 c0 A1 n1 c1))
  case first =>
    by_cases h9 : n0 < 9
    · have h9i : (n0 : Int) < 9 := by omega
      have e2 : (n0 : Int) ≤ (c0 : Int) := by omega
      have RST := hide (((HST.out.take (m := n0) (Nat.le_refl _)).on HE.out.2.2.1))
      go_wp2_with (at_builtin; refine wl_app eBool _ rfl _ _ _ rfl gJ 4 (.bool false) 1 Try.underlying22 info_boolT rfl (by omega) _ _ _ _ (by rfl) HE.out.1 _ n0 c0 (B0.take n0) (by rfl) _ RST.out (by omega) (by have := HE.out.2.2.2; simp; omega) ?_; intro A6 c6 w6 o6 hg6 hA6)
      go_meet
      rw [Nat.zero_add] at o6
      have hbw := below_app HE.out.2.2.1 HE.out.1 hg6 (by rw [HGJ.out]; exact Nat.le_refl _) (Nat.le_refl _)
      exact ⟨A6, c6, n0, by omega, by simp, o6.rd, hbw, HE.out.1.otherB hg6 (by decide) HE.out.2.1⟩
    · have h9i : ¬ ((n0 : Int) < 9) := by omega
      have h9j : 9 ≤ n0 := by omega
      have h9k : (if (9 : Int) < (n0 : Int) then (9 : Int) else (n0 : Int)) = 9 := by split <;> omega
      have e2 : (9 : Int) ≤ (c0 : Int) := by omega
      have RST := hide (((HST.out.take (m := 9) h9j).on HE.out.2.2.1))
      go_wp2_with (at_builtin; refine wl_app eBool _ rfl _ _ _ rfl gJ 4 (.bool false) 1 Try.underlying22 info_boolT rfl (by omega) _ _ _ _ (by rfl) HE.out.1 _ 9 c0 (B0.take 9) (by rfl) _ RST.out (by omega) (by have := HE.out.2.2.2; simp; omega) ?_; intro A6 c6 w6 o6 hg6 hA6)
      go_meet
      rw [Nat.zero_add] at o6
      have hbw := below_app HE.out.2.2.1 HE.out.1 hg6 (by rw [HGJ.out]; exact Nat.le_refl _) (Nat.le_refl _)
      exact ⟨A6, c6, 9, by omega, by simp, o6.rd, hbw, HE.out.1.otherB hg6 (by decide) HE.out.2.1⟩
  case rest =>
    obtain ⟨A6, c6, m, hm9, rfl, ra, hbw, hBw⟩ := hcut
    have hbE := below_alloc wc (.cells #[] 4)
    have HE2 := hide (And.intro (Ow.emptyAt (e := eBool) wc 4 wc.heap.size (Nat.le_refl _) wc.heap.size rfl) (And.intro (hBw.keep hbE) (And.intro hbE (ra.on hbE))))
    have HCW := hide (And.intro hbw (And.intro hBw ra))
    have hml := ra.len
    have hmc := ra.cap
    have hmm := ra.max
    clear HE jE j0 j1 hbE hbw hBw ra
    go_upto_region 3 with (at_builtin; refine wl_app eBool _ rfl _ _ _ rfl wc.heap.size 4 (.bool false) 1 Try.underlying22 info_boolT rfl (by omega) _ _ _ _ (by rfl) HE2.out.1 _ m c6 (B0.take m) (by rfl) _ HE2.out.2.2.2 (by omega) (by simp) ?_; intro A7 c7 w7 o7 hg7 hA7)
    rw [Nat.zero_add] at o7
    have hb7 := below_app HE2.out.2.2.1 HE2.out.1 hg7 (Nat.le_refl _) (Nat.le_refl _)
    have H7 := hide (And.intro o7 hb7)
    have hm1' := hc1
    obtain ⟨gW, hgW⟩ : ∃ q, q = wc.heap.size := ⟨_, rfl⟩
    have HGW := hide hgW
    clear hA7 hg7 hb7 hgW HE2
    go_wp2
    go_loopw [8] (fun iv wr => ∃ (k : Nat) (M : List Bool), iv = .int .i64 k ∧ k ≤ n1 ∧ Ow eBool wr wc.heap.size 4 A7 m c7 M ∧ Below wc.heap.size wc wr) (fun iv _ => n1 - (intOf iv).toNat)
    case atStart => exact ⟨0, _, rfl, Nat.zero_le _, H7.out.1, H7.out.2⟩
    case round =>
      obtain ⟨k, M, rfl, hk, oM, hbM⟩ := hrel
      have j1 := (HCW.out.2.1.keep hbM).cell 1
      simp only [jobV, List.getElem?_toArray, List.getElem?_cons_zero, List.getElem?_cons_succ] at j1
      have hkk : k ≤ 9223372036854775807 := by omega
      have HMM := hide (And.intro oM hbM)
      by_cases h1 : k < n1
      · have h1i : (k : Int) < (n1 : Int) := by omega
        by_cases h2 : k < 100
        · have h2i : (k : Int) < 100 := by omega
          by_cases h3 : 0 < m
          · have h3i : (0 : Int) < (m : Int) := by omega
            obtain ⟨b1, o1, x, rfl, hb1, hx, hcx⟩ := (HS1.out.on (below_on HCW.out.1 hbM)).get h1
            have x0 := hcx 0 _ rfl
            simp only [eU16, Nat.add_zero, Nat.mul_one] at x0
            obtain ⟨xv, hxv⟩ := x
            simp only at x0
            obtain ⟨j, hj⟩ : ∃ j, j = xv % m := ⟨_, rfl⟩
            have hjm : j < m := by rw [hj]; exact Nat.mod_lt _ h3
            have r1 : (xv : Int) % (m : Int) = (j : Int) := by rw [hj]; exact (Int.natCast_emod xv m).symm
            have r2 : (xv : Int).tmod (m : Int) = (j : Int) := by rw [Int.tmod_eq_emod_of_nonneg (by omega)]; exact r1
            have r3 : ¬ ((m : Int) = 0) := by omega
            have r4 : ¬ (m = 0) := by omega
            have hjI : (j : Int) < (m : Int) := by omega
            obtain ⟨g, y, rfl, hbg, hgl, hy, hcy⟩ := oM.get hjm
            have y0 := hcy 0 _ rfl
            simp only [eBool, Nat.add_zero, Nat.mul_one] at y0
            have fy := oM.frozen j
            clear oM hbM hcx hcy hx hj hy
            go_wp2
            go_roundw
            case rel => exact ⟨k + 1, M.set j (!y), by go_num, by omega, HMM.out.1.store1 hjm (!y) rfl rfl, HMM.out.2.setCell (p := ⟨g, j, none⟩) hbg _⟩
            case measure => simp [intOf] <;> omega
          · have h3i : ¬ ((0 : Int) < (m : Int)) := by omega
            clear oM hbM
            go_wp2
            go_ret2
            exact ⟨A6, A7, m, c6, c7, _, _, hm9, rfl, HCW.out.2.2.on HMM.out.2, HMM.out.1.rd, below_on HCW.out.1 HMM.out.2⟩
        · have h2i : ¬ ((k : Int) < 100) := by omega
          clear oM hbM
          go_wp2
          go_ret2
          exact ⟨A6, A7, m, c6, c7, _, _, hm9, rfl, HCW.out.2.2.on HMM.out.2, HMM.out.1.rd, below_on HCW.out.1 HMM.out.2⟩
      · have h1i : ¬ ((k : Int) < (n1 : Int)) := by omega
        clear oM hbM
        go_wp2
        go_ret2
        exact ⟨A6, A7, m, c6, c7, _, _, hm9, rfl, HCW.out.2.2.on HMM.out.2, HMM.out.1.rd, below_on HCW.out.1 HMM.out.2⟩
end Go.Proofs.Ytchhkokpjdkkiaa

namespace Go.Proofs.Ytchhkokpjdkkiaa
open Go.RowKit

set_option maxRecDepth 100000 in
set_option maxHeartbeats 3200000 in
theorem places_c (c : Cas) (n : Nat) (q : Qs) (w : World) (hc : okCas c) (hn : n ≤ 512) (hq : okQn c.p n q) :
    Calls Try.prog 32 #[.agg (casV c), .int .i64 (n : Int), keyV q] w fun e w' => ∃ B m d, e = .returned (.tuple #[.slice B m d, .int .i64 0]) ∧ Ow eNat w' w.heap.size 3 B m d (plQ (ordL c n) q) ∧ Below w.heap.size w w' := by
  have HS := hide (fun W => rsane_c c hc n hn W)
  have HO := hide (fun (p : Nat) (hp : p ≤ 6) (W : World) => order_c c n p W hc.2.2.2.2 hp hn)
  have HPQ := hide (show ∀ L : List Nat, plQ (fun _ => L) q = (L.drop q.fr).take (q.tt - q.fr) from fun L => rfl)
  have HEQ := hide (show plQ (ordL c n) q = ((ordL c n q.p).drop q.fr).take (q.tt - q.fr) from rfl)
  obtain ⟨cp, cb, sd⟩ := c
  obtain ⟨qp, qf, qt⟩ := q
  obtain ⟨hq1, hq2, hq3⟩ := hq
  obtain ⟨hc1, hc2, hc3, hc4, hc5⟩ := hc
  simp only at hq1 hq2 hq3 hc1 hc2 HEQ
  obtain ⟨O, hO⟩ : ∃ O, O = ordL ⟨cp, cb, sd⟩ n := ⟨_, rfl⟩
  rw [← hO] at HO HEQ ⊢
  have hb1 := below_alloc w (.cells (casV ⟨cp, cb, sd⟩) 34)
  have hB1 := Blk.newAt w 34 (casV ⟨cp, cb, sd⟩) w.heap.size rfl
  have hb2 := below_alloc (w.alloc (.cells (casV ⟨cp, cb, sd⟩) 34)) (.cells #[.int .i64 (qp : Int), .int .i64 (qf : Int), .int .i64 (qt : Int)] 45)
  have hB2 := Blk.newAt (w.alloc (.cells (casV ⟨cp, cb, sd⟩) 34)) 45 #[.int .i64 (qp : Int), .int .i64 (qf : Int), .int .i64 (qt : Int)] (w.heap.size + 1) (by simp)
  have hB1 := hB1.keep hb2
  have hb2 := below_on hb1 hb2
  simp only [casV] at hb2 hB1 hB2 HS HO ⊢
  simp only [keyV]
  have i1 : ¬ ((qp : Int) < 0) := by omega
  have i2 : ¬ ((qp : Int) ≥ (cp : Int)) := by omega
  have i3 : ¬ ((qf : Int) < 0) := by omega
  have i4 : ¬ ((qf : Int) ≥ (qt : Int)) := by omega
  have i5 : ¬ ((qt : Int) > (n : Int)) := by omega
  have n2 : ¬ (cp ≤ qp) := by omega
  have n4 : ¬ (qt ≤ qf) := by omega
  have n5 : ¬ (n < qt) := by omega
  go_enter Try.func32, Try.ntmps32
  go_upto_region 1 with fail
  obtain ⟨wA, hwA⟩ : ∃ x, x = (w.alloc (.cells #[.int .i64 (cp : Int), .int .i64 (cb : Int), .int .u64 (sd : Int)] 34)).alloc (.cells #[.int .i64 (qp : Int), .int .i64 (qf : Int), .int .i64 (qt : Int)] 45) := ⟨_, rfl⟩
  rw [← hwA] at hb2 hB1 hB2 ⊢
  obtain ⟨gC, hgC⟩ : ∃ x, x = w.heap.size := ⟨_, rfl⟩
  have HGC := hide hgC
  rw [← hgC] at hB1 hb2 hB2 ⊢
  obtain ⟨gQ, hgQ⟩ : ∃ x, x = gC + 1 := ⟨_, rfl⟩
  rw [← hgQ] at hB2 ⊢
  clear hwA hgC hgQ hb1
  have c0 := hB1.cell 0
  have c1 := hB1.cell 1
  have c2 := hB1.cell 2
  simp only [List.getElem?_toArray, List.getElem?_cons_zero, List.getElem?_cons_succ] at c0 c1 c2
  have HW := hide (And.intro hb2 (And.intro hB1 hB2))
  clear hb2 hB1 hB2
  go_upto_region 4 with (go_at_call 53; refine (HS.out _).mono ?_; rintro e w1 ⟨rfl, hb⟩)
  clear c0 c1 c2
  have hB1 := HW.out.2.1.keep hb
  have hB2 := HW.out.2.2.keep hb
  have hb1 : Below gC w w1 := HW.out.1.trans (hb.mono (by have := HW.out.2.1.lt; omega))
  have c0 := hB1.cell 0
  have c1 := hB1.cell 1
  have c2 := hB1.cell 2
  have q0 := hB2.cell 0
  have q1 := hB2.cell 1
  have q2 := hB2.cell 2
  simp only [List.getElem?_toArray, List.getElem?_cons_zero, List.getElem?_cons_succ] at c0 c1 c2 q0 q1 q2
  have H1 := hide (And.intro hb1 (And.intro hB1 hB2))
  have HKP := hide (show ∀ W, Below w1.heap.size w1 W → (W.cell? ⟨gC, 0, none⟩ = some (.int .i64 (cp : Int)) ∧ W.cell? ⟨gC, 1, none⟩ = some (.int .i64 (cb : Int)) ∧ W.cell? ⟨gC, 2, none⟩ = some (.int .u64 (sd : Int)) ∧ W.cell? ⟨gQ, 0, none⟩ = some (.int .i64 (qp : Int)) ∧ W.cell? ⟨gQ, 1, none⟩ = some (.int .i64 (qf : Int)) ∧ W.cell? ⟨gQ, 2, none⟩ = some (.int .i64 (qt : Int))) from fun W hW => ⟨(hB1.keep hW).cell 0, (hB1.keep hW).cell 1, (hB1.keep hW).cell 2, (hB2.keep hW).cell 0, (hB2.keep hW).cell 1, (hB2.keep hW).cell 2⟩)
  clear hb hB1 hB2 hb1
  go_upto_region 6 with fail
  have HD := hide (show Below w1.heap.size w1 w1.drew from below_drewN (Below.refl _ _) 1)
  have hn0 : 0 < n := by omega
  have hqn : ¬ (n = qf) := by omega
  have j1 : (0 : Int) ≤ (qf : Int) := by omega
  have j2 : (qf : Int) ≤ (qt : Int) := by omega
  have j3 : (qt : Int) ≤ (n : Int) := by omega
  go_region_held3 (fun W => W.cell? ⟨gC, 0, none⟩ = some (.int .i64 (cp : Int)) ∧ W.cell? ⟨gC, 1, none⟩ = some (.int .i64 (cb : Int)) ∧ W.cell? ⟨gC, 2, none⟩ = some (.int .u64 (sd : Int)) ∧ W.cell? ⟨gQ, 0, none⟩ = some (.int .i64 (qp : Int)) ∧ W.cell? ⟨gQ, 1, none⟩ = some (.int .i64 (qf : Int)) ∧ W.cell? ⟨gQ, 2, none⟩ = some (.int .i64 (qt : Int))) (first | exact HKP.out _ HD.out | exact HKP.out _ HB4.out | exact HKP.out _ HB5.out) ((first | (go_at_call 55; refine (HO.out qp (by omega) _).mono ?_; rintro e w4 ⟨A, rfl, o4, hb4⟩; obtain ⟨g4, x4, rfl, _⟩ := o4.get hn0; have HB4 := hide (below_on HD.out hb4); have HO4 := hide o4; clear o4 hb4) | (go_at_call 59; refine (cloneN_c (some ⟨g4, qf, none⟩) (qt - qf) (n - qf) ((O qp).drop qf |>.take (qt - qf)) _ (by have h := (HO4.out.rd).sub (f := qf) (t := qt) (by omega) hq3; simpa only [eNat, Nat.mul_one, Nat.zero_add] using h) (by omega)).mono ?_; rintro e w5 ⟨B, d, rfl, o5, hb5⟩; have HB5 := hide (below_on HB4.out hb5); have HO5 := hide o5; clear o5 hb5)))
  go_wp2
  go_ret2
  refine ⟨B, _, d, rfl, ?_, ?_⟩
  · rw [HEQ.out]
    exact HO5.out.mono (by have := HB4.out.size; have := H1.out.1.size; have := HGC.out; omega)
  · have := H1.out.1.trans (HB5.out.mono (by have := H1.out.1.size; have := HGC.out; omega))
    rw [HGC.out] at this
    exact this
set_option maxRecDepth 100000 in
set_option maxHeartbeats 3200000 in
theorem reply_c (c : Cas) (n : Nat) (q : Qs) (A : Option Addr) (d : Nat) (b : List Bool) (w : World) (rb : Rd eBool w w.heap.size A n d b) (hc : okCas c) (hn : n ≤ 512) (hq : okQn c.p n q) :
    Calls Try.prog 11 #[.agg (casV c), .slice A n d, keyV q] w fun e w' => e = .returned (.tuple #[.bool (parL b (plQ (ordL c n) q)), .int .i64 0]) ∧ Below w.heap.size w w' := by
  have HP := hide (fun W => places_c c n q W hc hn hq)
  have HL := hide (plQ_lt (O := ordL c n) (q := q) (n := n) (ordL_lt c n q.p))
  obtain ⟨M, hM⟩ : ∃ M, M = plQ (ordL c n) q := ⟨_, rfl⟩
  rw [← hM] at HP HL ⊢
  obtain ⟨cp, cb, sd⟩ := c
  obtain ⟨qp, qf, qt⟩ := q
  clear hM hq hc
  have hb1 := below_alloc w (.cells (casV ⟨cp, cb, sd⟩) 34)
  have hB1 := Blk.newAt w 34 (casV ⟨cp, cb, sd⟩) w.heap.size rfl
  have hb2 := below_alloc (w.alloc (.cells (casV ⟨cp, cb, sd⟩) 34)) (.cells #[.int .i64 (qp : Int), .int .i64 (qf : Int), .int .i64 (qt : Int)] 45)
  have hB2 := Blk.newAt (w.alloc (.cells (casV ⟨cp, cb, sd⟩) 34)) 45 #[.int .i64 (qp : Int), .int .i64 (qf : Int), .int .i64 (qt : Int)] (w.heap.size + 1) (by simp)
  have hB1 := hB1.keep hb2
  have hb2 := below_on hb1 hb2
  simp only [casV] at hb2 hB1 hB2 HP ⊢
  simp only [keyV] at HP ⊢
  go_enter Try.func11, Try.ntmps11
  go_upto_region 1 with fail
  obtain ⟨wA, hwA⟩ : ∃ x, x = (w.alloc (.cells #[.int .i64 (cp : Int), .int .i64 (cb : Int), .int .u64 (sd : Int)] 34)).alloc (.cells #[.int .i64 (qp : Int), .int .i64 (qf : Int), .int .i64 (qt : Int)] 45) := ⟨_, rfl⟩
  rw [← hwA] at hb2 hB1 hB2 ⊢
  obtain ⟨gC, hgC⟩ : ∃ x, x = w.heap.size := ⟨_, rfl⟩
  have HGC := hide hgC
  rw [← hgC] at hB1 hB2 ⊢
  obtain ⟨gQ, hgQ⟩ : ∃ x, x = gC + 1 := ⟨_, rfl⟩
  rw [← hgQ] at hB2 ⊢
  clear hwA hgC hgQ hb1
  have c0 := hB1.cell 0
  have c1 := hB1.cell 1
  have c2 := hB1.cell 2
  have q0 := hB2.cell 0
  have q1 := hB2.cell 1
  have q2 := hB2.cell 2
  simp only [List.getElem?_toArray, List.getElem?_cons_zero, List.getElem?_cons_succ] at c0 c1 c2 q0 q1 q2
  have HW := hide hb2
  clear hb2 hB1 hB2
  go_wp2_with (first | (go_at_call 32; refine (HP.out _).mono ?_; rintro e w1 ⟨B, m, d1, rfl, o1, hb1⟩; have HB1 := hide (below_on HW.out hb1); have HO1 := hide o1; clear o1 hb1 c0 c1 c2 q0 q1 q2) | (go_at_call 26; refine (parity_c A n d b B m d1 M _ (rb.on HB1.out) HO1.out.rd HL.out).mono ?_; rintro e w2 ⟨rfl, hw2⟩; rw [hw2]; clear hw2))
  go_ret2
  exact ⟨rfl, HB1.out⟩
end Go.Proofs.Ytchhkokpjdkkiaa
