/- The walk of the law TopSifts. -/
import Derived.Test.YtchhkokpjdkkiaaTopSiftsa20
import Derived.Test.YtchhkokpjdkkiaaTopSiftsa32
import Derived.BigQuiet
import Derived.Deep.RegionHeld3
import Derived.Deep.DeepCutAuto
namespace Go.Proofs.Ytchhkokpjdkkiaa
open Go.RowKit

def kSifts : List Int := [1, 2, 4, 5, 6]
theorem kSifts_ok : OkS kSifts := ⟨by decide, by decide, by decide⟩
theorem conv8 (m : Nat) (hm : m < 256) : IntKind.i64.wrap (m : Int) = (m : Int) := by simp only [IntKind.wrap, IntKind.bits, IntKind.signed]; simp; omega
set_option linter.unusedSimpArgs false in
set_option maxRecDepth 100000 in
set_option maxHeartbeats 6400000 in
theorem sifts_c (x : Lgt) (A : Option Addr) (m c : Nat) (S : List Spn) (w : World) (r : Rd eSpn w w.heap.size A m c S) :
    Calls Try.prog 4 #[.agg (lgtV x (.slice A m c))] w fun e w' => e = .returned (.bool true) ∧ Below w.heap.size w w' := by
  have hn8 := sl_le x
  have HARR := hide (fun W => arrangement_c x A m c W)
  have HSP := hide (fun W A' c' (h : Rd eSpn W W.heap.size A m c S) (q : Rd eInt W W.heap.size A' 5 c' kSifts) => spans_c x kSifts kSifts_ok S A m c A' 5 c' W h q)
  have HRUN := hide (fun W A' k c' (h : Rd eRu W W.heap.size A' k c' (spL kSifts (tSh x) S)) => toprun_c x kSifts kSifts_ok S A' k c' W h)
  obtain ⟨f, hf⟩ : ∃ q, q = arrOf x := ⟨_, rfl⟩
  obtain ⟨P, hP⟩ : ∃ q, q = tP x := ⟨_, rfl⟩
  obtain ⟨C, hC⟩ : ∃ q, q = tC x (spL kSifts (tSh x) S) := ⟨_, rfl⟩
  obtain ⟨L, hL⟩ : ∃ q, q = spL kSifts (tSh x) S := ⟨_, rfl⟩
  obtain ⟨N, hN⟩ : ∃ q, q = tN x (spL kSifts (tSh x) S) := ⟨_, rfl⟩
  obtain ⟨sh, hsh⟩ : ∃ q, q = tSh x := ⟨_, rfl⟩
  have hs16 : sh ≤ 16 := by rw [hsh]; exact tSh_le x
  have HPL := hide (show P.length = x.sl by rw [hP]; exact tP_len x)
  have HPE := hide (show pulsesErr P = 0 by rw [hP]; exact tP_err x)
  have HCL := hide (show C.length = x.sl by rw [hC]; exact tC_len x _)
  have HCE := hide (show clicksErr C = 0 by rw [hC]; exact tC_err x _)
  rw [← hf, ← hP, ← hC, ← hN, ← hL, ← hsh] at HRUN
  rw [← hf] at HARR
  have hLs : spL kSifts (x.sf % 17) S = L := by rw [hL]; rfl
  rw [hLs] at HSP
  clear hf hP hC hN hsh hL hLs
  obtain ⟨xk, ph, et, dk, n, hd, sf, a, b, c0, ok⟩ := x
  simp only at HPL HCL HRUN hn8
  have hB0 := Blk.newAt w 52 (lgtV ⟨xk, ph, et, dk, n, hd, sf, a, b, c0, ok⟩ (.slice A m c)) w.heap.size rfl
  have hb0 := below_alloc w (.cells (lgtV ⟨xk, ph, et, dk, n, hd, sf, a, b, c0, ok⟩ (.slice A m c)) 52)
  have hcv := conv8 n hn8
  obtain ⟨h1, h2, h3, h4, h5, h6, h7, _⟩ := ok
  have hcv2 := conv8 hd h6
  obtain ⟨fr, hfr⟩ : ∃ q, q = min hd n := ⟨_, rfl⟩
  have hmin : (if n < hd then (n : Int) else (hd : Int)) = (fr : Int) := by split <;> omega
  have hfn : fr ≤ n := by omega
  simp only [lgtV] at hB0 hb0 HARR HSP ⊢
  clear hfr
  go_enter Try.func4, Try.ntmps4
  go_upto_region 1 with fail
  obtain ⟨wA, hwA⟩ : ∃ q, q = w.alloc (.cells #[.int .u8 (xk : Int), .int .u8 (ph : Int), .int .u8 (et : Int), .int .u8 (dk : Int), .int .u8 (n : Int), .int .u8 (hd : Int), .int .u8 (sf : Int), .slice A m c, .int .u64 (a : Int), .int .u64 (b : Int), .int .u64 (c0 : Int)] 52) := ⟨_, rfl⟩
  rw [← hwA] at hB0 hb0 ⊢
  have r := r.on hb0
  obtain ⟨gL, hgL⟩ : ∃ q, q = w.heap.size := ⟨_, rfl⟩
  rw [← hgL] at hB0 ⊢
  clear hwA hgL
  go_upto_region 2 with (first | (show wpList _ _ _ (⟨some 20, _, _, _, _, _⟩ :: _) _ _; refine wl_load (o := ⟨some 20, _, _, _, _, _⟩) rfl 52 _ rfl gL rfl 52 #[.int .u8 (xk : Int), .int .u8 (ph : Int), .int .u8 (et : Int), .int .u8 (dk : Int), .int .u8 (n : Int), .int .u8 (hd : Int), .int .u8 (sf : Int), .slice A m c, .int .u64 (a : Int), .int .u64 (b : Int), .int .u64 (c0 : Int)] _ hB0 Try.underlying52 rfl (by kernel_rfl) ?_) | (go_at_call 13; refine (HARR.out _).mono ?_; rintro e w1 ⟨rfl, hb1⟩; have b0 := Blk.newAt w1 57 (cells18 fun _ => 0) w1.heap.size rfl) | (show wpList _ _ _ (⟨none, _, _, _, _, _⟩ :: _) _ _; refine wl_store (o := ⟨none, _, _, _, _, _⟩) rfl 57 _ _ rfl w1.heap.size (cells18 f) rfl rfl 57 (cells18 fun _ => 0) b0 inf_opt (by rw [cells18_size, cells18_size]) (cells18_one _) ?_; intro w2 b2 hg2))
  have hb2 := below_grown (below_on hb1 (below_alloc w1 (.cells (cells18 fun _ => 0) 57))) hg2 hb1.size (Nat.le_refl _)
  have hB2 := hB0.keep hb2
  have r2 := r.on hb2
  have hb02 := below_on hb0 hb2
  obtain ⟨gO, hgO⟩ : ∃ q, q = w1.heap.size := ⟨_, rfl⟩
  rw [← hgO] at b2 ⊢
  clear hgO hg2 b0 hb1 hb2 hB0 r hb0
  have l4 := hB2.cell 4
  simp only [List.getElem?_toArray, List.getElem?_cons_zero, List.getElem?_cons_succ] at l4
  go_upto_region 3 with fail
  have q0 := Rd.many (e := eInt) w2 3 kSifts #[.int .i64 1, .int .i64 2, .int .i64 4, .int .i64 5, .int .i64 6] rfl 5 rfl (by omega) w2.heap.size rfl
  have hbq := below_alloc w2 (.cells #[.int .i64 1, .int .i64 2, .int .i64 4, .int .i64 5, .int .i64 6] 3)
  go_upto_region 4 with (first | (show wpList _ _ _ (⟨some 25, _, _, _, _, _⟩ :: _) _ _; refine wl_load (o := ⟨some 25, _, _, _, _, _⟩) rfl 52 _ rfl gL rfl 52 #[.int .u8 (xk : Int), .int .u8 (ph : Int), .int .u8 (et : Int), .int .u8 (dk : Int), .int .u8 (n : Int), .int .u8 (hd : Int), .int .u8 (sf : Int), .slice A m c, .int .u64 (a : Int), .int .u64 (b : Int), .int .u64 (c0 : Int)] _ hB2 Try.underlying52 rfl (by kernel_rfl) ?_) | (go_at_call 14; refine (HSP.out _ _ _ (r2.on hbq) q0).mono ?_; rintro e w3 ⟨AR, kR, cR, rfl, rR, hb3⟩))
  have hb23 := below_on hbq hb3
  have hB3 := hB2.keep hb23
  have b3 := b2.keep hb23
  have hb03 := below_on hb02 hb23
  clear hbq hb3 hb23 hB2 b2 r2 hb02 q0 l4 HSP HARR
  have l8 := hB3.cell 8
  have l9 := hB3.cell 9
  have l10 := hB3.cell 10
  simp only [List.getElem?_toArray, List.getElem?_cons_zero, List.getElem?_cons_succ] at l8 l9 l10
  go_upto_region 5 with (first | (show wpList _ _ _ (⟨some 29, _, _, _, _, _⟩ :: _) _ _; refine wl_load (o := ⟨some 29, _, _, _, _, _⟩) rfl 57 _ rfl gO rfl 57 (cells18 f) _ b3 Try.underlying57 rfl inf_opt ?_) | (go_at_call 15; refine (HRUN.out _ _ _ _ rR).mono ?_; rintro e w4 ⟨A1, c1, A2, c2, A3, n3, c3, rfl, p4, k4, t4, hb4⟩))
  clear l8 l9 l10 b3 rR HRUN
  have hF := Blk.newAt w4 66 #[.slice A1 n c1, .slice A2 n c2, .slice A3 n3 c3, .int .i64 (sh : Int)] w4.heap.size rfl
  have hbF := below_alloc w4 (.cells #[.slice A1 n c1, .slice A2 n c2, .slice A3 n3 c3, .int .i64 (sh : Int)] 66)
  have hB4 := hB3.keep (below_on hb4 hbF)
  have hb04 := below_on hb03 (below_on hb4 hbF)
  have p4 := p4.on hbF
  have k4 := k4.on hbF
  obtain ⟨wF, hwF⟩ : ∃ q, q = w4.alloc (.cells #[.slice A1 n c1, .slice A2 n c2, .slice A3 n3 c3, .int .i64 (sh : Int)] 66) := ⟨_, rfl⟩
  rw [← hwF] at hF hbF hB4 hb04 p4 k4 ⊢
  obtain ⟨gF, hgF⟩ : ∃ q, q = w4.heap.size := ⟨_, rfl⟩
  rw [← hgF] at hF ⊢
  clear hwF hgF t4 hb4 hbF hB3 hb03
  have f0 := hF.cell 0
  have f1 := hF.cell 1
  have f3 := hF.cell 3
  have l5 := hB4.cell 5
  simp only [List.getElem?_toArray, List.getElem?_cons_zero, List.getElem?_cons_succ] at f0 f1 f3 l5
  go_upto_region 8 with fail
  clear l5 hB4
  obtain ⟨H, hH⟩ : ∃ q, q = hearL C sh fr n n := ⟨_, rfl⟩
  have HAN := hide (show Calls Try.prog 16 #[.slice A2 n c2, .int .i64 (sh : Int), .int .i64 (fr : Int), .int .i64 (n : Int)] wF fun e w' => ∃ B m d, e = .returned (.tuple #[.slice B m d, .int .i64 0]) ∧ Rd eHe w' w'.heap.size B m d H ∧ Below wF.heap.size wF w' from hH ▸ announce_c A2 n c2 C sh fr n wF k4 HCE.out hs16 hfn (by omega))
  have HHL := hide (show H.length ≤ n by rw [hH]; exact hearL_len)
  have HHR := hide (show RisingH H fr ((n : Int) - 1) by rw [hH]; exact hearL_rising (clicksErr_zero HCE.out).2)
  have HKM := hide (fun i => hH ▸ (mem_kept (P := P) (C := C) (sh := sh) (fr := fr) (n := n) (m := n) (i := i)))
  have HK1 := hide (show Rising (keptL P H) 0 ((n : Int) - 1) by rw [hH]; exact kept_rising (by omega))
  have HK2 := hide (show Rising (keptL P H) 0 ((n : Int) - 1 - sh) by rw [hH]; exact kept_rising (by omega))
  clear hH
  go_upto_region 11 with (go_at_call 16; refine HAN.out.mono ?_; rintro e w5 ⟨AH, mH, cH, rfl, rH, hb5⟩)
  have hmH : mH ≤ 4096 := by have := rH.len; have := HHL.out; omega
  have f0 := (hF.keep hb5).cell 0
  simp only [List.getElem?_toArray, List.getElem?_cons_zero, List.getElem?_cons_succ] at f0
  have HMT := hide (match_c A1 n c1 P AH mH cH H fr w5 (p4.on hb5) rH HPE.out HHR.out (by omega) hmH (by omega))
  obtain ⟨Q, hQ⟩ : ∃ q, q = keptL P H := ⟨_, rfl⟩
  have HQL := hide (show Q.length ≤ n by rw [hQ]; have := keptL_len P H; have := HHL.out; omega)
  rw [← hQ] at HMT HK1 HK2 HKM
  clear hQ HAN
  go_upto_region 12 with (go_at_call 17; refine HMT.out.mono ?_; rintro e w6 ⟨AQ, mQ, cQ, rfl, rQ, hb6⟩)
  have hb56 := below_on hb5 hb6
  have hmQ : mQ ≤ n := by have := rQ.len; have := HQL.out; omega
  have f0 := (hF.keep hb56).cell 0
  simp only [List.getElem?_toArray, List.getElem?_cons_zero, List.getElem?_cons_succ] at f0
  have HSE := hide (sent_c A1 n c1 P AQ mQ cQ Q w6 (p4.on hb56) rQ HPE.out HK1.out (by omega) (by omega))
  clear HMT rH hb5 hb6
  go_upto_region 13 with (go_at_call 18; refine HSE.out.mono ?_; rintro e w7 ⟨AS, cS, rfl, rS, hb7⟩)
  have hb57 := below_on hb56 hb7
  have rQ7 := rQ.on hb7
  have f1 := (hF.keep hb57).cell 1
  have f3 := (hF.keep hb57).cell 3
  simp only [List.getElem?_toArray, List.getElem?_cons_zero, List.getElem?_cons_succ] at f1 f3
  have HRE := hide (received_c A2 n c2 C AQ mQ cQ Q sh w7 (k4.on hb57) rQ7 HCE.out hs16 HK2.out (fun k i y hk hy => by
    obtain ⟨_, _, _, p, c, _, hc, hsg, _⟩ := (HKM.out i).1 (List.mem_of_getElem? hk)
    rw [hy] at hc; rw [Option.some.inj hc]; exact hsg) (by omega))
  clear HSE hb56 hb7 rQ f0
  go_upto_region 14 with (go_at_call 19; refine HRE.out.mono ?_; rintro e w8 ⟨AT, cT, rfl, rT, hb8⟩)
  have hb58 := below_on hb57 hb8
  have rQ8 := rQ7.on hb8
  have rS8 := rS.on hb8
  have p8 := p4.on hb58
  have k8 := k4.on hb58
  have F8 := hF.keep hb58
  have hb08 := below_on hb04 hb58
  clear hF HRE hb57 hb8 rQ7 rS p4 k4 hb58 hb04 f1 f3
  have f0 := F8.cell 0
  have f1 := F8.cell 1
  have f3 := F8.cell 3
  simp only [List.getElem?_toArray, List.getElem?_cons_zero, List.getElem?_cons_succ] at f0 f1 f3
  go_upto_region 17 with fail
  go_loopw [15] (fun iv wr => ∃ i : Nat, i ≤ n ∧ iv = .int .i64 i ∧ Below w8.heap.size w8 wr) (fun iv _ => n - (intOf iv).toNat)
  case atStart => exact ⟨0, by omega, rfl, Below.refl _ _⟩
  case round =>
    obtain ⟨i, hi, rfl, hbw⟩ := hrel
    have F9 := F8.keep hbw
    have f0 := F9.cell 0
    have f1 := F9.cell 1
    have f3 := F9.cell 3
    simp only [List.getElem?_toArray, List.getElem?_cons_zero, List.getElem?_cons_succ] at f0 f1 f3
    by_cases hlt : i < n
    · obtain ⟨b1, o1, y, eA, hbb1, hy, hc1⟩ := (p8.on hbw).get hlt
      subst eA
      have x0 := hc1 0 _ rfl
      have x4 := hc1 4 _ rfl
      simp only [ePu, Nat.add_zero] at x0 x4
      obtain ⟨j, hj⟩ : ∃ j, j = i + sh := ⟨_, rfl⟩
      have hij : (i : Int) + (sh : Int) = (j : Int) := by omega
      have hwj : IntKind.i64.wrap (j : Int) = (j : Int) := by simp only [IntKind.wrap, IntKind.bits, IntKind.signed]; simp; omega
      have HHAS := hide (fun W (h : Below wr.heap.size wr W) => thas_c AQ mQ cQ Q i W ((rQ8.on hbw).on h))
      have HMI := hide (HKM.out i)
      have HY := hide hy
      obtain ⟨yb, ybit, ycl, yph, yseen⟩ := y
      simp only at x0 x4
      clear hc1 hy hbb1
      by_cases hfi : fr ≤ i
      · by_cases hjn : j < n
        · obtain ⟨b2, o2, z, eA, hbb2, hz, hc2⟩ := (k8.on hbw).get hjn
          subst eA
          have z0 := hc2 0 _ rfl
          have z1 := hc2 1 _ rfl
          simp only [eCk, Nat.add_zero] at z0 z1
          have HZ := hide (show C[i + sh]? = some z by rw [← hj]; exact hz)
          obtain ⟨zb, zk⟩ := z
          simp only at z0 z1
          clear hc2 hz hbb2
          have HJ := hide (show i + sh < n by omega)
          clear hj
          have hji : (j : Int) < (n : Int) := by omega
          have hj0 : (0 : Int) ≤ (j : Int) := by omega
          cases yseen
          · have HM := hide (show decide (i ∈ Q) = false from decide_eq_false fun h => by
              obtain ⟨_, _, _, p, _, hp, _, _, hs, _⟩ := HMI.out.1 h
              rw [HY.out] at hp; rw [← Option.some.inj hp] at hs; cases hs)
            go_upto_region 20 with fail
            go_quiet (fail)
            clear x0 x4 f0 f1 f3 F9
            have hbd := below_drewN (Below.refl wr.heap.size wr) nq
            have HHB := hide (HHAS.out _ hbd)
            rw [HM.out] at HHB
            go_wp2_with (go_at_call 20; refine HHB.out.mono ?_; rintro e w9 ⟨rfl, hb9⟩)
            go_roundw
            case rel => exact ⟨i + 1, by omega, by go_num, below_on hbw (below_on hbd hb9)⟩
            case measure => simp [intOf] <;> omega
          · by_cases hbz : yb = zb
            · subst hbz
              by_cases hz1 : zk = 1
              · subst hz1
                have HM := hide (show decide (i ∈ Q) = true from decide_eq_true (HMI.out.2 ⟨hfi, hlt, HJ.out, _, _, HY.out, HZ.out, rfl, rfl, rfl⟩))
                go_upto_region 20 with fail
                go_quiet (fail)
                clear x0 x4 f0 f1 f3 F9
                have hbd := below_drewN (Below.refl wr.heap.size wr) nq
                have HHB := hide (HHAS.out _ hbd)
                rw [HM.out] at HHB
                go_wp2_with (go_at_call 20; refine HHB.out.mono ?_; rintro e w9 ⟨rfl, hb9⟩)
                go_roundw
                case rel => exact ⟨i + 1, by omega, by go_num, below_on hbw (below_on hbd hb9)⟩
                case measure => simp [intOf] <;> omega
              · by_cases hz2 : zk = 2
                · subst hz2
                  have HM := hide (show decide (i ∈ Q) = true from decide_eq_true (HMI.out.2 ⟨hfi, hlt, HJ.out, _, _, HY.out, HZ.out, rfl, rfl, rfl⟩))
                  go_upto_region 20 with fail
                  go_quiet (fail)
                  clear x0 x4 f0 f1 f3 F9
                  have hbd := below_drewN (Below.refl wr.heap.size wr) nq
                  have HHB := hide (HHAS.out _ hbd)
                  rw [HM.out] at HHB
                  go_wp2_with (go_at_call 20; refine HHB.out.mono ?_; rintro e w9 ⟨rfl, hb9⟩)
                  go_roundw
                  case rel => exact ⟨i + 1, by omega, by go_num, below_on hbw (below_on hbd hb9)⟩
                  case measure => simp [intOf] <;> omega
                · have hd1 : (zk == 1) = false := by simpa using hz1
                  have hd2 : (zk == 2) = false := by simpa using hz2
                  have HM := hide (show decide (i ∈ Q) = false from decide_eq_false fun h => by
                    obtain ⟨_, _, _, _, c, _, hc, hs, _, _⟩ := HMI.out.1 h
                    rw [HZ.out] at hc; rw [← Option.some.inj hc] at hs
                    simp [single, hz1, hz2] at hs)
                  go_upto_region 20 with fail
                  go_quiet (fail)
                  clear x0 x4 f0 f1 f3 F9
                  have hbd := below_drewN (Below.refl wr.heap.size wr) nq
                  have HHB := hide (HHAS.out _ hbd)
                  rw [HM.out] at HHB
                  go_wp2_with (go_at_call 20; refine HHB.out.mono ?_; rintro e w9 ⟨rfl, hb9⟩)
                  go_roundw
                  case rel => exact ⟨i + 1, by omega, by go_num, below_on hbw (below_on hbd hb9)⟩
                  case measure => simp [intOf] <;> omega
            · have hd1 : (yb == zb) = false := by simpa using hbz
              have HM := hide (show decide (i ∈ Q) = false from decide_eq_false fun h => by
                obtain ⟨_, _, _, p, c, hp, hc, _, _, he⟩ := HMI.out.1 h
                rw [HY.out] at hp; rw [HZ.out] at hc; rw [← Option.some.inj hp, ← Option.some.inj hc] at he; exact hbz he)
              go_upto_region 20 with fail
              go_quiet (fail)
              clear x0 x4 f0 f1 f3 F9
              have hbd := below_drewN (Below.refl wr.heap.size wr) nq
              have HHB := hide (HHAS.out _ hbd)
              rw [HM.out] at HHB
              go_wp2_with (go_at_call 20; refine HHB.out.mono ?_; rintro e w9 ⟨rfl, hb9⟩)
              go_roundw
              case rel => exact ⟨i + 1, by omega, by go_num, below_on hbw (below_on hbd hb9)⟩
              case measure => simp [intOf] <;> omega
        · have hji : ¬ ((j : Int) < (n : Int)) := by omega
          have hj0 : (0 : Int) ≤ (j : Int) := by omega
          have HM := hide (show decide (i ∈ Q) = false from decide_eq_false fun h => by
            obtain ⟨_, _, h3, _⟩ := HMI.out.1 h; omega)
          clear hj
          go_upto_region 20 with fail
          go_quiet (fail)
          clear x0 x4 f0 f1 f3 F9
          have hbd := below_drewN (Below.refl wr.heap.size wr) nq
          have HHB := hide (HHAS.out _ hbd)
          rw [HM.out] at HHB
          go_wp2_with (go_at_call 20; refine HHB.out.mono ?_; rintro e w9 ⟨rfl, hb9⟩)
          go_roundw
          case rel => exact ⟨i + 1, by omega, by go_num, below_on hbw (below_on hbd hb9)⟩
          case measure => simp [intOf] <;> omega
      · have HM := hide (show decide (i ∈ Q) = false from decide_eq_false fun h => by
          obtain ⟨h3, _⟩ := HMI.out.1 h; omega)
        clear hj
        go_upto_region 20 with fail
        go_quiet (fail)
        clear x0 x4 f0 f1 f3 F9
        have hbd := below_drewN (Below.refl wr.heap.size wr) nq
        have HHB := hide (HHAS.out _ hbd)
        rw [HM.out] at HHB
        go_wp2_with (go_at_call 20; refine HHB.out.mono ?_; rintro e w9 ⟨rfl, hb9⟩)
        go_roundw
        case rel => exact ⟨i + 1, by omega, by go_num, below_on hbw (below_on hbd hb9)⟩
        case measure => simp [intOf] <;> omega
    · clear f0 f1 f3 F9
      have F9 := F8.keep hbw
      have p9 := p8.on hbw
      have k9 := k8.on hbw
      have Q9 := rQ8.on hbw
      have S9 := rS8.on hbw
      have T9 := rT.on hbw
      have hb09 := below_on hb08 hbw
      clear F8 p8 k8 rQ8 rS8 rT hb08 hbw
      go_upto_region 24 with fail
      clear hlt
      go_loopw [18] (fun iv wz => ∃ i : Nat, i ≤ mQ ∧ iv = .int .i64 i ∧ Below wr.heap.size wr wz) (fun iv _ => mQ - (intOf iv).toNat)
      case atStart => exact ⟨0, by omega, rfl, Below.refl _ _⟩
      case round =>
        obtain ⟨i, hi, rfl, hbw⟩ := hrel
        have F9 := F9.keep hbw
        have f0 := F9.cell 0
        have f1 := F9.cell 1
        have f3 := F9.cell 3
        simp only [List.getElem?_toArray, List.getElem?_cons_zero, List.getElem?_cons_succ] at f0 f1 f3
        by_cases hlt : i < mQ
        · obtain ⟨b1, o1, s, eA, hbb1, hs, hc1⟩ := (Q9.on hbw).get hlt
          subst eA
          have q0 := hc1 0 _ rfl
          simp only [eNat, Nat.add_zero, Nat.mul_one] at q0
          obtain ⟨_, hsn, hsj, p, z, hp, hz, hsg, _, _⟩ := (HKM.out s).1 (List.mem_of_getElem? hs)
          obtain ⟨j, hj⟩ : ∃ j, j = s + sh := ⟨_, rfl⟩
          have hij : (s : Int) + (sh : Int) = (j : Int) := by omega
          have hwj : IntKind.i64.wrap (j : Int) = (j : Int) := by simp only [IntKind.wrap, IntKind.bits, IntKind.signed]; simp; omega
          have hjn : j < n := by omega
          obtain ⟨b2, o2, p', eA, hbb2, hp', hc2⟩ := (p9.on hbw).get hsn
          subst eA
          obtain rfl : p = p' := Option.some.inj (hp.symm.trans hp')
          have x1 := hc2 1 _ rfl
          simp only [ePu] at x1
          obtain ⟨b3, o3, z', eA, hbb3, hz', hc3⟩ := (k9.on hbw).get hjn
          subst eA
          rw [← hj] at hz
          obtain rfl : z = z' := Option.some.inj (hz.symm.trans hz')
          have z1 := hc3 1 _ rfl
          simp only [eCk] at z1
          obtain ⟨b4, o4, u, eA, hbb4, hu, hc4⟩ := (S9.on hbw).get hlt
          subst eA
          have u0 := hc4 0 _ rfl
          simp only [eBool, Nat.add_zero, Nat.mul_one] at u0
          obtain ⟨b5, o5, v, eA, hbb5, hv, hc5⟩ := (T9.on hbw).get hlt
          subst eA
          have v0 := hc5 0 _ rfl
          simp only [eBool, Nat.add_zero, Nat.mul_one] at v0
          obtain rfl : u = p.bit := by
            have h : (bitsOf P Q)[i]? = some p.bit := by unfold bitsOf; rw [List.getElem?_map, hs]; simp [hp]
            exact Option.some.inj (hu.symm.trans h)
          have hvz : (z.k == 2) = v := by
            have h : (Q.map (rbit C sh))[i]? = some (decide (z.k = 2)) := by rw [List.getElem?_map, hs]; simp only [Option.map_some, rbit]; rw [← hj, hz]
            rw [Option.some.inj (hv.symm.trans h)]; rfl
          obtain ⟨yb, ybit, ycl, yph, yseen⟩ := p
          obtain ⟨zb, zk⟩ := z
          simp only at x1 z1 u0 hvz
          have hs0 : ¬ ((s : Int) < 0) := by omega
          have hs1 : ¬ ((s : Int) ≥ (n : Int)) := by omega
          have hj0 : ¬ ((j : Int) < 0) := by omega
          have hj1 : ¬ ((j : Int) ≥ (n : Int)) := by omega
          have hji : (j : Int) < (n : Int) := by omega
          have hj2 : (0 : Int) ≤ (j : Int) := by omega
          have hns : ¬ (n ≤ s) := by omega
          have hnj : ¬ (n ≤ j) := by omega
          clear hc1 hc2 hc3 hc4 hc5 hu hv hs hp hp' hz hz' hj hsg hbb1 hbb2 hbb3 hbb4 hbb5
          all_goals
            go_upto_region 29 with fail
            go_quiet (fail)
            go_wp2
            go_roundw
            case rel => exact ⟨i + 1, by omega, by go_num, below_drewN hbw _⟩
            case measure => simp [intOf] <;> omega
        · go_wp2_with (go_at_call 21; refine (works04_c _).mono ?_; rintro e w9 ⟨rfl, hb9⟩)
          go_ret
          exact ⟨rfl, below_on hb09 (below_on hbw hb9)⟩
end Go.Proofs.Ytchhkokpjdkkiaa
