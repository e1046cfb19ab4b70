/- The walk of TopDiscloses (the Top seat). -/
import Derived.Test.YtchhkokpjdkkiaaTopDisclosesa25
import Derived.Test.YtchhkokpjdkkiaaTopDisclosesa26
import Derived.Deep.RegionHeld3
namespace Go.Proofs.Ytchhkokpjdkkiaa
open Go.RowKit

theorem planC_sz (x : Jb) (p : Nat) (h : p < (planC x).p) : szOf (planC x) p ≤ 512 := by
  have h1 : (planC x).p = 1 + x.p % 3 := rfl
  have h2 : szOf (planC x) p = (1 + x.bl % 32) * 2 ^ p := rfl
  rw [h2]
  have h3 : 2 ^ p ≤ 2 ^ 2 := Nat.pow_le_pow_right (by omega) (by omega)
  have h4 : (1 + x.bl % 32) * 2 ^ p ≤ 32 * 4 := Nat.mul_le_mul (by omega) h3
  omega
theorem planC_p (x : Jb) : (planC x).p ≤ 3 := by show 1 + x.p % 3 ≤ 3; omega
theorem told300 {x : Jb} {n : Nat} {tr : List Bool} {d : Nat} {s : Mst} (h : Inv (crs (planC x) n tr d) s) (hn : n ≤ 9) : s.told.length ≤ 300 := by
  have h1 := h.told_le
  have h2 : (planC x).p * (n + 1) * (n + 1) ≤ 3 * 10 * 10 := Nat.mul_le_mul (Nat.mul_le_mul (planC_p x) (by omega)) (by omega)
  exact Nat.le_trans h1 h2
theorem cnt_succ (N : Nat) (P : Nat → Bool) : cnt (N + 1) P = cnt N P + (if P N then 1 else 0) := by
  unfold cnt
  rw [List.range_succ, List.countP_append]
  simp [List.countP_cons]
theorem cnt_le (N : Nat) (P : Nat → Bool) : cnt N P ≤ N := by
  unfold cnt
  exact Nat.le_trans List.countP_le_length (by simp)
theorem wrapE {n E : Nat} (h : E = 2 ^ n) (hE : E ≤ 512) : wrap64 ((2 : Int) ^ n) = (E : Int) := by
  have h1 : ((2 : Int) ^ n) = (E : Int) := by rw [h]; simp
  rw [h1]; unfold wrap64; omega
theorem end20 {K N : Nat} (h : N ≤ K * 2 ^ 20) : (N : Int) ≤ (K : Int) * 1048576 := by omega
theorem wrapG {K t G : Nat} (h : G = K * 2 ^ t) (hG : G ≤ 536870912) : wrap64 ((K : Int) * (2 : Int) ^ t) = (G : Int) := by
  have h1 : (K : Int) * (2 : Int) ^ t = (G : Int) := by rw [h]; simp
  rw [h1]; unfold wrap64; omega
/-- The bits of a number, those ahead of k. -/
def bitsK (n N k : Nat) : List Bool := (List.range k).map (fun j => N.testBit j) ++ List.replicate (n - k) false
theorem bitsK_set {n N k : Nat} (h : k < n) : (bitsK n N k).set k (N.testBit k) = bitsK n N (k + 1) := by
  unfold bitsK
  rw [List.range_succ, List.map_append, List.set_append_right _ _ (by simp), show n - k = (n - (k + 1)) + 1 by omega, List.replicate_succ]
  simp
theorem bitsK_all (n N : Nat) : bitsK n N n = bitsN n N := by unfold bitsK bitsN; rw [Nat.sub_self]; simp
theorem bitsK_none (n N : Nat) : bitsK n N 0 = List.replicate n false := by unfold bitsK; simp
theorem shr_bit (N k : Nat) : (((N : Int) / (2 : Int) ^ k).tmod 2 == 1) = N.testBit k := by
  have h1 : ((N : Int) / (2 : Int) ^ k) = ((N / 2 ^ k : Nat) : Int) := by simp
  rw [h1, Int.tmod_eq_emod_of_nonneg (Int.natCast_nonneg _), Nat.testBit_eq_decide_div_mod_eq]
  obtain ⟨m, hm⟩ : ∃ m, m = N / 2 ^ k := ⟨_, rfl⟩
  rw [← hm]
  by_cases h : m % 2 = 1
  · have h2 : (m : Int) % 2 = 1 := by omega
    simp [h, h2]
  · have h2 : (m : Int) % 2 = 0 := by omega
    simp [h, h2]
theorem all_succ {α : Type} {p : α → Bool} {T : List α} {i : Nat} {y : α} (h : T[i]? = some y) : (T.take (i + 1)).all p = ((T.take i).all p && p y) := by
  rw [List.take_add_one, h, List.all_append]; simp
theorem all_no {α : Type} {p : α → Bool} {T : List α} {i : Nat} (h : false = (T.take i).all p) : T.all p = false := by
  rw [← List.take_append_drop i T, List.all_append, ← h, Bool.false_and]
theorem all_yes {α : Type} {p : α → Bool} {T : List α} {i : Nat} (h : true = (T.take i).all p) (hi : T.length ≤ i) : T.all p = true := by
  rw [List.take_of_length_le hi] at h; exact h.symm
/-- The places of the questions that were told. -/
def toldL (x : Jb) (n : Nat) (T : List Ans) : List (List Nat) := T.map fun a => plQ (ordL (planC x) n) a.q
set_option maxRecDepth 100000 in
set_option maxHeartbeats 6400000 in
theorem discloses_c (x : Jb) (A0 : Option Addr) (n0 c0 : Nat) (B0 : List Bool) (A1 : Option Addr) (n1 c1 : Nat) (E0 : List (Fin 65536)) (w : World) (s0 : Rd eBool w w.heap.size A0 n0 c0 B0) (s1 : Rd eU16 w w.heap.size A1 n1 c1 E0) :
    Calls Try.prog 3 #[.agg (jobV x A0 n0 c0 A1 n1 c1)] w fun e w' => e = .returned (.bool true) ∧ Below w.heap.size w w' := by
  have hB0 := Blk.newAt w 26 (jobV x A0 n0 c0 A1 n1 c1) w.heap.size rfl
  have hb0 := below_alloc w (.cells (jobV x A0 n0 c0 A1 n1 c1) 26)
  have HTW := hide (fun (W : World) (h : Below w.heap.size w W) => two_c x A0 n0 c0 B0 A1 n1 c1 E0 W (s0.on h) (s1.on h))
  have HPL := hide (fun (W : World) => plan_c x A0 n0 c0 A1 n1 c1 W)
  have HRN := hide (fun (n cc cc' : Nat) (A A' : Option Addr) (b tr : List Bool) (W : World) (h9 : n ≤ 9) (r : Rd eBool W W.heap.size A n cc b) (r' : Rd eBool W W.heap.size A' n cc' tr) => mrun_c (planC x) n cc cc' A A' b tr W r r' (planC_ok x) (by omega) (planC_sz x))
  have HW6 := hide works06_c
  have HRP := hide (fun (n d : Nat) (q : Qs) (A : Option Addr) (b : List Bool) (W : World) (hn : n ≤ 9) (rb : Rd eBool W W.heap.size A n d b) (hq : okQn (planC x).p n q) => reply_c (planC x) n q A d b W rb (planC_ok x) (by omega) hq)
  have HTO := hide (fun (n : Nat) (tr : List Bool) (d : Nat) (s : Mst) (h9 : n ≤ 9) (h : Ended (crs (planC x) n tr d) s) => (⟨told300 h.inv h9, h.inv.told⟩ : s.told.length ≤ 300 ∧ ∀ y ∈ s.told, okQn (planC x).p n y.q ∧ y.v = parL tr (plQ (ordL (planC x) n) y.q)))
  have HOL := hide (fun n : Nat => ordL_lt (planC x) n)
  clear s0 s1
  unfold casV at HPL HRN HRP
  obtain ⟨cp, hcp⟩ : ∃ q, q = (planC x).p := ⟨_, rfl⟩
  obtain ⟨cb, hcb⟩ : ∃ q, q = (planC x).bl := ⟨_, rfl⟩
  obtain ⟨sd, hsd⟩ : ∃ q, q = (planC x).sd := ⟨_, rfl⟩
  rw [← hcp, ← hcb, ← hsd] at HPL HRN
  rw [← hcp] at HTO
  rw [← hcp, ← hcb, ← hsd] at HRP
  obtain ⟨cx, hcx⟩ : ∃ q, q = planC x := ⟨_, rfl⟩
  rw [← hcx] at HRN HTO HRP HOL
  clear hcx
  clear hcp hcb hsd
  obtain ⟨xp, xbl, xsa, xma, xwi, xep, xsd, hok⟩ := x
  simp only [jobV] at hB0 hb0 HTW HPL ⊢
  go_enter Try.func3, Try.ntmps3
  go_upto_region 1 with fail
  obtain ⟨wA, hwA⟩ : ∃ q, q = w.alloc (.cells #[.slice A0 n0 c0, .slice A1 n1 c1, .int .u8 (xp : Int), .int .u8 (xbl : Int), .int .u8 (xsa : Int), .int .u8 (xma : Int), .int .u8 (xwi : Int), .int .u8 (xep : Int), .int .u64 (xsd : Int)] 26) := ⟨_, rfl⟩
  rw [← hwA] at hB0 hb0 ⊢
  obtain ⟨gJ, hgJ⟩ : ∃ q, q = w.heap.size := ⟨_, rfl⟩
  have HGJ := hide hgJ
  rw [← hgJ] at hB0 ⊢
  clear hwA hgJ
  have HA := hide (And.intro hB0 hb0)
  clear hB0 hb0
  have j0 := HA.out.1.cell 0
  have j1 := HA.out.1.cell 1
  have j2 := HA.out.1.cell 2
  have j3 := HA.out.1.cell 3
  have j4 := HA.out.1.cell 4
  have j5 := HA.out.1.cell 5
  have j6 := HA.out.1.cell 6
  have j7 := HA.out.1.cell 7
  have j8 := HA.out.1.cell 8
  simp only [List.getElem?_toArray, List.getElem?_cons_zero, List.getElem?_cons_succ] at j0 j1 j2 j3 j4 j5 j6 j7 j8
  go_upto_region 2 with (go_at_call 6; refine (HTW.out _ HA.out.2).mono ?_; rintro e w1 ⟨A, B, n, ca, cb', L, M, h9, rfl, rA, rB, hb1⟩)
  have HJ := hide (show ∀ W, Below wA.heap.size wA W → Blk W gJ 26 #[.slice A0 n0 c0, .slice A1 n1 c1, .int .u8 (xp : Int), .int .u8 (xbl : Int), .int .u8 (xsa : Int), .int .u8 (xma : Int), .int .u8 (xwi : Int), .int .u8 (xep : Int), .int .u64 (xsd : Int)] from fun W h => HA.out.1.keep h)
  have HB1 := hide hb1
  have HR1 := hide (And.intro rA rB)
  have H9 := hide h9
  clear j0 j1 j2 j3 j4 j5 j6 j7 j8 hb1 rA rB
  have j0 := (HJ.out _ HB1.out).cell 0
  have j1 := (HJ.out _ HB1.out).cell 1
  have j2 := (HJ.out _ HB1.out).cell 2
  have j3 := (HJ.out _ HB1.out).cell 3
  have j4 := (HJ.out _ HB1.out).cell 4
  have j5 := (HJ.out _ HB1.out).cell 5
  have j6 := (HJ.out _ HB1.out).cell 6
  have j7 := (HJ.out _ HB1.out).cell 7
  have j8 := (HJ.out _ HB1.out).cell 8
  simp only [List.getElem?_toArray, List.getElem?_cons_zero, List.getElem?_cons_succ] at j0 j1 j2 j3 j4 j5 j6 j7 j8
  go_upto_region 5 with (first | (go_at_call 8; refine (HPL.out _).mono ?_; rintro e w2 ⟨rfl, hb2⟩) | (go_at_call 7; refine (HRN.out n cb' ca B A M L _ H9.out (HR1.out.2.on hb2) (HR1.out.1.on hb2)).mono ?_; rintro e w3 ⟨a, s, rfl, hm, hb3, he⟩))
  have hto := HTO.out n L _ s H9.out he
  have hb23 := below_on hb2 hb3
  have rA := (HR1.out.1.on hb23)
  have rT := hm.m.t.rd
  have hb13 := below_on HB1.out hb23
  have hRP := fun d => HRP.out n d
  have hOL := HOL.out n
  obtain ⟨O, hO⟩ : ∃ q, q = ordL cx n := ⟨_, rfl⟩
  rw [← hO] at hto hOL
  simp only [← hO] at hRP
  have HO := hide (And.intro hOL hO)
  have HREP := hide (fun (d : Nat) (q : Qs) (A : Option Addr) (b : List Bool) (W : World) (rb : Rd eBool W W.heap.size A n d b) (hq : okQn cp n q) => hRP d q A b W H9.out rb hq)
  obtain ⟨T, hT⟩ : ∃ q, q = s.told := ⟨_, rfl⟩
  obtain ⟨TA, hTA⟩ : ∃ q, q = a.T.A := ⟨_, rfl⟩
  obtain ⟨tn, htn⟩ : ∃ q, q = a.T.n := ⟨_, rfl⟩
  obtain ⟨tc, htc⟩ : ∃ q, q = a.T.c := ⟨_, rfl⟩
  rw [← hT] at hto rT
  rw [← hTA, ← htn, ← htc] at rT ⊢
  clear hT hTA htn htc hRP hOL hO HOL HRP HTO
  have htl := rT.len
  have htm := rT.max
  have htcap := rT.cap
  have htn3 : tn ≤ 300 := by have := hto.1; omega
  have H3 := hide (And.intro rA (And.intro rT (And.intro hb13 (And.intro hto.2 htl))))
  have HEN := hide (enter_c 1 tn w3 (by omega) (by omega) (by omega))
  clear rA rT hb13 hto htl
  clear j0 j1 j2 j3 j4 j5 j6 j7 j8 hb2 hb3 hb23 hm he HRN HTW HR1 HB1
  go_upto_region 9 with (first | (go_at_call 9; refine HEN.out.mono ?_; rintro e w4 ⟨A4, c4, rfl, o4, hb4⟩) | (go_at_call 10; refine (dOf_c A4 c4 1 tn _ o4.rd (by omega) (by omega) (by omega)).mono ?_; rintro e w5 ⟨rfl, hb5⟩))
  have hb35 := below_on hb4 hb5
  have hb15 := below_on H3.out.2.2.1 hb35
  have HQ := hide (And.intro (H3.out.1.on hb35) (And.intro (H3.out.2.1.on hb35) (And.intro hb15 (And.intro H3.out.2.2.2.1 H3.out.2.2.2.2))))
  clear hb4 hb5 hb35 hb15 o4 H3 HEN
  have h9n := H9.out
  obtain ⟨P, hP⟩ : ∃ P : Nat → Bool, P = fun N => T.all fun y => parL (bitsN n N) (plQ O y.q) == parL L (plQ O y.q) := ⟨_, rfl⟩
  have HPP := hide hP
  clear hP
  obtain ⟨E, hE⟩ : ∃ E, E = 2 ^ n := ⟨_, rfl⟩
  have HEE := hide hE
  have hE9 : E ≤ 512 := by rw [hE]; exact Nat.le_trans (Nat.pow_le_pow_right (by omega) h9n) (by decide)
  clear hE
  go_wp2
  go_loopw [12, 11] (fun iv cv wr => ∃ N K : Nat, iv = .int .i64 N ∧ N ≤ E ∧ cv = .int .i64 K ∧ K = cnt N P ∧ Below w5.heap.size w5 wr) (fun iv _ _ => E - (intOf iv).toNat)
  case atStart => exact ⟨0, 0, rfl, Nat.zero_le _, rfl, rfl, Below.refl _ _⟩
  case round =>
    obtain ⟨N, K, rfl, hN, rfl, hK, hbr⟩ := hrel
    have HBR := hide (And.intro hbr hK)
    have hK9 : K ≤ 512 := by have := cnt_le N P; omega
    clear hbr hK
    by_cases hlt : N < E
    · have hltI : (N : Int) < (E : Int) := by omega
      obtain ⟨wO, hwO⟩ : ∃ q, q = wr := ⟨_, rfl⟩
      rw [← hwO] at HBR ⊢
      clear hwO
      have hwE := wrapE HEE.out hE9
      go_upto_region 13 with fail
      clear hwE
      go_upto_region 14 with (at_make; refine wl_mk eBool _ rfl _ _ _ rfl 4 (.bool false) 1 false Try.underlying22 info_boolT rfl (by omega) _ _ n (by rfl) (by rfl) rfl rfl (by omega) ?_; intro w7 o7 hg7 hlt7)
      have hb7 : Below wO.heap.size wO w7 := ⟨hg7.os, hg7.tape, hg7.output, hg7.size, fun i hi => hg7.block i hi (by simp)⟩
      obtain ⟨gW, hgW⟩ : ∃ q, q = wO.heap.size := ⟨_, rfl⟩
      rw [← hgW] at o7 hb7 ⊢
      rw [← bitsK_none n N] at o7
      have H7 := hide (And.intro o7 (And.intro hb7 hgW))
      clear o7 hb7 hgW hg7 hlt7
      go_wp2
      go_loopw [14] (fun jv wr => ∃ k : Nat, jv = .int .i64 k ∧ k ≤ n ∧ Ow eBool wr gW 4 (some ⟨gW, 0, none⟩) n n (bitsK n N k) ∧ Below gW wO wr) (fun jv _ => n - (intOf jv).toNat)
      case atStart => exact ⟨0, rfl, Nat.zero_le _, H7.out.1, H7.out.2.1⟩
      case round =>
        obtain ⟨k, rfl, hk, oW, hbW⟩ := hrel
        have HWW := hide (And.intro oW hbW)
        by_cases hkn : k < n
        · have hknI : (k : Int) < (n : Int) := by omega
          obtain ⟨_, y, eg, _, hgl, hy, hcy⟩ := oW.get hkn
          obtain rfl := (Addr.mk.inj (Option.some.inj eg)).1
          have y0 := hcy 0 _ rfl
          simp only [eBool, Nat.add_zero, Nat.mul_one] at y0
          have fy := oW.frozen k
          clear hcy hy eg oW hbW
          go_wp2
          go_roundw
          case rel =>
            rw [shr_bit]
            exact ⟨k + 1, by go_num, by omega, by rw [← bitsK_set hkn]; exact HWW.out.1.store1 hkn _ rfl rfl, HWW.out.2.setCell (p := ⟨gW, k, none⟩) (Nat.le_refl _) _⟩
          case measure => simp [intOf] <;> omega
        · have hknI : ¬ ((k : Int) < (n : Int)) := by omega
          have hke : k = n := by omega
          rw [hke, bitsK_all] at oW
          obtain ⟨wS, hwS⟩ : ∃ q, q = wr := ⟨_, rfl⟩
          rw [← hwS] at oW hbW ⊢
          have HS := hide (And.intro oW (hbW.mono (Nat.le_of_eq H7.out.2.2.symm)))
          have HKN := hide hke
          clear oW hbW hwS HWW hke
          go_wp2
          go_loopw [16, 15] (fun iv fv wr => ∃ (i : Nat) (f : Bool), iv = .int .i64 i ∧ i ≤ tn ∧ fv = .bool f ∧ f = (T.take i).all (fun y => parL (bitsN n N) (plQ O y.q) == parL L (plQ O y.q)) ∧ Below wS.heap.size wS wr) (fun iv _ _ => tn - (intOf iv).toNat)
          case atStart => exact ⟨0, true, rfl, Nat.zero_le _, rfl, by simp, Below.refl _ _⟩
          case round =>
            obtain ⟨i, f, rfl, hi, rfl, hf, hbi⟩ := hrel
            have HI := hide (And.intro hf hbi)
            have HBI := hide (below_on HBR.out.1 (below_on HS.out.2 hbi))
            clear hf hbi
            by_cases hit : i < tn
            · have hitI : (i : Int) < (tn : Int) := by omega
              cases f with
              | true =>
                obtain ⟨bT, oT, y, eT, hbT, hy, hcy⟩ := (HQ.out.2.1.on HBI.out).get hit
                have t0 := hcy 0 _ rfl
                have t1 := hcy 1 _ rfl
                have t2 := hcy 2 _ rfl
                have t3 := hcy 3 _ rfl
                simp only [eAns, Nat.add_zero] at t0 t1 t2 t3
                subst eT
                have HY := hide (And.intro hy (HQ.out.2.2.2.1 y (List.mem_of_getElem? hy)))
                obtain ⟨⟨qp, qf, qt⟩, yv⟩ := y
                simp only at t0 t1 t2 t3
                clear hcy hy
                have HJJ := hide (fun W (hW : Below wr.heap.size wr W) => HJ.out W (HQ.out.2.2.1.trans ((below_on HBI.out hW).mono HQ.out.2.2.1.size)))
                have HKP := hide (show ∀ W, Below wr.heap.size wr W → (W.cell? ⟨gJ, 0, none⟩ = some (.slice A0 n0 c0) ∧ W.cell? ⟨gJ, 1, none⟩ = some (.slice A1 n1 c1) ∧ W.cell? ⟨gJ, 2, none⟩ = some (.int .u8 (xp : Int)) ∧ W.cell? ⟨gJ, 3, none⟩ = some (.int .u8 (xbl : Int)) ∧ W.cell? ⟨gJ, 4, none⟩ = some (.int .u8 (xsa : Int)) ∧ W.cell? ⟨gJ, 5, none⟩ = some (.int .u8 (xma : Int)) ∧ W.cell? ⟨gJ, 6, none⟩ = some (.int .u8 (xwi : Int)) ∧ W.cell? ⟨gJ, 7, none⟩ = some (.int .u8 (xep : Int)) ∧ W.cell? ⟨gJ, 8, none⟩ = some (.int .u64 (xsd : Int)) ∧ W.cell? ⟨bT, oT + i * 4, none⟩ = some (.int .i64 (qp : Int)) ∧ W.cell? ⟨bT, oT + i * 4 + 1, none⟩ = some (.int .i64 (qf : Int)) ∧ W.cell? ⟨bT, oT + i * 4 + 2, none⟩ = some (.int .i64 (qt : Int))) from fun W hW => ⟨(HJJ.out _ hW).cell 0, (HJJ.out _ hW).cell 1, (HJJ.out _ hW).cell 2, (HJJ.out _ hW).cell 3, (HJJ.out _ hW).cell 4, (HJJ.out _ hW).cell 5, (HJJ.out _ hW).cell 6, (HJJ.out _ hW).cell 7, (HJJ.out _ hW).cell 8, (hW.cell (p := ⟨bT, oT + i * 4, none⟩) hbT).trans t0, (hW.cell (p := ⟨bT, oT + i * 4 + 1, none⟩) hbT).trans t1, (hW.cell (p := ⟨bT, oT + i * 4 + 2, none⟩) hbT).trans t2⟩)
                have HT3 := hide (show ∀ W, Below wr.heap.size wr W → W.cell? ⟨bT, oT + i * 4 + 3, none⟩ = some (.bool yv) from fun W hW => (hW.cell (p := ⟨bT, oT + i * 4 + 3, none⟩) hbT).trans t3)
                have HRW := hide (fun W (hW : Below wr.heap.size wr W) => (HS.out.1.rd.on HI.out.2).on hW)
                clear t0 t1 t2 t3 hbT
                have HD := hide (show Below wr.heap.size wr wr.drew from below_drewN (Below.refl _ _) 1)
                go_upto_region 22 with fail
                go_region_held3 (fun W => W.cell? ⟨gJ, 0, none⟩ = some (.slice A0 n0 c0) ∧ W.cell? ⟨gJ, 1, none⟩ = some (.slice A1 n1 c1) ∧ W.cell? ⟨gJ, 2, none⟩ = some (.int .u8 (xp : Int)) ∧ W.cell? ⟨gJ, 3, none⟩ = some (.int .u8 (xbl : Int)) ∧ W.cell? ⟨gJ, 4, none⟩ = some (.int .u8 (xsa : Int)) ∧ W.cell? ⟨gJ, 5, none⟩ = some (.int .u8 (xma : Int)) ∧ W.cell? ⟨gJ, 6, none⟩ = some (.int .u8 (xwi : Int)) ∧ W.cell? ⟨gJ, 7, none⟩ = some (.int .u8 (xep : Int)) ∧ W.cell? ⟨gJ, 8, none⟩ = some (.int .u64 (xsd : Int)) ∧ W.cell? ⟨bT, oT + i * 4, none⟩ = some (.int .i64 (qp : Int)) ∧ W.cell? ⟨bT, oT + i * 4 + 1, none⟩ = some (.int .i64 (qf : Int)) ∧ W.cell? ⟨bT, oT + i * 4 + 2, none⟩ = some (.int .i64 (qt : Int))) (first | exact HKP.out _ HD.out | exact HKP.out _ HB10.out | exact HKP.out _ HB11.out) ((first | (go_at_call 8; refine (HPL.out _).mono ?_; rintro e w10 ⟨rfl, hb10⟩; have HB10 := hide (below_on HD.out hb10); clear hb10) | (go_at_call 11; refine (HREP.out n ⟨qp, qf, qt⟩ (some ⟨gW, 0, none⟩) (bitsN n N) _ (HRW.out _ HB10.out) HY.out.2.1).mono ?_; rintro e w11 ⟨rfl, hb11⟩; have HB11 := hide (below_on HB10.out hb11); clear hb11)))
                have t3 := HT3.out _ HB11.out
                go_wp2
                go_roundw
                case rel => exact ⟨i + 1, _, by go_num, by omega, rfl, (by rw [all_succ HY.out.1, ← HI.out.1, Bool.true_and, ← HY.out.2.2]), below_on HI.out.2 HB11.out⟩
                case measure => simp [intOf] <;> omega
              | false =>
                go_wp2
                go_roundw
                case rel =>
                  have hPN : P N = false := by rw [HPP.out]; exact all_no HI.out.1
                  exact ⟨N + 1, K, by go_num, by omega, rfl, (by rw [cnt_succ, hPN, HBR.out.2]; rfl), HBI.out⟩
                case measure => simp [intOf] <;> omega
            · have hitI : ¬ ((i : Int) < (tn : Int)) := by omega
              cases f with
              | false =>
                go_wp2
                go_roundw
                case rel =>
                  have hPN : P N = false := by rw [HPP.out]; exact all_no HI.out.1
                  exact ⟨N + 1, K, by go_num, by omega, rfl, (by rw [cnt_succ, hPN, HBR.out.2]; rfl), HBI.out⟩
                case measure => simp [intOf] <;> omega
              | true =>
                go_wp2
                go_roundw
                case rel =>
                  have hPN : P N = true := by rw [HPP.out]; exact all_yes HI.out.1 (by have := HQ.out.2.2.2.2; omega)
                  exact ⟨N + 1, K + 1, by go_num, by omega, by go_num, (by rw [cnt_succ, hPN, HBR.out.2]; rfl), HBI.out⟩
                case measure => simp [intOf] <;> omega
    · have hNE : N = E := by omega
      subst hNE
      have hltI : ¬ ((N : Int) < (N : Int)) := by omega
      have hsl := same_law L (by rw [HQ.out.1.len]; exact h9n) (T.map fun y => plQ O y.q) (fun L' hL' j hj => by
        obtain ⟨y, hy, rfl⟩ := List.mem_map.1 hL'
        rw [HQ.out.1.len]
        exact plQ_lt (HO.out.1 y.q.p) j hj)
      rw [HQ.out.1.len, List.length_map, HQ.out.2.2.2.2, ← HEE.out] at hsl
      have hcnt : cnt N (fun m => (T.map fun y => plQ O y.q).all fun L' => parL (bitsN n m) L' == parL L L') = K := by
        rw [HBR.out.2, HPP.out]
        congr 1
        funext m
        rw [List.all_map]
        rfl
      rw [hcnt] at hsl
      have hKE : K ≤ N := by rw [HBR.out.2]; exact cnt_le N P
      have hK1 : (1 : Int) ≤ (K : Int) := by omega
      by_cases ht20 : tn ≤ 20
      · rw [Nat.min_eq_left ht20] at hsl
        have ht20i : ¬ ((20 : Int) < (tn : Int)) := by omega
        have hp20 : 2 ^ tn ≤ 2 ^ 20 := Nat.pow_le_pow_right (by omega) ht20
        have hGm : K * 2 ^ tn ≤ 512 * 2 ^ 20 := Nat.mul_le_mul (by omega) hp20
        obtain ⟨G, hG⟩ : ∃ G, G = K * 2 ^ tn := ⟨_, rfl⟩
        have hG5 : G ≤ 536870912 := by omega
        have hge : (N : Int) ≤ (G : Int) := by omega
        have hwG := wrapG hG hG5
        have hwE := wrapE HEE.out hE9
        clear hsl hcnt hp20 hGm hG
        go_wp2_with (go_at_call 12; refine (HW6.out _).mono ?_; rintro e w9 ⟨rfl, hb9⟩)
        go_ret
        exact ⟨rfl, below_on (below_on HA.out.2 HQ.out.2.2.1) (below_on HBR.out.1 hb9)⟩
      · rw [Nat.min_eq_right (by omega)] at hsl
        have ht20i : (20 : Int) < (tn : Int) := by omega
        have hge := end20 hsl.2
        have hge' : ¬ ((K : Int) * 1048576 < (N : Int)) := Int.not_lt.2 hge
        have hwE := wrapE HEE.out hE9
        clear hsl hcnt
        go_wp2_with (go_at_call 12; refine (HW6.out _).mono ?_; rintro e w9 ⟨rfl, hb9⟩)
        go_ret
        exact ⟨rfl, below_on (below_on HA.out.2 HQ.out.2.2.1) (below_on HBR.out.1 hb9)⟩
end Go.Proofs.Ytchhkokpjdkkiaa
