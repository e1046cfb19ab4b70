/- The walk of the law TopDisturbs. -/
import Derived.Test.YtchhkokpjdkkiaaTopSiftsa20
import Derived.Test.YtchhkokpjdkkiaaTopSiftsa32
import Derived.BigQuiet
import Derived.Deep.RegionHeld3
import Derived.Deep.DeepCutAuto
namespace Go.Proofs.Ytchhkokpjdkkiaa
open Go.RowKit

def kDist : List Int := [1, 4, 5]
theorem kDist_ok : OkS kDist := ⟨by decide, by decide, by decide⟩
theorem conv8d (m : Nat) (hm : m < 256) : IntKind.i64.wrap (m : Int) = (m : Int) := by simp only [IntKind.wrap, IntKind.bits, IntKind.signed]; simp; omega
def oth (p : Pu) (i : Nat) (y : No) : Bool := decide (y.slot = i) && (decide (y.how = 1) && decide (y.b ≠ p.b))
theorem any_snoc {f : No → Bool} {N : List No} {k : Nat} {y : No} (h : N[k]? = some y) : (N.take (k + 1)).any f = ((N.take k).any f || f y) := by
  rw [List.take_add_one, h, List.any_append]; simp
theorem dark_arr (x : Lgt) : arrOf x 17 = x.dk := by unfold arrOf arrF; split <;> rfl
theorem kDist_calm (sh : Nat) (S : List Spn) : Calm (spL kDist sh S) := fun r hr => by
  rcases spL_kind kDist_ok hr with h | h
  · exact .inr (.inl h)
  · simp [kDist] at h; omega
/-- A kept slot whose bits differ has been measured in another basis. -/
theorem dist_law {x : Lgt} (hd : x.dk = 0) {S : List Spn} {s : Nat} {p : Pu} {z : Ck} (hp : (tP x)[s]? = some p) (hj : s + tSh x < x.sl) (hz : (tC x (spL kDist (tSh x) S))[s + tSh x]? = some z) (hs : single z = true) (hb : p.b = z.b)
    (ho : (tN x (spL kDist (tSh x) S)).any (oth p s) = false) : p.bit = decide (z.k = 2) := by
  unfold tC at hz
  rw [dark_arr, hd] at hz
  refine wrong_calm (kDist_calm (tSh x) S) (tP_len x) hp hj hz hs hb fun y hy h1 h2 => ?_
  have h3 := List.any_eq_false.1 ho y hy
  by_cases h4 : y.b = p.b
  · exact h4
  · exact absurd (by simp [oth, h1, h2, h4]) h3

set_option linter.unusedSimpArgs false in
set_option maxRecDepth 100000 in
set_option maxHeartbeats 12800000 in
theorem disturbs_c (x : Lgt) (A : Option Addr) (m c : Nat) (S : List Spn) (w : World) (r : Rd eSpn w w.heap.size A m c S) :
    Calls Try.prog 5 #[.agg (lgtV x (.slice A m c))] w fun e w' => e = .returned (.bool true) ∧ Below w.heap.size w w' := by
  obtain ⟨xk, ph, et, dk, n, hd, sf, a, b, c0, ok⟩ := x
  have hB0 := Blk.newAt w 52 (lgtV ⟨xk, ph, et, dk, n, hd, sf, a, b, c0, ok⟩ (.slice A m c)) w.heap.size rfl
  have hb0 := below_alloc w (.cells (lgtV ⟨xk, ph, et, dk, n, hd, sf, a, b, c0, ok⟩ (.slice A m c)) 52)
  have hn8 : n < 256 := ok.2.2.2.2.1
  have hcv := conv8d n hn8
  obtain ⟨x, hx⟩ : ∃ x : Lgt, x = ⟨xk, ph, et, 0, n, hd, sf, a, b, c0, ⟨ok.1, ok.2.1, ok.2.2.1, by omega, ok.2.2.2.2⟩⟩ := ⟨_, rfl⟩
  have hxd : x.dk = 0 := by rw [hx]
  have hxn : x.sl = n := by rw [hx]
  have hxa : x.a = a := by rw [hx]
  have hxb : x.b = b := by rw [hx]
  have hxc : x.c = c0 := by rw [hx]
  have hxV : lgtV x (.slice A m c) = #[.int .u8 (xk : Int), .int .u8 (ph : Int), .int .u8 (et : Int), .int .u8 0, .int .u8 (n : Int), .int .u8 (hd : Int), .int .u8 (sf : Int), .slice A m c, .int .u64 (a : Int), .int .u64 (b : Int), .int .u64 (c0 : Int)] := by rw [hx]; rfl
  have HARR := hide (fun W => arrangement_c x A m c W)
  have HSP := hide (fun W A' c' (h : Rd eSpn W W.heap.size A m c S) (q : Rd eInt W W.heap.size A' 3 c' kDist) => spans_c x kDist kDist_ok S A m c A' 3 c' W h q)
  have HRUN := hide (fun W A' k c' (h : Rd eRu W W.heap.size A' k c' (spL kDist (tSh x) S)) => toprun_c x kDist kDist_ok S A' k c' W h)
  have HDL := hide (fun s p z => @dist_law x hxd S s p z)
  rw [hxn] at HRUN HDL
  rw [hxa, hxb, hxc] at HRUN
  rw [hxV] at HARR HSP
  have hs16 := tSh_le x
  have HPL := hide (show (tP x).length = n by rw [tP_len, hxn])
  have HPE := hide (tP_err x)
  have HCL := hide (show (tC x (spL kDist (tSh x) S)).length = n by rw [tC_len, hxn])
  have HCE := hide (tC_err x (spL kDist (tSh x) S))
  have HNO := hide (show (tN x (spL kDist (tSh x) S)).all (fun y => okNo y && inNo n y) = true by rw [← hxn]; exact tN_ok kDist_ok)
  have hsp : spL kDist (x.sf % 17) S = spL kDist (tSh x) S := rfl
  rw [hsp] at HSP
  have HLE := hide (show (tN x (spL kDist (tSh x) S)).length ≤ n * 32 by
    have h := carrF_notes (spL kDist (tSh x) S) (tP x) x.b x.sl
    have h2 : (spL kDist (tSh x) S).length ≤ 32 := by unfold spL; rw [List.length_cons, List.length_map, List.length_take]; omega
    rw [hxn] at h
    unfold tN; rw [hxn]
    exact Nat.le_trans h (Nat.mul_le_mul_left _ h2))
  obtain ⟨f, hf⟩ : ∃ q, q = arrOf x := ⟨_, rfl⟩
  obtain ⟨P, hP⟩ : ∃ q, q = tP x := ⟨_, rfl⟩
  obtain ⟨C, hC⟩ : ∃ q, q = tC x (spL kDist (tSh x) S) := ⟨_, rfl⟩
  obtain ⟨N, hN⟩ : ∃ q, q = tN x (spL kDist (tSh x) S) := ⟨_, rfl⟩
  obtain ⟨L, hL⟩ : ∃ q, q = spL kDist (tSh x) S := ⟨_, rfl⟩
  obtain ⟨sh, hsh⟩ : ∃ q, q = tSh x := ⟨_, rfl⟩
  rw [← hf, ← hP, ← hC, ← hN, ← hL, ← hsh] at HRUN
  rw [← hP, ← hC, ← hN, ← hsh] at HDL
  rw [← hf] at HARR
  rw [← hL] at HSP
  rw [← hP] at HPL HPE
  rw [← hC] at HCL HCE
  rw [← hN] at HNO HLE
  rw [← hsh] at hs16
  clear hf hP hC hN hL hsh hx hxd hxn hxa hxb hxc hxV hsp
  simp only [lgtV] at hB0 hb0 ⊢
  go_enter Try.func5, Try.ntmps5
  go_upto_region 1 with fail
  obtain ⟨wA, hwA⟩ : ∃ q, q = w.alloc (.cells #[.int .u8 (xk : Int), .int .u8 (ph : Int), .int .u8 (et : Int), .int .u8 (dk : Int), .int .u8 (n : Int), .int .u8 (hd : Int), .int .u8 (sf : Int), .slice A m c, .int .u64 (a : Int), .int .u64 (b : Int), .int .u64 (c0 : Int)] 52) := ⟨_, rfl⟩
  rw [← hwA] at hB0 hb0 ⊢
  have r0 := r
  have r := r.on hb0
  have hgle := Nat.le_refl w.heap.size
  obtain ⟨gL, hgL⟩ : ∃ q, q = w.heap.size := ⟨_, rfl⟩
  rw [← hgL] at hB0 ⊢
  have HGL := hide (show w.heap.size ≤ gL by omega)
  clear hwA hgL hgle
  have l3 := hB0.cell 3
  have fz3 := hB0.frozen 3
  simp only [List.getElem?_toArray, List.getElem?_cons_zero, List.getElem?_cons_succ] at l3
  go_upto_region 2 with fail
  have hB1 : Blk (wA.setCell ⟨gL, 3, none⟩ (.int .u8 0)) gL 52 #[.int .u8 (xk : Int), .int .u8 (ph : Int), .int .u8 (et : Int), .int .u8 0, .int .u8 (n : Int), .int .u8 (hd : Int), .int .u8 (sf : Int), .slice A m c, .int .u64 (a : Int), .int .u64 (b : Int), .int .u64 (c0 : Int)] := hB0.set_ 3 (.int .u8 0)
  have hb01 := below_grown hb0 (grownBy_setCell wA gL 3 (.int .u8 0)) HGL.out (Nat.le_refl _)
  have r1 : Rd eSpn (wA.setCell ⟨gL, 3, none⟩ (.int .u8 0)) (wA.setCell ⟨gL, 3, none⟩ (.int .u8 0)).heap.size A m c S := r0.on hb01
  obtain ⟨wD, hwD⟩ : ∃ q, q = wA.setCell ⟨gL, 3, none⟩ (.int .u8 0) := ⟨_, rfl⟩
  rw [← hwD] at hB1 hb01 r1 ⊢
  clear hwD hB0 hb0 r l3 fz3 r0
  go_upto_region 3 with (first | (show wpList _ _ _ (⟨some 21, _, _, _, _, _⟩ :: _) _ _; refine wl_load (o := ⟨some 21, _, _, _, _, _⟩) rfl 52 _ rfl gL rfl 52 #[.int .u8 (xk : Int), .int .u8 (ph : Int), .int .u8 (et : Int), .int .u8 0, .int .u8 (n : Int), .int .u8 (hd : Int), .int .u8 (sf : Int), .slice A m c, .int .u64 (a : Int), .int .u64 (b : Int), .int .u64 (c0 : Int)] _ hB1 Try.underlying52 rfl (by kernel_rfl) ?_) | (go_at_call 13; refine (HARR.out _).mono ?_; rintro e w1 ⟨rfl, hb1⟩; have b0 := Blk.newAt w1 57 (cells18 fun _ => 0) w1.heap.size rfl) | (show wpList _ _ _ (⟨none, _, _, _, _, _⟩ :: _) _ _; refine wl_store (o := ⟨none, _, _, _, _, _⟩) rfl 57 _ _ rfl w1.heap.size (cells18 f) rfl rfl 57 (cells18 fun _ => 0) b0 inf_opt (by rw [cells18_size, cells18_size]) (cells18_one _) ?_; intro w2 b2 hg2))
  have hb2 := below_grown (below_on hb1 (below_alloc w1 (.cells (cells18 fun _ => 0) 57))) hg2 hb1.size (Nat.le_refl _)
  have hB2 := hB1.keep hb2
  have r2 := r1.on hb2
  have hb02 := below_on hb01 hb2
  obtain ⟨gO, hgO⟩ : ∃ q, q = w1.heap.size := ⟨_, rfl⟩
  rw [← hgO] at b2 ⊢
  clear hgO hg2 b0 hb1 hb2 hB1 r1 hb01
  have l4 := hB2.cell 4
  simp only [List.getElem?_toArray, List.getElem?_cons_zero, List.getElem?_cons_succ] at l4
  go_upto_region 4 with fail
  have q0 := Rd.many (e := eInt) w2 3 kDist #[.int .i64 1, .int .i64 4, .int .i64 5] rfl 3 rfl (by omega) w2.heap.size rfl
  have hbq := below_alloc w2 (.cells #[.int .i64 1, .int .i64 4, .int .i64 5] 3)
  go_upto_region 5 with (first | (show wpList _ _ _ (⟨some 26, _, _, _, _, _⟩ :: _) _ _; refine wl_load (o := ⟨some 26, _, _, _, _, _⟩) rfl 52 _ rfl gL rfl 52 #[.int .u8 (xk : Int), .int .u8 (ph : Int), .int .u8 (et : Int), .int .u8 0, .int .u8 (n : Int), .int .u8 (hd : Int), .int .u8 (sf : Int), .slice A m c, .int .u64 (a : Int), .int .u64 (b : Int), .int .u64 (c0 : Int)] _ hB2 Try.underlying52 rfl (by kernel_rfl) ?_) | (go_at_call 14; refine (HSP.out _ _ _ (r2.on hbq) q0).mono ?_; rintro e w3 ⟨AR, kR, cR, rfl, rR, hb3⟩))
  have hb23 := below_on hbq hb3
  have hB3 := hB2.keep hb23
  have b3 := b2.keep hb23
  have hb03 := below_on hb02 hb23
  clear hbq hb3 hb23 hB2 b2 r2 hb02 q0 l4 HSP HARR
  have l8 := hB3.cell 8
  have l9 := hB3.cell 9
  have l10 := hB3.cell 10
  simp only [List.getElem?_toArray, List.getElem?_cons_zero, List.getElem?_cons_succ] at l8 l9 l10
  go_upto_region 6 with (first | (show wpList _ _ _ (⟨some 30, _, _, _, _, _⟩ :: _) _ _; refine wl_load (o := ⟨some 30, _, _, _, _, _⟩) rfl 57 _ rfl gO rfl 57 (cells18 f) _ b3 Try.underlying57 rfl inf_opt ?_) | (go_at_call 15; refine (HRUN.out _ _ _ _ rR).mono ?_; rintro e w4 ⟨A1, c1, A2, c2, A3, n3, c3, rfl, p4, k4, t4, hb4⟩))
  clear l8 l9 l10 b3 rR HRUN
  have hF := Blk.newAt w4 66 #[.slice A1 n c1, .slice A2 n c2, .slice A3 n3 c3, .int .i64 (sh : Int)] w4.heap.size rfl
  have hbF := below_alloc w4 (.cells #[.slice A1 n c1, .slice A2 n c2, .slice A3 n3 c3, .int .i64 (sh : Int)] 66)
  have hb04 := below_on hb03 (below_on hb4 hbF)
  have p4 := p4.on hbF
  have k4 := k4.on hbF
  have t4 := t4.on hbF
  obtain ⟨wF, hwF⟩ : ∃ q, q = w4.alloc (.cells #[.slice A1 n c1, .slice A2 n c2, .slice A3 n3 c3, .int .i64 (sh : Int)] 66) := ⟨_, rfl⟩
  rw [← hwF] at hF hbF hb04 p4 k4 t4 ⊢
  obtain ⟨gF, hgF⟩ : ∃ q, q = w4.heap.size := ⟨_, rfl⟩
  rw [← hgF] at hF ⊢
  clear hwF hgF hb4 hbF hB3 hb03
  have hn3 : n3 ≤ 8192 := by have := t4.len; have := HLE.out; omega
  have f0 := hF.cell 0
  have f1 := hF.cell 1
  have f3 := hF.cell 3
  simp only [List.getElem?_toArray, List.getElem?_cons_zero, List.getElem?_cons_succ] at f0 f1 f3
  go_upto_region 8 with fail
  obtain ⟨H, hH⟩ : ∃ q, q = hearL C sh 0 n n := ⟨_, rfl⟩
  have HAN := hide (show Calls Try.prog 16 #[.slice A2 n c2, .int .i64 (sh : Int), .int .i64 0, .int .i64 (n : Int)] wF fun e w' => ∃ B m d, e = .returned (.tuple #[.slice B m d, .int .i64 0]) ∧ Rd eHe w' w'.heap.size B m d H ∧ Below wF.heap.size wF w' from hH ▸ announce_c A2 n c2 C sh 0 n wF k4 HCE.out hs16 (by omega) (by omega))
  have HHL := hide (show H.length ≤ n by rw [hH]; exact hearL_len)
  have HHR := hide (show RisingH H ((0 : Nat) : Int) ((n : Int) - 1) by rw [hH]; exact hearL_rising (clicksErr_zero HCE.out).2)
  have HKM := hide (fun i => hH ▸ (mem_kept (P := P) (C := C) (sh := sh) (fr := 0) (n := n) (m := n) (i := i)))
  have HK1 := hide (show Rising (keptL P H) 0 ((n : Int) - 1) by rw [hH]; exact kept_rising (by omega))
  have HK2 := hide (show Rising (keptL P H) 0 ((n : Int) - 1 - sh) by rw [hH]; exact kept_rising (by omega))
  clear hH
  go_upto_region 11 with (go_at_call 16; refine HAN.out.mono ?_; rintro e w5 ⟨AH, mH, cH, rfl, rH, hb5⟩)
  have hmH : mH ≤ 4096 := by have := rH.len; have := HHL.out; omega
  have f0 := (hF.keep hb5).cell 0
  simp only [List.getElem?_toArray, List.getElem?_cons_zero, List.getElem?_cons_succ] at f0
  obtain ⟨Q, hQ⟩ : ∃ q, q = keptL P H := ⟨_, rfl⟩
  have HMT := hide (show Calls Try.prog 17 #[.slice A1 n c1, .slice AH mH cH, .int .i64 0] w5 fun e w' => ∃ B k d, e = .returned (.tuple #[.slice B k d, .int .i64 0]) ∧ Rd eNat w' w'.heap.size B k d Q ∧ Below w5.heap.size w5 w' from hQ ▸ match_c A1 n c1 P AH mH cH H 0 w5 (p4.on hb5) rH HPE.out HHR.out (by omega) hmH (by omega))
  have HQL := hide (show Q.length ≤ n by rw [hQ]; have := keptL_len P H; have := HHL.out; omega)
  rw [← hQ] at HK1 HK2 HKM
  clear hQ HAN
  go_upto_region 12 with (go_at_call 17; refine HMT.out.mono ?_; rintro e w6 ⟨AQ, mQ, cQ, rfl, rQ, hb6⟩)
  have hb56 := below_on hb5 hb6
  have hmQ : mQ ≤ n := by have := rQ.len; have := HQL.out; omega
  have f0 := (hF.keep hb56).cell 0
  simp only [List.getElem?_toArray, List.getElem?_cons_zero, List.getElem?_cons_succ] at f0
  have HSE := hide (sent_c A1 n c1 P AQ mQ cQ Q w6 (p4.on hb56) rQ HPE.out HK1.out (by omega) (by omega))
  clear HMT rH hb5 hb6
  go_upto_region 13 with (go_at_call 18; refine HSE.out.mono ?_; rintro e w7 ⟨AS, cS, rfl, rS, hb7⟩)
  have hb57 := below_on hb56 hb7
  have rQ7 := rQ.on hb7
  have f1 := (hF.keep hb57).cell 1
  have f3 := (hF.keep hb57).cell 3
  simp only [List.getElem?_toArray, List.getElem?_cons_zero, List.getElem?_cons_succ] at f1 f3
  have HRE := hide (received_c A2 n c2 C AQ mQ cQ Q sh w7 (k4.on hb57) rQ7 HCE.out hs16 HK2.out (fun k i y hk hy => by
    obtain ⟨_, _, _, p, c, _, hc, hsg, _⟩ := (HKM.out i).1 (List.mem_of_getElem? hk)
    rw [hy] at hc; rw [Option.some.inj hc]; exact hsg) (by omega))
  clear HSE hb56 hb7 rQ f0
  go_upto_region 14 with (go_at_call 19; refine HRE.out.mono ?_; rintro e w8 ⟨AT, cT, rfl, rT, hb8⟩)
  have hb58 := below_on hb57 hb8
  have rQ8 := rQ7.on hb8
  have rS8 := rS.on hb8
  have p8 := p4.on hb58
  have k8 := k4.on hb58
  have t8 := t4.on hb58
  have F8 := hF.keep hb58
  have hb08 := below_on hb04 hb58
  clear hF HRE hb57 hb8 rQ7 rS p4 k4 t4 hb58 hb04 f1 f3
  have f0 := F8.cell 0
  have f2 := F8.cell 2
  simp only [List.getElem?_toArray, List.getElem?_cons_zero, List.getElem?_cons_succ] at f0 f2
  have HKN := hide (known_c A1 n c1 P A3 n3 c3 N AQ mQ cQ Q w8 p8 t8 rQ8 HPE.out (by
    unfold knowsErr
    rw [if_neg (by rw [HPE.out]; simp), if_neg (by have := HLE.out; omega), HPL.out]
    exact noteErr_ok HNO.out) HK1.out (by omega) (by omega))
  obtain ⟨K, hK⟩ : ∃ q, q = marks P N := ⟨_, rfl⟩
  rw [← hK] at HKN
  have HMK := hide (fun s p (hp : P[s]? = some p) => (by
    have h := marks_knows hp (N := N) (fun y hy => by
      have := List.all_eq_true.1 HNO.out y hy
      simp only [Bool.and_eq_true, inNo, decide_eq_true_eq] at this
      omega)
    rw [← hK] at h
    rw [List.getD_eq_getElem?_getD, h]; rfl : K.getD s false = N.any (knowing p s)))
  have hkQ := knownN_le K Q
  obtain ⟨kn, hkn⟩ : ∃ q, q = knownN K Q := ⟨_, rfl⟩
  rw [← hkn] at HKN hkQ
  have hkq : kn ≤ mQ := by have := rQ8.len; omega
  have HKNQ := hide hkn
  clear hK hkn
  go_upto_region 17 with (go_at_call 22; refine HKN.out.mono ?_; rintro e w9 ⟨rfl, hb9⟩)
  have rQ9 := rQ8.on hb9
  have rS9 := rS8.on hb9
  have rT9 := rT.on hb9
  have p9 := p8.on hb9
  have k9 := k8.on hb9
  have t9 := t8.on hb9
  have F9 := F8.keep hb9
  have hb09 := below_on hb08 hb9
  have hk0 : ¬ ((kn : Int) < 0) := by omega
  have hk1 : ¬ (mQ < kn) := by omega
  clear F8 rQ8 rS8 rT p8 k8 t8 hb08 hb9 HKN f0 f2
  have f0 := F9.cell 0
  have f2 := F9.cell 2
  simp only [List.getElem?_toArray, List.getElem?_cons_zero, List.getElem?_cons_succ] at f0 f2
  go_upto_region 21 with fail
  go_loopw [16, 15] (fun iv cv wr => ∃ i : Nat, i ≤ mQ ∧ iv = .int .i64 i ∧ cv = .int .i64 (knownN K (Q.take i) : Nat) ∧ Below w9.heap.size w9 wr) (fun iv _ _ => mQ - (intOf iv).toNat)
  case atStart => exact ⟨0, by omega, rfl, rfl, Below.refl _ _⟩
  case round =>
    obtain ⟨i, hi, rfl, rfl, hbw⟩ := hrel
    have hcn := knownN_le K (Q.take i)
    rw [List.length_take] at hcn
    obtain ⟨cn, hcn'⟩ : ∃ q, q = knownN K (Q.take i) := ⟨_, rfl⟩
    rw [← hcn'] at hcn ⊢
    have HCN := hide hcn'
    clear hcn'
    by_cases hlt : i < mQ
    · have F9 := F9.keep hbw
      obtain ⟨b1, o1, s, eA, hbb1, hs, hc1⟩ := (rQ9.on hbw).get hlt
      subst eA
      have q0 := hc1 0 _ rfl
      simp only [eNat, Nat.add_zero, Nat.mul_one] at q0
      have hsK := (HKM.out s).1 (List.mem_of_getElem? hs)
      obtain ⟨_, hsn, hsj, p, z, hp, hz, hsg, _, hpz⟩ := hsK
      obtain ⟨b2, o2, p', eA, hbb2, hp', hc2⟩ := (p9.on hbw).get hsn
      subst eA
      obtain rfl : p = p' := Option.some.inj (hp.symm.trans hp')
      have x0 := hc2 0 _ rfl
      simp only [ePu, Nat.add_zero] at x0
      obtain ⟨b4, o4, u, eA, hbb4, hu, hc4⟩ := (rS9.on hbw).get hlt
      subst eA
      have u0 := hc4 0 _ rfl
      simp only [eBool, Nat.add_zero, Nat.mul_one] at u0
      obtain ⟨b5, o5, v, eA, hbb5, hv, hc5⟩ := (rT9.on hbw).get hlt
      subst eA
      have v0 := hc5 0 _ rfl
      simp only [eBool, Nat.add_zero, Nat.mul_one] at v0
      have hup : u = p.bit := by
        have h : (bitsOf P Q)[i]? = some p.bit := by unfold bitsOf; rw [List.getElem?_map, hs]; simp [hp]
        exact Option.some.inj (hu.symm.trans h)
      have hvz : v = decide (z.k = 2) := by
        have h : (Q.map (rbit C sh))[i]? = some (decide (z.k = 2)) := by rw [List.getElem?_map, hs]; simp only [Option.map_some, rbit]; rw [hz]
        exact Option.some.inj (hv.symm.trans h)
      have HLAW := hide (fun (ho : N.any (oth p s) = false) => (by rw [hup, hvz]; exact HDL.out s p z hp hsj hz hsg hpz ho : u = v))
      have HKS := hide (HMK.out s p hp)
      have HS := hide hs
      obtain ⟨A', hA'⟩ : ∃ q : No → Bool, q = knowing p s := ⟨_, rfl⟩
      obtain ⟨O', hO'⟩ : ∃ q : No → Bool, q = oth p s := ⟨_, rfl⟩
      have HAF := hide (fun y => congrFun hA' y)
      have HOF := hide (fun y => congrFun hO' y)
      rw [← hA'] at HKS
      rw [← hO'] at HLAW
      obtain ⟨yb, ybit, ycl, yph, yseen⟩ := p
      simp only at x0
      have hs0 : ¬ ((s : Int) < 0) := by omega
      have hns : ¬ (n ≤ s) := by omega
      have hsn0 : (0 : Int) ≤ (s : Int) := by omega
      have hsn1 : (s : Int) < (n : Int) := by omega
      have HBB := hide (show b1 < wr.heap.size ∧ b2 < wr.heap.size ∧ b4 < wr.heap.size ∧ b5 < wr.heap.size from ⟨hbb1, hbb2, hbb4, hbb5⟩)
      clear hc1 hc2 hc4 hc5 hu hv hs hp hp' hz hsg hpz hbb1 hbb2 hbb4 hbb5 hup hvz hsj hA' hO'
      go_upto_region 27 with fail
      go_loopw [19, 18, 17] (fun iv av ov wz => ∃ k : Nat, k ≤ n3 ∧ iv = .int .i64 k ∧ av = .bool ((N.take k).any A') ∧ ov = .bool ((N.take k).any O') ∧ Below wr.heap.size wr wz) (fun iv _ _ _ => n3 - (intOf iv).toNat)
      case atStart => exact ⟨0, by omega, rfl, rfl, rfl, Below.refl _ _⟩
      case round =>
        obtain ⟨k, hk, rfl, rfl, rfl, hbz⟩ := hrel
        obtain ⟨av, hav⟩ : ∃ q, q = (N.take k).any A' := ⟨_, rfl⟩
        obtain ⟨ov, hov⟩ : ∃ q, q = (N.take k).any O' := ⟨_, rfl⟩
        rw [← hav, ← hov]
        have HAV := hide hav
        have HOV := hide hov
        clear hav hov
        have F10 := F9.keep hbz
        have f0 := F10.cell 0
        have f2 := F10.cell 2
        simp only [List.getElem?_toArray, List.getElem?_cons_zero, List.getElem?_cons_succ] at f0 f2
        have q0 := (hbz.cell HBB.out.1).trans q0
        have x0 := (hbz.cell HBB.out.2.1).trans x0
        by_cases hkl : k < n3
        · obtain ⟨b6, o6, y, eA, hbb6, hy, hc6⟩ := ((t9.on hbw).on hbz).get hkl
          subst eA
          have y0 := hc6 0 _ rfl
          have y1 := hc6 1 _ rfl
          have y2 := hc6 2 _ rfl
          simp only [eNo, Nat.add_zero] at y0 y1 y2
          have HSA := hide (any_snoc (f := A') hy)
          have HSO := hide (any_snoc (f := O') hy)
          have HYA := hide (show A' y = (decide (y.slot = s) && (decide (y.how = 2) || decide (y.b = yb))) from HAF.out y)
          have HYO := hide (show O' y = (decide (y.slot = s) && (decide (y.how = 1) && decide (y.b ≠ yb))) from HOF.out y)
          obtain ⟨ys, yh, yv, yw⟩ := y
          simp only at y0 y1 y2 HYA HYO
          clear hc6 hy hbb6
          by_cases hys : ys = (s : Int)
          · subst hys
            go_upto_region 29 with fail
            go_quiet (fail)
            rcases av with _ | _ <;> rcases ov with _ | _
            · by_cases h2 : yh = 2
              · subst h2
                have HN1 := hide (show (N.take (k + 1)).any A' = true by rw [HSA.out, HYA.out, ← HAV.out]; simp)
                have HN2 := hide (show (N.take (k + 1)).any O' = false by rw [HSO.out, HYO.out, ← HOV.out]; simp)
                go_upto_region 30 with fail
                go_quiet (fail)
                go_upto_region 31 with fail
                go_quiet (fail)
                go_wp2
                go_roundw
                case rel => exact ⟨k + 1, by omega, by go_num, by rw [HN1.out], by rw [HN2.out], below_drewN hbz _⟩
                case measure => simp [intOf] <;> omega
              · have hd2 : (yh == 2) = false := by simpa using h2
                by_cases h1 : yh = 1
                · subst h1
                  have HN1 := hide (show (N.take (k + 1)).any A' = (yv == yb) by rw [HSA.out, HYA.out, ← HAV.out]; by_cases hq : yv = yb <;> simp [hq])
                  have HN2 := hide (show (N.take (k + 1)).any O' = (yv != yb) by rw [HSO.out, HYO.out, ← HOV.out]; by_cases hq : yv = yb <;> simp [hq])
                  go_upto_region 30 with fail
                  go_quiet (fail)
                  go_upto_region 31 with fail
                  go_quiet (fail)
                  go_wp2
                  go_roundw
                  case rel => exact ⟨k + 1, by omega, by go_num, by rw [HN1.out], by rw [HN2.out], below_drewN hbz _⟩
                  case measure => simp [intOf] <;> omega
                · have hd1 : (yh == 1) = false := by simpa using h1
                  have HN1 := hide (show (N.take (k + 1)).any A' = (yv == yb) by rw [HSA.out, HYA.out, ← HAV.out]; by_cases hq : yv = yb <;> simp [hq, h2])
                  have HN2 := hide (show (N.take (k + 1)).any O' = false by rw [HSO.out, HYO.out, ← HOV.out]; simp [h1])
                  go_upto_region 30 with fail
                  go_quiet (fail)
                  go_upto_region 31 with fail
                  go_quiet (fail)
                  go_wp2
                  go_roundw
                  case rel => exact ⟨k + 1, by omega, by go_num, by rw [HN1.out], by rw [HN2.out], below_drewN hbz _⟩
                  case measure => simp [intOf] <;> omega
            · by_cases h2 : yh = 2
              · subst h2
                have HN1 := hide (show (N.take (k + 1)).any A' = true by rw [HSA.out, HYA.out, ← HAV.out]; simp)
                have HN2 := hide (show (N.take (k + 1)).any O' = true by rw [HSO.out, HYO.out, ← HOV.out]; simp)
                go_upto_region 30 with fail
                go_quiet (fail)
                go_upto_region 31 with fail
                go_quiet (fail)
                go_wp2
                go_roundw
                case rel => exact ⟨k + 1, by omega, by go_num, by rw [HN1.out], by rw [HN2.out], below_drewN hbz _⟩
                case measure => simp [intOf] <;> omega
              · have hd2 : (yh == 2) = false := by simpa using h2
                have HN1 := hide (show (N.take (k + 1)).any A' = (yv == yb) by rw [HSA.out, HYA.out, ← HAV.out]; by_cases hq : yv = yb <;> simp [hq, h2])
                have HN2 := hide (show (N.take (k + 1)).any O' = true by rw [HSO.out, HYO.out, ← HOV.out]; simp)
                go_upto_region 30 with fail
                go_quiet (fail)
                go_upto_region 31 with fail
                go_quiet (fail)
                go_wp2
                go_roundw
                case rel => exact ⟨k + 1, by omega, by go_num, by rw [HN1.out], by rw [HN2.out], below_drewN hbz _⟩
                case measure => simp [intOf] <;> omega
            · by_cases h1 : yh = 1
              · subst h1
                have HN1 := hide (show (N.take (k + 1)).any A' = true by rw [HSA.out, HYA.out, ← HAV.out]; simp)
                have HN2 := hide (show (N.take (k + 1)).any O' = (yv != yb) by rw [HSO.out, HYO.out, ← HOV.out]; by_cases hq : yv = yb <;> simp [hq])
                go_upto_region 30 with fail
                go_quiet (fail)
                go_upto_region 31 with fail
                go_quiet (fail)
                go_wp2
                go_roundw
                case rel => exact ⟨k + 1, by omega, by go_num, by rw [HN1.out], by rw [HN2.out], below_drewN hbz _⟩
                case measure => simp [intOf] <;> omega
              · have hd1 : (yh == 1) = false := by simpa using h1
                have HN1 := hide (show (N.take (k + 1)).any A' = true by rw [HSA.out, HYA.out, ← HAV.out]; simp)
                have HN2 := hide (show (N.take (k + 1)).any O' = false by rw [HSO.out, HYO.out, ← HOV.out]; simp [h1])
                go_upto_region 30 with fail
                go_quiet (fail)
                go_upto_region 31 with fail
                go_quiet (fail)
                go_wp2
                go_roundw
                case rel => exact ⟨k + 1, by omega, by go_num, by rw [HN1.out], by rw [HN2.out], below_drewN hbz _⟩
                case measure => simp [intOf] <;> omega
            · skip
              have HN1 := hide (show (N.take (k + 1)).any A' = true by rw [HSA.out, HYA.out, ← HAV.out]; simp)
              have HN2 := hide (show (N.take (k + 1)).any O' = true by rw [HSO.out, HYO.out, ← HOV.out]; simp)
              go_upto_region 30 with fail
              go_quiet (fail)
              go_upto_region 31 with fail
              go_quiet (fail)
              go_wp2
              go_roundw
              case rel => exact ⟨k + 1, by omega, by go_num, by rw [HN1.out], by rw [HN2.out], below_drewN hbz _⟩
              case measure => simp [intOf] <;> omega
          · have hd : (ys == (s : Int)) = false := by simpa using hys
            have HN1 := hide (show (N.take (k + 1)).any A' = av by rw [HSA.out, HYA.out, ← HAV.out, decide_eq_false hys]; simp)
            have HN2 := hide (show (N.take (k + 1)).any O' = ov by rw [HSO.out, HYO.out, ← HOV.out, decide_eq_false hys]; simp)
            go_upto_region 29 with fail
            go_quiet (fail)
            go_wp2
            go_roundw
            case rel => exact ⟨k + 1, by omega, by go_num, by rw [HN1.out], by rw [HN2.out], below_drewN hbz _⟩
            case measure => simp [intOf] <;> omega
        · have hall : N.take k = N := List.take_of_length_le (by have := t9.len; omega)
          have HKA := hide (show K.getD s false = av by rw [HKS.out, HAV.out, hall])
          have HOA := hide (show ov = N.any O' by rw [HOV.out, hall])
          have u0 := (hbz.cell HBB.out.2.2.1).trans u0
          have v0 := (hbz.cell HBB.out.2.2.2).trans v0
          obtain ⟨e, he⟩ : ∃ e, (u != v) = e := ⟨_, rfl⟩
          have HUV := hide (show v = (if e = true then !u else u) by rw [← he]; cases u <;> cases v <;> rfl)
          have HE := hide (show e = true → ov = true from fun h1 => by
            cases hov : ov with
            | true => rfl
            | false =>
              have h2 := HLAW.out (by rw [← HOA.out, hov])
              rw [h2] at he; rw [← he] at h1; simp at h1)
          have HBZ := hide (below_on hbw hbz)
          clear hall q0 x0 he
          rcases av with _ | _ <;> rcases e with _ | _
          · have HC := hide (knownN_no HS.out HKA.out)
            go_upto_region 34 with fail
            obtain rfl := HUV.out
            try simp only [Bool.false_eq_true, if_false, if_true] at v0
            go_quiet (fail)
            go_wp2
            go_roundw
            case rel => exact ⟨i + 1, by omega, by go_num, by rw [HC.out, HCN.out], below_drewN HBZ.out _⟩
            case measure => simp [intOf] <;> omega
          · obtain rfl := HE.out rfl
            have HC := hide (knownN_no HS.out HKA.out)
            go_upto_region 34 with fail
            obtain rfl := HUV.out
            try simp only [Bool.false_eq_true, if_false, if_true] at v0
            go_quiet (fail)
            go_wp2
            go_roundw
            case rel => exact ⟨i + 1, by omega, by go_num, by rw [HC.out, HCN.out], below_drewN HBZ.out _⟩
            case measure => simp [intOf] <;> omega
          · have HC := hide (knownN_yes HS.out HKA.out)
            go_upto_region 34 with fail
            obtain rfl := HUV.out
            try simp only [Bool.false_eq_true, if_false, if_true] at v0
            go_quiet (fail)
            go_wp2
            go_roundw
            case rel => exact ⟨i + 1, by omega, by go_num, by rw [HC.out, HCN.out]; go_num, below_drewN HBZ.out _⟩
            case measure => simp [intOf] <;> omega
          · obtain rfl := HE.out rfl
            have HC := hide (knownN_yes HS.out HKA.out)
            go_upto_region 34 with fail
            obtain rfl := HUV.out
            try simp only [Bool.false_eq_true, if_false, if_true] at v0
            go_quiet (fail)
            go_wp2
            go_roundw
            case rel => exact ⟨i + 1, by omega, by go_num, by rw [HC.out, HCN.out]; go_num, below_drewN HBZ.out _⟩
            case measure => simp [intOf] <;> omega
    · obtain rfl : cn = kn := by rw [HCN.out, HKNQ.out, List.take_of_length_le (by have := rQ9.len; omega)]
      go_wp2_with (go_at_call 21; refine (works04_c _).mono ?_; rintro e w11 ⟨rfl, hb11⟩)
      go_ret
      exact ⟨rfl, below_on hb09 (below_on hbw hb11)⟩
end Go.Proofs.Ytchhkokpjdkkiaa
