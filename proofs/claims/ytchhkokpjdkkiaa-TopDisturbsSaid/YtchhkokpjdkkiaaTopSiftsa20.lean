/- Contract of sift's Known at slots that rise (the Top seat). What a light's run is (the Top seat): the plain lists, and the contract of optics.Run at a law's arrangement and rules. -/
import Derived.Test.YtchhkokpjdkkiaaTopSiftsa15
import Derived.Test.YtchhkokpjdkkiaaTopSiftsa19
import Derived.Test.YtchhkokpjdkkiaaTopSiftsa17
namespace Go.Proofs.Ytchhkokpjdkkiaa
open Go.RowKit

def knownN (K : List Bool) (S : List Nat) : Nat := (S.filter fun i => K.getD i false).length
theorem knownN_le (K : List Bool) (S : List Nat) : knownN K S ≤ S.length := List.length_filter_le _ _
theorem knownN_yes {K : List Bool} {S : List Nat} {q i : Nat} (hi : S[q]? = some i) (h : K.getD i false = true) : knownN K (S.take (q + 1)) = knownN K (S.take q) + 1 := by
  unfold knownN; rw [List.take_add_one, hi, List.filter_append, List.length_append]; simp at h ⊢; simp [h]
theorem knownN_no {K : List Bool} {S : List Nat} {q i : Nat} (hi : S[q]? = some i) (h : K.getD i false = false) : knownN K (S.take (q + 1)) = knownN K (S.take q) := by
  unfold knownN; rw [List.take_add_one, hi, List.filter_append, List.length_append]; simp at h ⊢; simp [h]
theorem idx_pair (K : List Bool) (m : Nat) : (idx K m).Pairwise (· < ·) := by
  unfold idx; exact List.pairwise_lt_range.filter _
/-- The first place of the list whose element is not below i shows whether i is in it. -/
theorem idx_at {K : List Bool} {m k i : Nat} (hi : i < m) (hb : ∀ (j x : Nat), j < k → (idx K m)[j]? = some x → x < i) (hk : ∀ x, (idx K m)[k]? = some x → i ≤ x) : K.getD i false = true ↔ (idx K m)[k]? = some i := by
  constructor
  · intro h
    have hm : i ∈ idx K m := by unfold idx; rw [List.mem_filter, List.mem_range]; exact ⟨hi, h⟩
    obtain ⟨j, hj⟩ := List.getElem?_of_mem hm
    have h1 : ¬ j < k := fun hlt => by have := hb j i hlt hj; omega
    by_cases h2 : j = k
    · rw [← h2]; exact hj
    · exfalso
      have hjl := (List.getElem?_eq_some_iff.1 hj).1
      have hkl : k < (idx K m).length := by omega
      have h3 := (List.pairwise_iff_getElem.1 (idx_pair K m)) k j hkl hjl (by omega)
      have h4 := hk _ (List.getElem?_eq_getElem hkl)
      have h5 := (List.getElem?_eq_some_iff.1 hj).2
      omega
  · intro h
    have := List.mem_of_getElem? h
    unfold idx at this; rw [List.mem_filter] at this; exact this.2
set_option maxRecDepth 100000 in
set_option maxHeartbeats 6400000 in
theorem known_c (A : Option Addr) (n c : Nat) (P : List Pu) (A2 : Option Addr) (n2 c2 : Nat) (N : List No) (A' : Option Addr) (m c' : Nat) (S : List Nat) (w : World) (p : Rd ePu w w.heap.size A n c P) (t : Rd eNo w w.heap.size A2 n2 c2 N) (q : Rd eNat w w.heap.size A' m c' S)
    (hP : pulsesErr P = 0) (hN : knowsErr P N = 0) (hS : Rising S 0 ((n : Int) - 1)) (hn : n ≤ 4096) (hm : m ≤ 4096) :
    Calls Try.prog 22 #[.slice A n c, .slice A2 n2 c2, .slice A' m c'] w fun e w' => e = .returned (.tuple #[.int .i64 (knownN (marks P N) S : Nat), .int .i64 0]) ∧ Below w.heap.size w w' := by
  have hpc := p.cap
  have hpm := p.max
  have hqc := q.cap
  have hqm := q.max
  have HPL := hide p.len
  have HQL := hide q.len
  have hck := checkPulses_c A n c P w p
  rw [hP] at hck
  have HCK := hide hck
  have HCS := hide (fun W (h : Below w.heap.size w W) => checkSlots_c A' m c' S 0 ((n : Int) - 1) W (q.on h) hS)
  have HKN := hide (fun W (h : Below w.heap.size w W) => (knows_c A n c P A2 n2 c2 N W (p.on h) (t.on h)).mono fun e W' (g : SKnows P N W e W') => (by
    obtain ⟨A1, n1, c1, he, hr, hb⟩ := g
    rw [hN] at he
    exact ⟨A1, n1, c1, he, by unfold knowsL at hr; rw [if_pos hN, p.len] at hr; exact hr, hb⟩ : ∃ A1 n1 c1, e = .returned (.tuple #[.slice A1 n1 c1, .int .i64 0]) ∧ Rd eNat W' W'.heap.size A1 n1 c1 (idx (marks P N) n) ∧ Below W.heap.size W W'))
  have HS := hide hS
  obtain ⟨K, hK⟩ : ∃ K, K = marks P N := ⟨_, rfl⟩
  rw [← hK] at HKN ⊢
  have hsub : IntKind.i64.wrap ((n : Int) - 1) = (n : Int) - 1 := by simp only [IntKind.wrap, IntKind.bits, IntKind.signed]; simp; omega
  clear hck hP hS hN hK
  go_enter Try.func22, Try.ntmps22
  go_upto_region 4 with (go_at_call 44; refine HCK.out.mono ?_; rintro e w1 ⟨rfl, hb1⟩)
  go_upto_region 7 with (go_at_call 46; refine (HCS.out w1 hb1).mono ?_; rintro e w2 ⟨rfl, hq⟩; rw [hq]; clear hq)
  go_upto_region 10 with (go_at_call 52; refine (HKN.out w1 hb1).mono ?_; rintro e w3 ⟨A1, n1, c1, rfl, r1, hb3⟩)
  have hb13 := below_on hb1 hb3
  have hlc := r1.cap
  have hlm := r1.max
  have HLL := hide r1.len
  have hln : n1 ≤ n := by have := HLL.out; have := idx_len K n; omega
  clear hsub HCK HCS HKN hb1 hb3
  go_wp2
  go_loopw [40, 12, 13] (fun iv cv kv wr => ∃ (i k : Nat), i ≤ m ∧ k ≤ n1 ∧ iv = .int .i64 i ∧ cv = .int .i64 (knownN K (S.take i) : Nat) ∧ kv = .int .i64 k ∧ (∀ (j x y : Nat), j < k → (idx K n)[j]? = some x → S[i]? = some y → x < y) ∧ wr = w3) (fun iv _ _ _ => m - (intOf iv).toNat)
  case atStart => exact ⟨0, 0, by omega, by omega, rfl, rfl, rfl, fun j x y h => by omega, rfl⟩
  case round =>
    obtain ⟨i, k, hi, hk, rfl, rfl, rfl, hbel, hwr⟩ := hrel
    rw [hwr]
    clear hwr
    have hcn := knownN_le K (S.take i)
    rw [List.length_take] at hcn
    obtain ⟨cn, hcn'⟩ : ∃ q, q = knownN K (S.take i) := ⟨_, rfl⟩
    rw [← hcn'] at hcn ⊢
    have HCN := hide hcn'
    have HBEL := hide hbel
    clear hcn' hbel
    by_cases hlt : i < m
    · obtain ⟨b1, f1, s, rfl, hbb1, hs, hc1⟩ := (q.on hb13).get hlt
      have x0 := hc1 0 _ rfl
      simp only [eNat, Nat.add_zero, Nat.mul_one] at x0
      have HX := hide hs
      have hsn : s < n := by have := (HS.out.1 i s hs).2; omega
      clear hc1 hs hbb1
      go_upto_region 14 with fail
      go_loopw [13] (fun kv wr => ∃ (k : Nat), k ≤ n1 ∧ kv = .int .i64 k ∧ (∀ (j x : Nat), j < k → (idx K n)[j]? = some x → x < s) ∧ wr = w3) (fun kv _ => n1 - (intOf kv).toNat)
      case atStart => exact ⟨k, hk, rfl, fun j x h1 h2 => HBEL.out j x s h1 h2 HX.out, rfl⟩
      case round =>
        obtain ⟨k, hk, rfl, hbel, hwr⟩ := hrel
        rw [hwr]
        clear hwr
        have HBE := hide hbel
        clear hbel
        by_cases hkl : k < n1
        · obtain ⟨b2, f2, x, rfl, hbb2, hx, hc2⟩ := r1.get hkl
          have z0 := hc2 0 _ rfl
          simp only [eNat, Nat.add_zero, Nat.mul_one] at z0
          have HZ := hide hx
          clear hc2 hx hbb2
          by_cases hxs : x < s
          · go_wp2
            go_roundw
            case rel => exact ⟨k + 1, by omega, by go_num, fun j y h1 h2 => (by
                by_cases e : j = k
                · subst e
                  have h3 := HZ.out
                  rw [h2] at h3
                  have := Option.some.inj h3
                  omega
                · exact HBE.out j y (by omega) h2), trivial⟩
            case measure => simp [intOf] <;> omega
          · have hxs' : ¬ ((x : Int) < (s : Int)) := by omega
            by_cases he : x = s
            · subst he
              have HY := hide (knownN_yes (K := K) HX.out ((idx_at hsn HBE.out (fun y hy => by have h3 := HZ.out; rw [hy] at h3; have := Option.some.inj h3; omega)).2 HZ.out))
              have HNX := hide (show ∀ (j u y : Nat), j < k → (idx K n)[j]? = some u → S[i + 1]? = some y → u < y from fun j u y h1 h2 h3 => Nat.lt_trans (HBE.out j u h1 h2) (HS.out.2 i x y HX.out h3))
              go_wp2
              go_roundw
              case rel => exact ⟨i + 1, k, by omega, by omega, by go_num, by rw [HY.out, HCN.out]; go_num, rfl, HNX.out, trivial⟩
              case measure => simp [intOf] <;> omega
            · have hne : ((x : Int) == (s : Int)) = false := by simp; omega
              have HNO := hide (knownN_no (K := K) HX.out (by
                have h := idx_at (K := K) hsn HBE.out (fun y hy => by have h3 := HZ.out; rw [hy] at h3; have := Option.some.inj h3; omega)
                cases hg : K.getD s false with
                | false => rfl
                | true => exfalso; have h4 := h.1 hg; rw [HZ.out] at h4; exact he (Option.some.inj h4)))
              have HNX := hide (show ∀ (j u y : Nat), j < k → (idx K n)[j]? = some u → S[i + 1]? = some y → u < y from fun j u y h1 h2 h3 => Nat.lt_trans (HBE.out j u h1 h2) (HS.out.2 i s y HX.out h3))
              go_wp2
              go_roundw
              case rel => exact ⟨i + 1, k, by omega, by omega, by go_num, by rw [HNO.out, HCN.out], rfl, HNX.out, trivial⟩
              case measure => simp [intOf] <;> omega
        · have HNONE := hide (show (idx K n)[k]? = none from List.getElem?_eq_none (by have := HLL.out; omega))
          have HNO := hide (knownN_no (K := K) HX.out (by
            have h := idx_at (K := K) hsn HBE.out (fun y hy => by rw [HNONE.out] at hy; cases hy)
            cases hg : K.getD s false with
            | false => rfl
            | true => exfalso; have h4 := h.1 hg; rw [HNONE.out] at h4; cases h4))
          have HNX := hide (show ∀ (j u y : Nat), j < k → (idx K n)[j]? = some u → S[i + 1]? = some y → u < y from fun j u y h1 h2 h3 => Nat.lt_trans (HBE.out j u h1 h2) (HS.out.2 i s y HX.out h3))
          go_wp2
          go_roundw
          case rel => exact ⟨i + 1, k, by omega, by omega, by go_num, by rw [HNO.out, HCN.out], rfl, HNX.out, trivial⟩
          case measure => simp [intOf] <;> omega
    · obtain rfl : i = m := by omega
      have HR := hide (show cn = knownN K S by rw [HCN.out, List.take_of_length_le (by have := HQL.out; omega)])
      go_wp2
      go_ret2
      exact ⟨by rw [HR.out]; rfl, hb13⟩
end Go.Proofs.Ytchhkokpjdkkiaa

namespace Go.Proofs.Ytchhkokpjdkkiaa
open Go.RowKit

def tSh (x : Lgt) : Nat := x.sf % 17
def tP (x : Lgt) : List Pu := (emiF (arrOf x) x.a x.sl).1
def tX (x : Lgt) (L : List Ru) : List Li := (carrF L (tP x) x.b x.sl).1
def tN (x : Lgt) (L : List Ru) : List No := (carrF L (tP x) x.b x.sl).2.1
def tC (x : Lgt) (L : List Ru) : List Ck := (dets (arrOf x 16) (arrOf x 17) (tSh x) (tX x L) x.c x.sl).1
section
variable {x : Lgt} {K : List Int} {S : List Spn}
theorem tSh_le (x : Lgt) : tSh x ≤ 16 := by unfold tSh; omega
theorem tP_len (x : Lgt) : (tP x).length = x.sl := emiF_len _ _ _
theorem tP_ok (x : Lgt) : (tP x).all okPu = true := emiF_ok _ _ _
theorem sl_le (x : Lgt) : x.sl < 256 := x.ok.2.2.2.2.1
theorem tP_err (x : Lgt) : pulsesErr (tP x) = 0 := by
  have := sl_le x
  unfold pulsesErr; rw [if_neg (by rw [tP_len]; omega), if_pos (tP_ok x)]
theorem tC_len (x : Lgt) (L : List Ru) : (tC x L).length = x.sl := dets_len _ _ _ _ _ _
theorem tC_ok (x : Lgt) (L : List Ru) : (tC x L).all okCk = true := dets_ok _ _ _ _ _ _
theorem tC_err (x : Lgt) (L : List Ru) : clicksErr (tC x L) = 0 := by
  have := sl_le x
  unfold clicksErr; rw [if_neg (by rw [tC_len]; omega), if_pos (tC_ok x L)]
theorem tX_len (x : Lgt) (L : List Ru) : (tX x L).length = x.sl := carrF_len _ _ _ _ (by rw [tP_len]; omega)
theorem tN_ok (hK : OkS K) : (tN x (spL K (tSh x) S)).all (fun y => okNo y && inNo x.sl y) = true := by
  have hL := (spL_ok hK (tSh x) (tSh_le x) S).1
  exact carrF_okNo (rulesErr_zero hL).2 (tP_ok x) x.b x.sl (by rw [tP_len]; omega)
theorem tN_slot (hK : OkS K) {y : No} (h : y ∈ tN x (spL K (tSh x) S)) : ∃ q : Nat, y.slot = q ∧ q < x.sl := by
  have := List.all_eq_true.1 (tN_ok hK) y h
  simp only [Bool.and_eq_true, inNo, decide_eq_true_eq] at this
  exact ⟨y.slot.toNat, by omega, by omega⟩
theorem tRun_err (hK : OkS K) : runErr (arrOf x) (spL K (tSh x) S) (x.sl : Int) = 0 := run_ok_err (arr_ok x) (spL_ok hK (tSh x) (tSh_le x) S).1 (by have := sl_le x; omega)
theorem tRun_P (hK : OkS K) : runP (arrOf x) (spL K (tSh x) S) (x.sl : Int) x.a = tP x := runP_ok (arr_ok x) (spL_ok hK (tSh x) (tSh_le x) S).1 (by have := sl_le x; omega)
theorem tRun_N (hK : OkS K) : runN (arrOf x) (spL K (tSh x) S) (x.sl : Int) x.a x.b = tN x (spL K (tSh x) S) := runN_ok (arr_ok x) (spL_ok hK (tSh x) (tSh_le x) S).1 (by have := sl_le x; omega)
theorem tRun_S (hK : OkS K) : runSh (arrOf x) (spL K (tSh x) S) (x.sl : Int) = (tSh x : Int) := by
  unfold runSh; rw [if_pos (tRun_err hK), (spL_ok hK (tSh x) (tSh_le x) S).2]
theorem tRun_C (hK : OkS K) : runC (arrOf x) (spL K (tSh x) S) (x.sl : Int) x.a x.b x.c = tC x (spL K (tSh x) S) := by
  obtain ⟨hL, hs⟩ := spL_ok hK (tSh x) (tSh_le x) S
  have hn : x.sl ≤ 4096 := by have := sl_le x; omega
  have hX : carryX (spL K (tSh x) S) (emitL (arrOf x) x.sl x.a) x.b = tX x (spL K (tSh x) S) := by
    rw [emitL_ok (arr_ok x) hn]; unfold carryX; rw [if_pos (carryErr_ok hL hn), emiF_len]; rfl
  have hl := tX_len x (spL K (tSh x) S)
  have h16 := tSh_le x
  unfold runC; rw [if_pos (tRun_err hK), hX, hs]; unfold detL
  rw [if_pos (by rw [detErr_all (arr_ok x) (by omega) (by omega), if_pos (show (tX x (spL K (tSh x) S)).all okLi = true from carrF_okLi (rulesErr_zero hL).2 (tP_ok x) x.b x.sl (by rw [tP_len]; omega))]), hl]
  rfl
end
theorem toprun_c (x : Lgt) (K : List Int) (hK : OkS K) (S : List Spn) (A : Option Addr) (k c0 : Nat) (w : World) (r : Rd eRu w w.heap.size A k c0 (spL K (tSh x) S)) :
    Calls Try.prog 15 #[.agg (cells18 (arrOf x)), .slice A k c0, .int .i64 (x.sl : Int), .agg #[.int .u64 (x.a : Int), .int .u64 (x.b : Int), .int .u64 (x.c : Int)]] w fun e w' =>
      ∃ A1 c1 A2 c2 A3 n3 c3, e = .returned (.tuple #[.agg #[.slice A1 x.sl c1, .slice A2 x.sl c2, .slice A3 n3 c3, .int .i64 (tSh x : Int)], .int .i64 0]) ∧
        Rd ePu w' w'.heap.size A1 x.sl c1 (tP x) ∧ Rd eCk w' w'.heap.size A2 x.sl c2 (tC x (spL K (tSh x) S)) ∧ Rd eNo w' w'.heap.size A3 n3 c3 (tN x (spL K (tSh x) S)) ∧ Below w.heap.size w w' :=
  (run_c (arrOf x) A k c0 (spL K (tSh x) S) x.sl x.a x.b x.c w r).mono fun e w' h => by
    obtain ⟨A1, n1, c1, A2, n2, c2, A3, n3, c3, he, r1, r2, r3, hb⟩ := h
    rw [tRun_err hK, tRun_S hK] at he
    rw [tRun_P hK] at r1
    rw [tRun_C hK] at r2
    rw [tRun_N hK] at r3
    obtain rfl : x.sl = n1 := by rw [← r1.len, tP_len]
    obtain rfl : x.sl = n2 := by rw [← r2.len, tC_len]
    exact ⟨A1, c1, A2, c2, A3, n3, c3, he, r1, r2, r3, hb⟩
end Go.Proofs.Ytchhkokpjdkkiaa
