/- The walk of the law ExactLaws (its blocks printed by wip/genlaws.py). -/
import Derived.Test.YtgilhkdmgbeieaaNb
import Derived.Test.YtgilhkdmgbeieaaWo
namespace Go.Proofs.Ytgilhkdmgbeieaa
open Go.RowKit

theorem NN.zero {w : World} {A : Option Addr} {n c N : Nat} (h : NN w A n c N) (h0 : N = 0) : n = 0 := by
  obtain ⟨l, s, t⟩ := h
  rw [← s.len]
  exact (t.zero_iff (by omega)).2 h0
theorem fits_e {x e : Nat} (h : x ≤ 2 ^ e) (he : e < 2048) : Fits x := lt_pow_of_le h rfl 64 (by omega)
theorem add_e {x y e f : Nat} (h : x ≤ 2 ^ e) (h' : y ≤ 2 ^ e) (hf : f = e + 1) : x + y ≤ 2 ^ f := by
  rw [hf, Nat.pow_succ]; omega
theorem mul_e {x y e f g : Nat} (h : x ≤ 2 ^ e) (h' : y ≤ 2 ^ f) (hg : g = e + f) : x * y ≤ 2 ^ g := by
  rw [hg, Nat.pow_add]; exact Nat.mul_le_mul h h'
theorem le_e {x e f : Nat} (h : x ≤ 2 ^ e) (he : e ≤ f) : x ≤ 2 ^ f := Nat.le_trans h (Nat.pow_le_pow_right (by omega) he)
theorem laws_fitE {a b c e : Nat} (ha : a ≤ 2 ^ e) (hb : b ≤ 2 ^ e) (hc : c ≤ 2 ^ e) (he : 3 * e + 4 < 2048) :
    Fits a ∧ Fits b ∧ Fits c ∧ Fits (a + b) ∧ Fits (b + a) ∧ Fits (a + b + c) ∧ Fits (b + c) ∧ Fits (a + (b + c)) ∧ Fits (a * b) ∧ Fits (b * a) ∧ Fits (a * b * c) ∧ Fits (b * c) ∧ Fits (a * (b * c)) ∧ Fits (a * (b + c)) ∧ Fits (a * b + a * c) ∧ Fits (a * c) := by
  have h1 : a + b ≤ 2 ^ (e + 1) := add_e ha hb rfl
  have h2 : b + c ≤ 2 ^ (e + 1) := add_e hb hc rfl
  have m1 : a * b ≤ 2 ^ (e + e) := mul_e ha hb rfl
  have m2 : b * c ≤ 2 ^ (e + e) := mul_e hb hc rfl
  have m3 : a * c ≤ 2 ^ (e + e) := mul_e ha hc rfl
  exact ⟨fits_e ha (by omega), fits_e hb (by omega), fits_e hc (by omega), fits_e h1 (by omega), fits_e (add_e hb ha rfl) (by omega), fits_e (add_e h1 (le_e hc (by omega)) rfl) (by omega), fits_e h2 (by omega),
    fits_e (add_e (le_e ha (by omega)) h2 rfl) (by omega), fits_e m1 (by omega), fits_e (mul_e hb ha rfl) (by omega), fits_e (mul_e m1 hc rfl) (by omega), fits_e m2 (by omega), fits_e (mul_e ha m2 rfl) (by omega), fits_e (mul_e ha h2 rfl) (by omega),
    fits_e (add_e m1 m3 rfl) (by omega), fits_e m3 (by omega)⟩
theorem lt16 {a e : Nat} (h : a < 4294967296 ^ 16) (he : 32 * 16 = e) : a ≤ 2 ^ e := by
  rw [show (4294967296 : Nat) = 2 ^ 32 from rfl, ← Nat.pow_mul, he] at h
  exact Nat.le_of_lt h
theorem laws_fit {a b c : Nat} (ha : a < 4294967296 ^ 16) (hb : b < 4294967296 ^ 16) (hc : c < 4294967296 ^ 16) :
    Fits a ∧ Fits b ∧ Fits c ∧ Fits (a + b) ∧ Fits (b + a) ∧ Fits (a + b + c) ∧ Fits (b + c) ∧ Fits (a + (b + c)) ∧ Fits (a * b) ∧ Fits (b * a) ∧ Fits (a * b * c) ∧ Fits (b * c) ∧ Fits (a * (b * c)) ∧ Fits (a * (b + c)) ∧ Fits (a * b + a * c) ∧ Fits (a * c) := by
  obtain ⟨e, he⟩ : ∃ e : Nat, 32 * 16 = e := ⟨_, rfl⟩
  exact laws_fitE (lt16 ha he) (lt16 hb he) (lt16 hc he) (by omega)

set_option maxRecDepth 100000 in
set_option maxHeartbeats 6400000 in
theorem laws_w (w : World) (A0 : Option Addr) (m0 k0 : Nat) (l0 : List Nat) (sa : Sl w w.heap.size .u32 A0 m0 k0 l0) (da : Digs 4294967296 l0) (A1 : Option Addr) (m1 k1 : Nat) (l1 : List Nat) (sb : Sl w w.heap.size .u32 A1 m1 k1 l1) (db : Digs 4294967296 l1)
    (A2 : Option Addr) (m2 k2 : Nat) (l2 : List Nat) (sc : Sl w w.heap.size .u32 A2 m2 k2 l2) (dc : Digs 4294967296 l2) :
    Calls Try.prog 13 #[.slice A0 m0 k0, .slice A1 m1 k1, .slice A2 m2 k2] w fun e w' => e = .returned (.bool true) ∧ Below w.heap.size w w' := by
  have hw := Below.refl w.heap.size w
  go_enter Try.func13, Try.ntmps13
  go_wp2_with fail
  refine (lshort_c _ _ _ 16 _ _ sa da (by omega)).mono ?_
  rintro e w1 ⟨Aa, na, ca, a, rfl, Ha, hb⟩
  replace hw := hw.trans (hb.mono hw.size)
  clear hb
  go_wp2_with fail
  refine (lshort_c _ _ _ 16 _ _ (sb.below hw |>.mono hw.size) db (by omega)).mono ?_
  rintro e w2 ⟨Ab, nb, cb, b, rfl, Hb, hb⟩
  replace Ha := Ha.below hb
  replace hw := hw.trans (hb.mono hw.size)
  clear hb
  go_wp2_with fail
  refine (lshort_c _ _ _ 16 _ _ (sc.below hw |>.mono hw.size) dc (by omega)).mono ?_
  rintro e w3 ⟨Ac, nc, cc, c, rfl, Hc, hb⟩
  replace Ha := Ha.below hb
  replace Hb := Hb.below hb
  replace hw := hw.trans (hb.mono hw.size)
  clear hb
  obtain ⟨Fa, Fb, Fc, F1, F2, F3, F4, F5, M1, M2, M3, M4, M5, M6, M7, M8⟩ := laws_fit Ha.lt Hb.lt Hc.lt
  replace Ha := Ha.le (show 16 ≤ 64 by omega)
  replace Hb := Hb.le (show 16 ≤ 64 by omega)
  replace Hc := Hc.le (show 16 ≤ 64 by omega)
  go_wp2_with fail
  refine (add_n Ha Hb (by assumption)).mono ?_
  rintro e w4 ⟨Ap, np, cp, rfl, Hp, hb⟩
  replace Ha := Ha.below hb
  replace Hb := Hb.below hb
  replace Hc := Hc.below hb
  replace hw := hw.trans (hb.mono hw.size)
  clear hb
  go_wp2_with fail
  refine (add_n Hb Ha (by assumption)).mono ?_
  rintro e w5 ⟨Aq, nq, cq, rfl, Hq, hb⟩
  replace Ha := Ha.below hb
  replace Hb := Hb.below hb
  replace Hc := Hc.below hb
  replace Hp := Hp.below hb
  replace hw := hw.trans (hb.mono hw.size)
  clear hb
  go_wp2_with fail
  refine (same_n Hp Hq (Nat.add_comm _ _)).mono ?_
  rintro e w6 ⟨rfl, hb⟩
  replace Ha := Ha.below hb
  replace Hb := Hb.below hb
  replace Hc := Hc.below hb
  replace Hp := Hp.below hb
  replace Hq := Hq.below hb
  replace hw := hw.trans (hb.mono hw.size)
  clear hb
  clear Hp
  clear Hq
  go_wp2_with fail
  refine (add_n Ha Hb (by assumption)).mono ?_
  rintro e w7 ⟨Ap, np, cp, rfl, Hp, hb⟩
  replace Ha := Ha.below hb
  replace Hb := Hb.below hb
  replace Hc := Hc.below hb
  replace hw := hw.trans (hb.mono hw.size)
  clear hb
  go_wp2_with fail
  refine (add_n (Hp.na (by assumption)) Hc (by assumption)).mono ?_
  rintro e w8 ⟨Aq, nq, cq, rfl, Hq, hb⟩
  replace Ha := Ha.below hb
  replace Hb := Hb.below hb
  replace Hc := Hc.below hb
  replace Hp := Hp.below hb
  replace hw := hw.trans (hb.mono hw.size)
  clear hb
  clear Hp
  go_wp2_with fail
  refine (add_n Hb Hc (by assumption)).mono ?_
  rintro e w9 ⟨Ar, nr, cr, rfl, Hr, hb⟩
  replace Ha := Ha.below hb
  replace Hb := Hb.below hb
  replace Hc := Hc.below hb
  replace Hq := Hq.below hb
  replace hw := hw.trans (hb.mono hw.size)
  clear hb
  go_wp2_with fail
  refine (add_n Ha (Hr.na (by assumption)) (by assumption)).mono ?_
  rintro e w10 ⟨As, ns, cs, rfl, Hs, hb⟩
  replace Ha := Ha.below hb
  replace Hb := Hb.below hb
  replace Hc := Hc.below hb
  replace Hq := Hq.below hb
  replace Hr := Hr.below hb
  replace hw := hw.trans (hb.mono hw.size)
  clear hb
  clear Hr
  go_wp2_with fail
  refine (same_n Hq Hs (Nat.add_assoc _ _ _)).mono ?_
  rintro e w11 ⟨rfl, hb⟩
  replace Ha := Ha.below hb
  replace Hb := Hb.below hb
  replace Hc := Hc.below hb
  replace Hq := Hq.below hb
  replace Hs := Hs.below hb
  replace hw := hw.trans (hb.mono hw.size)
  clear hb
  clear Hq
  clear Hs
  go_wp2_with fail
  refine (mul_n Ha Hb (by assumption)).mono ?_
  rintro e w12 ⟨Ap, np, cp, rfl, Hp, hb⟩
  replace Ha := Ha.below hb
  replace Hb := Hb.below hb
  replace Hc := Hc.below hb
  replace hw := hw.trans (hb.mono hw.size)
  clear hb
  go_wp2_with fail
  refine (mul_n Hb Ha (by assumption)).mono ?_
  rintro e w13 ⟨Aq, nq, cq, rfl, Hq, hb⟩
  replace Ha := Ha.below hb
  replace Hb := Hb.below hb
  replace Hc := Hc.below hb
  replace Hp := Hp.below hb
  replace hw := hw.trans (hb.mono hw.size)
  clear hb
  go_wp2_with fail
  refine (same_n Hp Hq (Nat.mul_comm _ _)).mono ?_
  rintro e w14 ⟨rfl, hb⟩
  replace Ha := Ha.below hb
  replace Hb := Hb.below hb
  replace Hc := Hc.below hb
  replace Hp := Hp.below hb
  replace Hq := Hq.below hb
  replace hw := hw.trans (hb.mono hw.size)
  clear hb
  clear Hp
  clear Hq
  go_wp2_with fail
  refine (mul_n Ha Hb (by assumption)).mono ?_
  rintro e w15 ⟨Ap, np, cp, rfl, Hp, hb⟩
  replace Ha := Ha.below hb
  replace Hb := Hb.below hb
  replace Hc := Hc.below hb
  replace hw := hw.trans (hb.mono hw.size)
  clear hb
  go_wp2_with fail
  refine (mul_n (Hp.na (by assumption)) Hc (by assumption)).mono ?_
  rintro e w16 ⟨Aq, nq, cq, rfl, Hq, hb⟩
  replace Ha := Ha.below hb
  replace Hb := Hb.below hb
  replace Hc := Hc.below hb
  replace Hp := Hp.below hb
  replace hw := hw.trans (hb.mono hw.size)
  clear hb
  clear Hp
  go_wp2_with fail
  refine (mul_n Hb Hc (by assumption)).mono ?_
  rintro e w17 ⟨Ar, nr, cr, rfl, Hr, hb⟩
  replace Ha := Ha.below hb
  replace Hb := Hb.below hb
  replace Hc := Hc.below hb
  replace Hq := Hq.below hb
  replace hw := hw.trans (hb.mono hw.size)
  clear hb
  go_wp2_with fail
  refine (mul_n Ha (Hr.na (by assumption)) (by assumption)).mono ?_
  rintro e w18 ⟨As, ns, cs, rfl, Hs, hb⟩
  replace Ha := Ha.below hb
  replace Hb := Hb.below hb
  replace Hc := Hc.below hb
  replace Hq := Hq.below hb
  replace Hr := Hr.below hb
  replace hw := hw.trans (hb.mono hw.size)
  clear hb
  clear Hr
  go_wp2_with fail
  refine (same_n Hq Hs (Nat.mul_assoc _ _ _)).mono ?_
  rintro e w19 ⟨rfl, hb⟩
  replace Ha := Ha.below hb
  replace Hb := Hb.below hb
  replace Hc := Hc.below hb
  replace Hq := Hq.below hb
  replace Hs := Hs.below hb
  replace hw := hw.trans (hb.mono hw.size)
  clear hb
  clear Hq
  clear Hs
  go_wp2_with fail
  refine (add_n Hb Hc (by assumption)).mono ?_
  rintro e w20 ⟨Ap, np, cp, rfl, Hp, hb⟩
  replace Ha := Ha.below hb
  replace Hb := Hb.below hb
  replace Hc := Hc.below hb
  replace hw := hw.trans (hb.mono hw.size)
  clear hb
  go_wp2_with fail
  refine (mul_n Ha (Hp.na (by assumption)) (by assumption)).mono ?_
  rintro e w21 ⟨Aq, nq, cq, rfl, Hq, hb⟩
  replace Ha := Ha.below hb
  replace Hb := Hb.below hb
  replace Hc := Hc.below hb
  replace Hp := Hp.below hb
  replace hw := hw.trans (hb.mono hw.size)
  clear hb
  clear Hp
  go_wp2_with fail
  refine (mul_n Ha Hb (by assumption)).mono ?_
  rintro e w22 ⟨Ar, nr, cr, rfl, Hr, hb⟩
  replace Ha := Ha.below hb
  replace Hb := Hb.below hb
  replace Hc := Hc.below hb
  replace Hq := Hq.below hb
  replace hw := hw.trans (hb.mono hw.size)
  clear hb
  go_wp2_with fail
  refine (mul_n Ha Hc (by assumption)).mono ?_
  rintro e w23 ⟨As, ns, cs, rfl, Hs, hb⟩
  replace Ha := Ha.below hb
  replace Hb := Hb.below hb
  replace Hc := Hc.below hb
  replace Hq := Hq.below hb
  replace Hr := Hr.below hb
  replace hw := hw.trans (hb.mono hw.size)
  clear hb
  go_wp2_with fail
  refine (add_n (Hr.na (by assumption)) (Hs.na (by assumption)) (by assumption)).mono ?_
  rintro e w24 ⟨At, nt, ct, rfl, Ht, hb⟩
  replace Ha := Ha.below hb
  replace Hb := Hb.below hb
  replace Hc := Hc.below hb
  replace Hq := Hq.below hb
  replace Hr := Hr.below hb
  replace Hs := Hs.below hb
  replace hw := hw.trans (hb.mono hw.size)
  clear hb
  clear Hr
  clear Hs
  go_wp2_with fail
  refine (same_n Hq Ht (Nat.mul_add _ _ _)).mono ?_
  rintro e w25 ⟨rfl, hb⟩
  replace Ha := Ha.below hb
  replace Hb := Hb.below hb
  replace Hc := Hc.below hb
  replace Hq := Hq.below hb
  replace Ht := Ht.below hb
  replace hw := hw.trans (hb.mono hw.size)
  clear hb
  clear Hq
  clear Ht
  go_wp2_with fail
  refine (add_n Ha Hb (by assumption)).mono ?_
  rintro e w26 ⟨Ap, np, cp, rfl, Hp, hb⟩
  replace Ha := Ha.below hb
  replace Hb := Hb.below hb
  replace Hc := Hc.below hb
  replace hw := hw.trans (hb.mono hw.size)
  clear hb
  go_wp2_with fail
  refine (sub_n (Hp.na (by assumption)) Hb (Nat.le_add_left _ _)).mono ?_
  rintro e w27 ⟨Ad, nd, cd, rfl, Hd, hb⟩
  replace Ha := Ha.below hb
  replace Hb := Hb.below hb
  replace Hc := Hc.below hb
  replace Hp := Hp.below hb
  replace hw := hw.trans (hb.mono hw.size)
  clear hb
  clear Hp
  go_wp2_with fail
  refine (norm_n Ha).mono ?_
  rintro e w28 ⟨Am, nm, cm, rfl, Hm, hb⟩
  replace Ha := Ha.below hb
  replace Hb := Hb.below hb
  replace Hc := Hc.below hb
  replace Hd := Hd.below hb
  replace hw := hw.trans (hb.mono hw.size)
  clear hb
  go_wp2_with fail
  refine (same_n Hd Hm (Nat.add_sub_cancel _ _)).mono ?_
  rintro e w29 ⟨rfl, hb⟩
  replace Ha := Ha.below hb
  replace Hb := Hb.below hb
  replace Hc := Hc.below hb
  replace Hd := Hd.below hb
  replace Hm := Hm.below hb
  replace hw := hw.trans (hb.mono hw.size)
  clear hb
  clear Hd
  go_wp2_with fail
  refine (bits_n Hb).mono ?_
  rintro e w' ⟨rfl, rfl⟩
  by_cases hz : b = 0
  · subst hz
    rw [bitsN_zero]
    go_wp2_with fail
    refine (divide_z Ha Hb).mono ?_
    rintro e wz ⟨Ax, nx, cx, Ay, ny, cy, rfl, hb⟩
    replace hw := hw.trans (hb.mono hw.size)
    go_wp2_with fail
    refine (works_c _).mono ?_
    rintro e wy ⟨rfl, hb'⟩
    go_wp2
    go_ret
    exact ⟨rfl, hw.trans (hb'.mono hw.size)⟩
  · have hbp : 0 < b := Nat.pos_of_ne_zero hz
    have hp := bitsN_pos hbp
    obtain ⟨z, hzz⟩ : ∃ z, bitsN b = z := ⟨_, rfl⟩
    rw [hzz] at hp ⊢
    clear hzz
    have hz0 : ((z : Int) == 0) = false := beq_eq_false_iff_ne.2 (by omega)
    have G1 : Fits (a / b) := Fa.le (Nat.div_le_self _ _)
    have G2 : Fits (a % b) := Fa.le (Nat.mod_le _ _)
    have G3 : a / b * b + a % b = a := by rw [Nat.mul_comm]; exact Nat.div_add_mod a b
    have G4 : Fits (a / b * b) := Fa.le (by omega)
    have G5 : Fits (a / b * b + a % b) := by rw [G3]; exact Fa
    have G6 : Fits (Nat.gcd a b) := Fa.gcd Fb
    have G7 : 0 < Nat.gcd a b := Nat.gcd_pos_of_pos_right _ hbp
    have G8 := hide G3
    have G9 : ordI (a % b) b = -1 := ordI_lt (Nat.mod_lt _ hbp)
    clear G3
    go_wp2_with fail
    refine (divide_n Ha Hb hbp).mono ?_
    rintro e w30 ⟨Aq, nq, cq, Ar, nr, cr, rfl, Hq, Hr, hb⟩
    replace Ha := Ha.below hb
    replace Hb := Hb.below hb
    replace Hc := Hc.below hb
    replace Hm := Hm.below hb
    replace hw := hw.trans (hb.mono hw.size)
    clear hb
    go_wp2_with fail
    have tc := compare_n (Hr.na (by assumption)) Hb
    rw [G9] at tc
    refine tc.mono ?_
    rintro e w31 ⟨rfl, hb⟩
    clear tc
    replace Ha := Ha.below hb
    replace Hb := Hb.below hb
    replace Hc := Hc.below hb
    replace Hm := Hm.below hb
    replace Hq := Hq.below hb
    replace Hr := Hr.below hb
    replace hw := hw.trans (hb.mono hw.size)
    clear hb
    go_wp2_with fail
    refine (mul_n (Hq.na (by assumption)) Hb (by assumption)).mono ?_
    rintro e w32 ⟨Ap, np, cp, rfl, Hp, hb⟩
    replace Ha := Ha.below hb
    replace Hb := Hb.below hb
    replace Hc := Hc.below hb
    replace Hm := Hm.below hb
    replace Hq := Hq.below hb
    replace Hr := Hr.below hb
    replace hw := hw.trans (hb.mono hw.size)
    clear hb
    go_wp2_with fail
    refine (add_n (Hp.na (by assumption)) (Hr.na (by assumption)) (by assumption)).mono ?_
    rintro e w33 ⟨As, ns, cs, rfl, Hs, hb⟩
    replace Ha := Ha.below hb
    replace Hb := Hb.below hb
    replace Hc := Hc.below hb
    replace Hm := Hm.below hb
    replace Hq := Hq.below hb
    replace Hr := Hr.below hb
    replace Hp := Hp.below hb
    replace hw := hw.trans (hb.mono hw.size)
    clear hb
    clear Hp
    clear Hq
    clear Hr
    go_wp2_with fail
    refine (same_n Hs Hm (G8.out)).mono ?_
    rintro e w34 ⟨rfl, hb⟩
    replace Ha := Ha.below hb
    replace Hb := Hb.below hb
    replace Hc := Hc.below hb
    replace Hm := Hm.below hb
    replace Hs := Hs.below hb
    replace hw := hw.trans (hb.mono hw.size)
    clear hb
    clear Hs
    clear Hm
    go_wp2_with fail
    refine (gcd_n Ha Hb).mono ?_
    rintro e w35 ⟨Ag, ng, cg, rfl, Hg, hb⟩
    replace Ha := Ha.below hb
    replace Hb := Hb.below hb
    replace Hc := Hc.below hb
    replace hw := hw.trans (hb.mono hw.size)
    clear hb
    go_wp2_with fail
    refine (divide_n Ha (Hg.na (by assumption)) G7).mono ?_
    rintro e w36 ⟨Ax1, nx1, cx1, Ax, nx, cx, rfl, _, Hx, hb⟩
    replace Ha := Ha.below hb
    replace Hb := Hb.below hb
    replace Hc := Hc.below hb
    replace Hg := Hg.below hb
    replace hw := hw.trans (hb.mono hw.size)
    clear hb
    go_wp2_with fail
    refine (divide_n Hb (Hg.na (by assumption)) G7).mono ?_
    rintro e w37 ⟨Ay1, ny1, cy1, Ay, ny, cy, rfl, _, Hy, hb⟩
    replace Ha := Ha.below hb
    replace Hb := Hb.below hb
    replace Hc := Hc.below hb
    replace Hg := Hg.below hb
    replace Hx := Hx.below hb
    replace hw := hw.trans (hb.mono hw.size)
    clear hb
    obtain rfl : nx = 0 := Hx.zero (Nat.mod_eq_zero_of_dvd (Nat.gcd_dvd_left _ _))
    obtain rfl : ny = 0 := Hy.zero (Nat.mod_eq_zero_of_dvd (Nat.gcd_dvd_right _ _))
    go_wp2_with fail
    refine (works_c _).mono ?_
    rintro e wy ⟨rfl, hb'⟩
    go_wp2
    go_ret
    exact ⟨rfl, hw.trans (hb'.mono hw.size)⟩
end Go.Proofs.Ytgilhkdmgbeieaa
