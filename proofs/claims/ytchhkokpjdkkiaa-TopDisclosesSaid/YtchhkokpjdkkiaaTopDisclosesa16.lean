/- Contracts of slices.Clone, of algebra's Perm, of reconcile's order and cut (the Top seat). Contracts of algebra's size and Perm, of reconcile's order (the Top seat). Contract of reconcile's cut (the Top seat). The map of a cascade: questions and their answers (the Top seat). -/
import Derived.Test.YtchhkokpjdkkiaaTopDisclosesa15
import Derived.Deep.RegionHeld3
import Derived.Deep.RegionLaw
import Derived.Deep.DrawnRows
import Derived.Maps.OwnSet
import Derived.DeepKeys4
import Derived.Lib.SmallJoins
import Derived.OpenShut
namespace Go.Proofs.Ytchhkokpjdkkiaa
open Go.RowKit

theorem nilB (a : Option Addr) (n c : Nat) (W : World) : (binOp .eql 22 (.slice a n c) (.slice none 0 0)).run Try.prog W = .ok (.bool a.isNone) W := by
  cases a <;> kernel_rfl
theorem nilI (a : Option Addr) (n c : Nat) (W : World) : (binOp .eql 61 (.slice a n c) (.slice none 0 0)).run Try.prog W = .ok (.bool a.isNone) W := by
  cases a <;> kernel_rfl
theorem Ow.emptyAt {α : Type} {e : Enc α} (w : World) (E : TypeId) (base : Nat) (hb : base ≤ w.heap.size) (g : Nat) (hg : w.heap.size = g) : Ow e (w.alloc (.cells #[] E)) base E (some ⟨g, 0, none⟩) 0 0 [] := by
  subst hg
  have h := World.ownsRow_lit (base := base) (e := E) (size := e.nf) w #[] 0 hb (by simp [maxLen]) (by simp)
  exact ⟨rfl, h⟩
set_option maxRecDepth 100000 in
set_option maxHeartbeats 1600000 in
theorem cloneB_c (A : Option Addr) (n c : Nat) (L : List Bool) (w : World) (r : Rd eBool w w.heap.size A n c L) (hn : n ≤ 4096) :
    Calls Try.prog 54 #[.slice A n c] w fun e w' => ∃ B d, e = .returned (.slice B n d) ∧ Ow eBool w' w.heap.size 4 B n d L ∧ Below w.heap.size w w' := by
  have hm := r.max
  have hcap := r.cap
  cases A with
  | none =>
    have h0 : n = 0 := by
      by_cases h : 0 < n
      · obtain ⟨b, off, e, _⟩ := r.at_ h; cases e
      · omega
    subst h0
    obtain rfl : L = [] := List.length_eq_zero_iff.1 r.len
    have hnil := nilB none 0 c
    go_enter Try.func54, Try.ntmps54
    go_wp2
    go_ret
    exact ⟨none, 0, rfl, Ow.nil _ _ _, Below.refl _ _⟩
  | some a =>
    have hnil := nilB (some a) n c
    go_enter Try.func54, Try.ntmps54
    go_upto_region 3 with fail
    go_wp2_with (at_builtin; refine wl_app eBool _ rfl (.tmp 5) (.tmp 6) _ rfl w.heap.size 4 (.bool false) 1 Try.underlying22 info_boolT rfl (by omega) _ _ _ _ (by rfl) (Ow.emptyAt w 4 w.heap.size (Nat.le_refl _) w.heap.size rfl) _ n c L (by rfl) _ (r.alloc _) (by omega) (by simp) ?_; intro A3 c3 w3 o3 hg3 hA3)
    go_ret
    rw [Nat.zero_add] at o3
    exact ⟨A3, c3, rfl, by simpa using o3, below_app (below_alloc w _) (Ow.emptyAt (e := eBool) w 4 w.heap.size (Nat.le_refl _) w.heap.size rfl) hg3 (Nat.le_refl _) (Nat.le_refl _)⟩
set_option maxRecDepth 100000 in
set_option maxHeartbeats 1600000 in
theorem cloneN_c (A : Option Addr) (n c : Nat) (L : List Nat) (w : World) (r : Rd eNat w w.heap.size A n c L) (hn : n ≤ 4096) :
    Calls Try.prog 59 #[.slice A n c] w fun e w' => ∃ B d, e = .returned (.slice B n d) ∧ Ow eNat w' w.heap.size 3 B n d L ∧ Below w.heap.size w w' := by
  have hm := r.max
  have hcap := r.cap
  cases A with
  | none =>
    have h0 : n = 0 := by
      by_cases h : 0 < n
      · obtain ⟨b, off, e, _⟩ := r.at_ h; cases e
      · omega
    subst h0
    obtain rfl : L = [] := List.length_eq_zero_iff.1 r.len
    have hnil := nilI none 0 c
    go_enter Try.func59, Try.ntmps59
    go_wp2
    go_ret
    exact ⟨none, 0, rfl, Ow.nil _ _ _, Below.refl _ _⟩
  | some a =>
    have hnil := nilI (some a) n c
    go_enter Try.func59, Try.ntmps59
    go_upto_region 3 with fail
    go_wp2_with (at_builtin; refine wl_app eNat _ rfl (.tmp 5) (.tmp 6) _ rfl w.heap.size 3 (.int .i64 0) 8 Try.underlying61 info_int rfl (by omega) _ _ _ _ (by rfl) (Ow.emptyAt w 3 w.heap.size (Nat.le_refl _) w.heap.size rfl) _ n c L (by rfl) _ (r.alloc _) (by omega) (by simp) ?_; intro A3 c3 w3 o3 hg3 hA3)
    go_ret
    rw [Nat.zero_add] at o3
    exact ⟨A3, c3, rfl, by simpa using o3, below_app (below_alloc w _) (Ow.emptyAt (e := eNat) w 3 w.heap.size (Nat.le_refl _) w.heap.size rfl) hg3 (Nat.le_refl _) (Nat.le_refl _)⟩

/-! ### Permutations -/
def swp (L : List Nat) (i j : Nat) : List Nat := (L.set i (L.getD j 0)).set j (L.getD i 0)
def shuf : Nat → List Nat × Nat → List Nat × Nat
  | 0, u => u
  | i + 1, t => shuf i (swp t.1 (i + 1) (ny t.2 % (i + 2)), nx t.2)
def permL (s n : Nat) : List Nat := (shuf (n - 1) (List.range n, s)).1
theorem swp_len (L : List Nat) (i j : Nat) : (swp L i j).length = L.length := by unfold swp; simp
theorem swp_lt {L : List Nat} {i j n : Nat} (h : ∀ x ∈ L, x < n) (hn : 0 < n) : ∀ x ∈ swp L i j, x < n := by
  have hg : ∀ k, L.getD k 0 < n := fun k => by
    rw [List.getD_eq_getElem?_getD]
    cases hk : L[k]? with
    | none => exact hn
    | some y => exact h y (List.mem_of_getElem? hk)
  intro x hx
  unfold swp at hx
  rcases List.mem_or_eq_of_mem_set hx with h1 | h1
  · rcases List.mem_or_eq_of_mem_set h1 with h2 | h2
    · exact h x h2
    · rw [h2]; exact hg j
  · rw [h1]; exact hg i
theorem shuf_len : ∀ (i : Nat) (t : List Nat × Nat), (shuf i t).1.length = t.1.length
  | 0, _ => rfl
  | i + 1, u => by rw [shuf, shuf_len i, swp_len]
theorem shuf_lt {n : Nat} (hn : 0 < n) : ∀ (i : Nat) (t : List Nat × Nat), (∀ x ∈ t.1, x < n) → ∀ x ∈ (shuf i t).1, x < n
  | 0, _, h => h
  | i + 1, _, h => shuf_lt hn i _ (swp_lt h hn)
theorem permL_len (s n : Nat) : (permL s n).length = n := by unfold permL; rw [shuf_len]; simp
theorem permL_lt (s n : Nat) : ∀ x ∈ permL s n, x < n := by
  intro x hx
  by_cases hn : 0 < n
  · exact shuf_lt hn _ _ (fun y hy => List.mem_range.1 hy) x hx
  · have := permL_len s n
    have h0 : n = 0 := by omega
    subst h0
    rw [List.length_eq_zero_iff.1 this] at hx; cases hx
set_option maxRecDepth 100000 in
set_option maxHeartbeats 1600000 in
theorem shuffle_c (B G0 g n D s : Nat) (L : List Nat) (w : World) (o : Ow eNat w G0 3 (some ⟨g, 0, none⟩) n n L) (h : Dr w D s) (hgD : g ≠ D) (hD : B ≤ D) (hB : B ≤ w.heap.size) (hBG : B ≤ G0) (hn : n ≤ 65536) :
    Calls Try.prog 122 #[.slice (some ⟨g, 0, none⟩) n n, .func (.func 123) #[.pointer (some ⟨D, 0, none⟩)] #[]] w fun e w' => e = .returned (.tuple #[]) ∧ Ow eNat w' G0 3 (some ⟨g, 0, none⟩) n n (shuf (n - 1) (L, s)).1 ∧ Below B w w' := by
  have hsub : IntKind.i64.wrap ((n : Int) - 1) = (n : Int) - 1 := by simp only [IntKind.wrap, IntKind.bits, IntKind.signed]; simp; omega
  have hBg := Nat.le_trans hBG (o.lt rfl).1
  go_enter Try.func122, Try.ntmps122
  go_upto_region 1 with fail
  clear hsub
  go_loopw [4] (fun iv wr => ∃ (i : Int) (L' : List Nat) (s' : Nat), -1 ≤ i ∧ i < n ∧ iv = .int .i64 i ∧ Ow eNat wr G0 3 (some ⟨g, 0, none⟩) n n L' ∧ Dr wr D s' ∧ shuf i.toNat (L', s') = shuf (n - 1) (L, s) ∧ Below B w wr) (fun iv _ => (intOf iv).toNat)
  case atStart => exact ⟨(n : Int) - 1, L, s, by omega, by omega, rfl, o, h, by rw [show ((n : Int) - 1).toNat = n - 1 by omega], Below.refl _ _⟩
  case round =>
    obtain ⟨i, L', s', hi0, hin, rfl, o', h', hsh, hbw⟩ := hrel
    by_cases hpos : 0 < i
    · obtain ⟨k, hk⟩ : ∃ k : Nat, i = ((k + 1 : Nat) : Int) := ⟨(i - 1).toNat, by omega⟩
      obtain ⟨q, hq⟩ : ∃ q, q = k + 1 := ⟨_, rfl⟩
      rw [← hq] at hk
      subst hk
      obtain ⟨j, hj⟩ : ∃ j, j = ny s' % (q + 1) := ⟨_, rfl⟩
      have hjq : j < q + 1 := by rw [hj]; exact Nat.mod_lt _ (by omega)
      have hny := ny_lt s'
      have HNX := hide (next_c D s' wr h')
      have hrem : (ny s' : Int) % ((q : Int) + 1) = (j : Int) := by rw [hj]; rfl
      have hrem2 : (ny s' : Int).tmod ((q : Int) + 1) = (j : Int) := by rw [Int.tmod_eq_emod_of_nonneg (by omega)]; exact hrem
      have HSH := hide (show shuf (q - 1) (swp L' q j, nx s') = shuf (n - 1) (L, s) by
        rw [← hsh, hq, hj, Int.toNat_natCast, hq]; rfl)
      have hqn : q < n := by omega
      have hq0 : 0 < q := by omega
      clear hsh hj hq hpos
      go_upto_region 4 with (go_at_call 123; refine HNX.out.mono ?_; rintro e w5 ⟨rfl, h5, hg5⟩)
      have o5 := o'.grown hg5 (by intro g' e; injection e with e; injection e with e; simp; omega)
      have hb5 := below_grown hbw hg5 hD hB
      obtain ⟨g', x, e', _, hgl, hx, hcx⟩ := o5.get hqn
      injection e' with e'; injection e' with e'; subst e'
      obtain ⟨g', y, e', _, _, hy, hcy⟩ := o5.get (show j < n by omega)
      injection e' with e'; injection e' with e'; subst e'
      have x0 := hcx 0 _ rfl
      have y0 := hcy 0 _ rfl
      simp only [eNat, Nat.add_zero, Nat.mul_one] at x0 y0
      have fq := o5.frozen q
      have fj := o5.frozen j
      have hjn : j < n := by omega
      have hqi : (q : Int) < (n : Int) := by omega
      have hji : (j : Int) < (n : Int) := by omega
      clear hcx hcy HNX hrem hrem2
      have o6 := o5.store1 hqn y (v := .int .i64 (y : Int)) rfl (p := ⟨g, q, none⟩) rfl
      obtain ⟨g', z, e', _, _, _, hcz⟩ := o6.get hjn
      injection e' with e'; injection e' with e'; subst e'
      have z0 := hcz 0 _ rfl
      simp only [eNat, Nat.add_zero, Nat.mul_one] at z0
      have fz := o6.frozen j
      have HO7 := hide (show Ow eNat ((w5.setCell ⟨g, q, none⟩ (.int .i64 (y : Int))).setCell ⟨g, j, none⟩ (.int .i64 (x : Int))) G0 3 (some ⟨g, 0, none⟩) n n (swp L' q j) from (by
        have h := o6.store1 hjn x (v := .int .i64 (x : Int)) rfl (p := ⟨g, j, none⟩) rfl
        have e1 : swp L' q j = (L'.set q y).set j x := by unfold swp; rw [List.getD_eq_getElem?_getD, List.getD_eq_getElem?_getD, hx, hy]; rfl
        rw [e1]; exact h))
      have HB7 := hide ((hb5.setCell (p := ⟨g, q, none⟩) (by simpa using hBg) (.int .i64 (y : Int))).setCell (p := ⟨g, j, none⟩) (by simpa using hBg) (.int .i64 (x : Int)))
      have HD7 := hide (show Dr ((w5.setCell ⟨g, q, none⟩ (.int .i64 (y : Int))).setCell ⟨g, j, none⟩ (.int .i64 (x : Int))) D (nx s') from ((Blk.far h5 (p := ⟨g, q, none⟩) (fun e => hgD e.symm) _).far (p := ⟨g, j, none⟩) (fun e => hgD e.symm) _))
      clear hcz o6 o5 hb5 h5 hx hy
      go_region_law (fail)
      all_goals
        go_wp2
        refine ⟨⟨(q : Int) - 1, swp L' q j, nx s', by omega, by omega, rfl, HO7.out.drew, HD7.out.drew, by rw [show ((q : Int) - 1).toNat = q - 1 by omega]; exact HSH.out, below_drewN HB7.out 1⟩, ?_⟩
        simp [intOf]
        omega
    · have hne : ¬ (i > 0) := hpos
      have HR := hide (show Ow eNat wr G0 3 (some ⟨g, 0, none⟩) n n (shuf (n - 1) (L, s)).1 by
        rw [← hsh, show i.toNat = 0 by omega]; exact o')
      clear hsh
      go_wp2
      go_end0
      exact ⟨rfl, HR.out, hbw⟩
end Go.Proofs.Ytchhkokpjdkkiaa

namespace Go.Proofs.Ytchhkokpjdkkiaa
open Go.RowKit

set_option maxRecDepth 100000 in
theorem size_c (D s n : Nat) (w : World) (h : Dr w D s) (hn : n ≤ 65536) : Calls Try.prog 121 #[.pointer (some ⟨D, 0, none⟩), .int .i64 (n : Int)] w fun e w' => e = .returned (.int .i64 0) ∧ w = w' := by
  have HM := hide (made_c D s w h)
  have g1 : ¬ ((n : Int) < 0) := by omega
  have g2 : ¬ ((n : Int) > 65536) := by omega
  have g3 : ¬ (65536 < n) := by omega
  go_enter Try.func121, Try.ntmps121
  go_wp2_with (go_at_call 136; refine HM.out.mono ?_; rintro e w1 ⟨rfl, hq⟩; rw [← hq]; clear hq)
  go_ret
  exact ⟨rfl, rfl⟩
def iotaL (n k : Nat) : List Nat := List.range k ++ List.replicate (n - k) 0
theorem iota_set {n k : Nat} (h : k < n) : (iotaL n k).set k k = iotaL n (k + 1) := by
  unfold iotaL
  rw [List.set_append_right _ _ (by simp), List.length_range, Nat.sub_self, show n - k = (n - (k + 1)) + 1 by omega, List.replicate_succ, List.set_cons_zero, List.range_succ, List.append_assoc]
  rfl
theorem iota_all (n : Nat) : iotaL n n = List.range n := by unfold iotaL; rw [Nat.sub_self]; simp
set_option maxRecDepth 100000 in
set_option maxHeartbeats 3200000 in
theorem perm_c (B D s n : Nat) (w : World) (h : Dr w D s) (hBD : B ≤ D) (hn : n ≤ 65536) :
    Calls Try.prog 89 #[.pointer (some ⟨D, 0, none⟩), .int .i64 (n : Int)] w fun e w' => ∃ A, e = .returned (.tuple #[.slice A n n, .int .i64 0]) ∧ Ow eNat w' w.heap.size 3 A n n (permL s n) ∧ Below B w w' := by
  have HSZ := hide (size_c D s n w h hn)
  have hDl := h.lt
  have hmf : ∀ (fn : Fn) (first cap : Array Value) (w : World), (Instr.makeFunc fn first cap).run Try.prog w = .ok (.func fn first cap) w := fun _ _ _ _ => rfl
  go_enter Try.func89, Try.ntmps89
  go_upto_region 4 with (go_at_call 121; refine HSZ.out.mono ?_; rintro e w1 ⟨rfl, hq⟩; rw [← hq]; clear hq)
  go_upto_region 5 with (at_make; refine wl_mk eNat _ rfl _ _ _ rfl 3 (.int .i64 0) 8 0 Try.underlying61 info_int rfl (by omega) _ _ n (by rfl) (by rfl) rfl rfl (by omega) ?_; intro w7 o7 hg7 hlt7)
  have hb7 : Below w.heap.size w w7 := ⟨hg7.os, hg7.tape, hg7.output, hg7.size, fun i hi => hg7.block i hi (by simp)⟩
  have h7 : Dr w7 D s := Blk.grown h hg7 (by simp)
  obtain ⟨gK, hgK⟩ : ∃ x, x = w.heap.size := ⟨_, rfl⟩
  rw [← hgK] at o7 hb7 hDl ⊢
  have HGK := hide hgK
  clear hgK hg7 hlt7 HSZ
  go_wp2
  go_loopw [19] (fun iv wr => ∃ k : Nat, k ≤ n ∧ iv = .int .i64 k ∧ Ow eNat wr gK 3 (some ⟨gK, 0, none⟩) n n (iotaL n k) ∧ Below gK w wr) (fun iv _ => n - (intOf iv).toNat)
  case atStart => exact ⟨0, Nat.zero_le _, rfl, by simpa [iotaL] using o7, hb7⟩
  case round =>
    clear o7 hb7 h7
    obtain ⟨k, hk, rfl, o3, hbw⟩ := hrel
    by_cases hlt : k < n
    · have hkf := o3.frozen k
      obtain ⟨g, v, eg, _, hgl, hv, hcv⟩ := o3.get hlt
      injection eg with eg
      injection eg with eg
      subst eg
      have k0 := hcv 0 _ rfl
      simp only [eNat, Nat.add_zero, Nat.mul_one] at k0
      have HO := hide (o3.store1 hlt k (v := .int .i64 (k : Int)) rfl rfl)
      have H9 := hide (hbw.setCell (p := ⟨gK, k, none⟩) (Nat.le_refl _) (.int .i64 (k : Int)))
      have HI := hide (iota_set hlt)
      clear hcv hv o3 hbw
      go_wp2
      go_roundw
      case rel => exact ⟨k + 1, by omega, by go_num, by rw [← HI.out]; exact HO.out, H9.out⟩
      case measure => simp [intOf] <;> omega
    · obtain rfl : k = n := by omega
      rw [iota_all] at o3
      have hrD : Dr wr D s := Blk.below h hbw hDl
      have hBg : B ≤ gK := by omega
      have hl := (o3.lt rfl).2
      have HSF := hide (shuffle_c B gK gK k D s (List.range k) wr o3 hrD (by omega) hBD (by omega) hBg hn)
      clear hrD
      go_wp2_with (go_at_call 122; refine HSF.out.mono ?_; rintro e w9 ⟨rfl, o9, hb9⟩)
      go_ret2
      exact ⟨_, rfl, by rw [← HGK.out]; exact o9, (hbw.mono hBg).trans hb9⟩
/-- The order of a pass. -/
def ordL (c : Cas) (n p : Nat) : List Nat := if 0 < p then permL ((c.sd + p) % 18446744073709551616) n else List.range n
theorem ordL_len (c : Cas) (n p : Nat) : (ordL c n p).length = n := by unfold ordL; split; exact permL_len _ _; simp
theorem ordL_lt (c : Cas) (n p : Nat) : ∀ x ∈ ordL c n p, x < n := by
  unfold ordL; split
  · exact permL_lt _ _
  · intro x hx; exact List.mem_range.1 hx
set_option maxRecDepth 100000 in
set_option maxHeartbeats 3200000 in
theorem order_c (c : Cas) (n p : Nat) (w : World) (hs : c.sd < 18446744073709551616) (hp : p ≤ 6) (hn : n ≤ 512) :
    Calls Try.prog 55 #[.agg (casV c), .int .i64 (n : Int), .int .i64 (p : Int)] w fun e w' => ∃ A, e = .returned (.slice A n n) ∧ Ow eNat w' w.heap.size 3 A n n (ordL c n p) ∧ Below w.heap.size w w' := by
  have HOL := hide (show ∀ q, 0 < q → ordL c n q = permL ((c.sd + q) % 18446744073709551616) n from fun q h => by unfold ordL; rw [if_pos h])
  have HO0 := hide (show ordL c n 0 = List.range n by unfold ordL; rw [if_neg (by omega)])
  obtain ⟨cp, cb, sd⟩ := c
  simp only at hs
  have hb := below_alloc w (.cells (casV ⟨cp, cb, sd⟩) 34)
  have hB := Blk.newAt w 34 (casV ⟨cp, cb, sd⟩) w.heap.size rfl
  simp only [casV] at hb hB ⊢
  go_enter Try.func55, Try.ntmps55
  go_upto_region 1 with fail
  obtain ⟨wA, hwA⟩ : ∃ q, q = w.alloc (.cells #[.int .i64 (cp : Int), .int .i64 (cb : Int), .int .u64 (sd : Int)] 34) := ⟨_, rfl⟩
  rw [← hwA] at hb hB ⊢
  obtain ⟨gC, hgC⟩ : ∃ q, q = w.heap.size := ⟨_, rfl⟩
  rw [← hgC] at hB ⊢
  clear hwA hgC
  by_cases h0 : 0 < p
  · have c2 := hB.cell 2
    simp only [List.getElem?_toArray, List.getElem?_cons_zero, List.getElem?_cons_succ] at c2
    obtain ⟨s, hsd⟩ : ∃ s, s = (sd + p) % 18446744073709551616 := ⟨_, rfl⟩
    have hw1 : IntKind.u64.wrap (p : Int) = (p : Int) := by simp only [IntKind.wrap, IntKind.bits, IntKind.signed]; simp; omega
    have hw2 : IntKind.u64.wrap ((sd : Int) + (p : Int)) = (s : Int) := by simp only [IntKind.wrap, IntKind.bits, IntKind.signed]; simp; omega
    have HN := hide (new_c s wA)
    have HO := hide (show ordL ⟨cp, cb, sd⟩ n p = permL s n by rw [HOL.out p h0, hsd])
    clear hsd
    go_wp2_with (first | (go_at_call 67; refine HN.out.mono ?_; rintro e w3 ⟨rfl, hD, hw3⟩; have hb3 := below_alloc wA (.cells #[.int .u64 (s : Int), .bool true] 195); rw [← hw3] at hb3; clear hw3) | (go_at_call 89; refine (perm_c wA.heap.size _ s n _ hD (Nat.le_refl _) (by omega)).mono ?_; rintro e w4 ⟨A, rfl, r4, hb4⟩))
    go_ret
    exact ⟨A, rfl, by rw [HO.out]; exact r4.mono (Nat.le_trans hb.size hb3.size), below_on hb (hb3.trans hb4)⟩
  · obtain rfl : p = 0 := by omega
    go_upto_region 5 with (at_make; refine wl_mk eNat _ rfl _ _ _ rfl 3 (.int .i64 0) 8 0 Try.underlying61 info_int rfl (by omega) _ _ n (by rfl) (by rfl) rfl rfl (by omega) ?_; intro w7 o7 hg7 hlt7)
    have hb7 : Below wA.heap.size wA w7 := ⟨hg7.os, hg7.tape, hg7.output, hg7.size, fun i hi => hg7.block i hi (by simp)⟩
    obtain ⟨gK, hgK⟩ : ∃ x, x = wA.heap.size := ⟨_, rfl⟩
    rw [← hgK] at o7 hb7 ⊢
    have HGK := hide hgK
    clear hgK hg7 hlt7
    go_wp2
    go_loopw [29] (fun iv wr => ∃ k : Nat, k ≤ n ∧ iv = .int .i64 k ∧ Ow eNat wr gK 3 (some ⟨gK, 0, none⟩) n n (iotaL n k) ∧ Below gK wA wr) (fun iv _ => n - (intOf iv).toNat)
    case atStart => exact ⟨0, Nat.zero_le _, rfl, by simpa [iotaL] using o7, hb7⟩
    case round =>
      clear o7 hb7
      obtain ⟨k, hk, rfl, o3, hbw⟩ := hrel
      by_cases hlt : k < n
      · have hkf := o3.frozen k
        obtain ⟨g, v, eg, _, hgl, hv, hcv⟩ := o3.get hlt
        injection eg with eg
        injection eg with eg
        subst eg
        have k0 := hcv 0 _ rfl
        simp only [eNat, Nat.add_zero, Nat.mul_one] at k0
        have HO := hide (o3.store1 hlt k (v := .int .i64 (k : Int)) rfl rfl)
        have H9 := hide (hbw.setCell (p := ⟨gK, k, none⟩) (Nat.le_refl _) (.int .i64 (k : Int)))
        have HI := hide (iota_set hlt)
        clear hcv hv o3 hbw
        go_wp2
        go_roundw
        case rel => exact ⟨k + 1, by omega, by go_num, by rw [← HI.out]; exact HO.out, H9.out⟩
        case measure => simp [intOf] <;> omega
      · obtain rfl : k = n := by omega
        rw [iota_all] at o3
        have HR := hide o3
        have HB := hide hbw
        clear o3 hbw
        go_wp2
        go_ret
        have h1 := HB.out
        rw [HGK.out] at h1
        exact ⟨_, rfl, by rw [HO0.out]; exact HR.out.mono (by rw [HGK.out]; exact hb.size), below_on hb h1⟩
end Go.Proofs.Ytchhkokpjdkkiaa

namespace Go.Proofs.Ytchhkokpjdkkiaa
open Go.RowKit

/-- A question. -/
structure Qs where
  p : Nat
  fr : Nat
  tt : Nat
def eQs : Enc Qs := ⟨3, fun q => [.int .i64 q.p, .int .i64 q.fr, .int .i64 q.tt], fun _ => rfl, by simp [Value.oneCell'], by omega⟩
theorem info_qs : (Try.prog.info? 45).map (fun i => (i.zero, i.size, i.bytes)) = some (some (.agg #[.int .i64 0, .int .i64 0, .int .i64 0]), 3, 24) := by kernel_rfl
def blkQ (sz n p i : Nat) : Qs := ⟨p, i * sz, min (i * sz + sz) n⟩
def cutL (sz n p k : Nat) : List Qs := (List.range k).map (blkQ sz n p)
theorem cutL_succ (sz n p k : Nat) : cutL sz n p (k + 1) = cutL sz n p k ++ [blkQ sz n p k] := by unfold cutL; rw [List.range_succ, List.map_append]; rfl
theorem cutL_len (sz n p k : Nat) : (cutL sz n p k).length = k := by unfold cutL; simp
def szOf (c : Cas) (p : Nat) : Nat := c.bl * 2 ^ p
set_option maxRecDepth 100000 in
set_option maxHeartbeats 3200000 in
theorem cut_c (c : Cas) (n p : Nat) (w : World) (hc : okCas c) (hp : p < 6) (hn : n ≤ 512) (h5 : szOf c p ≤ 512) :
    Calls Try.prog 56 #[.agg (casV c), .int .i64 (n : Int), .int .i64 (p : Int)] w fun e w' => ∃ A k d, e = .returned (.slice A k d) ∧ Ow eQs w' w.heap.size 45 A k d (cutL (szOf c p) n p k) ∧ (∀ i, i < k → i * szOf c p < n) ∧ n ≤ k * szOf c p ∧ Below w.heap.size w w' := by
  obtain ⟨cp, cb, sd⟩ := c
  obtain ⟨_, _, h3, h4, _⟩ := hc
  simp only at h3 h4
  have hb := below_alloc w (.cells (casV ⟨cp, cb, sd⟩) 34)
  have hB := Blk.newAt w 34 (casV ⟨cp, cb, sd⟩) w.heap.size rfl
  simp only [casV] at hb hB ⊢
  obtain ⟨sz, hsz⟩ : ∃ M, M = cb * 2 ^ p := ⟨_, rfl⟩
  have hM0 : 1 ≤ sz := by rw [hsz]; exact Nat.le_trans h3 (Nat.le_mul_of_pos_right _ (Nat.pow_pos (by omega)))
  have HSZ := hide (show szOf ⟨cp, cb, sd⟩ p = sz by unfold szOf; rw [hsz])
  have hM1 : sz ≤ 512 := by rw [← HSZ.out]; exact h5
  have hwr : wrap64 ((cb : Int) * 2 ^ p) = (sz : Int) := by
    have e : (cb : Int) * 2 ^ p = (sz : Int) := by rw [hsz]; simp
    rw [e]
    simp only [wrap64]; omega
  have hif : ¬ (512 < sz) := by omega
  have hsz1 : 1 ≤ sz := by omega
  have hsz2 : sz ≤ 512 := by omega
  rw [HSZ.out]
  clear hsz h5
  go_enter Try.func56, Try.ntmps56
  go_upto_region 1 with fail
  obtain ⟨wA, hwA⟩ : ∃ q, q = w.alloc (.cells #[.int .i64 (cp : Int), .int .i64 (cb : Int), .int .u64 (sd : Int)] 34) := ⟨_, rfl⟩
  rw [← hwA] at hb hB ⊢
  obtain ⟨gC, hgC⟩ : ∃ q, q = w.heap.size := ⟨_, rfl⟩
  rw [← hgC] at hB ⊢
  clear hwA hgC
  have c1 := hB.cell 1
  simp only [List.getElem?_toArray, List.getElem?_cons_zero, List.getElem?_cons_succ] at c1
  go_upto_region 4 with fail
  clear hwr hif c1
  go_loopw [9, 8] (fun iv ov wr => ∃ (k : Nat) (A1 : Option Addr) (c1 : Nat), k ≤ n ∧ iv = .int .i64 ((k * sz : Nat) : Int) ∧ ov = .slice A1 k c1 ∧ Ow eQs wr wA.heap.size 45 A1 k c1 (cutL sz n p k) ∧ (∀ i, i < k → i * sz < n) ∧ Below wA.heap.size wA wr) (fun iv _ _ => n - (intOf iv).toNat)
  case atStart => exact ⟨0, none, 0, by omega, by simp, rfl, Ow.nil _ _ _, fun i h => by omega, Below.refl _ _⟩
  case round =>
    obtain ⟨k, A1, c1, hk, rfl, rfl, o1, hall, hbw⟩ := hrel
    obtain ⟨F, hF⟩ : ∃ q, q = k * sz := ⟨_, rfl⟩
    rw [← hF]
    have HF := hide hF
    have HALL := hide hall
    by_cases hlt : F < n
    · have hkn : k < n := by
        have : k * 1 ≤ k * sz := Nat.mul_le_mul_left _ hsz1
        omega
      obtain ⟨G, hG⟩ : ∃ q, q = F + sz := ⟨_, rfl⟩
      have hFG : (F : Int) + (sz : Int) = (G : Int) := by omega
      have hwG : IntKind.i64.wrap (G : Int) = (G : Int) := by simp only [IntKind.wrap, IntKind.bits, IntKind.signed]; simp; omega
      obtain ⟨T, hT⟩ : ∃ q, q = min G n := ⟨_, rfl⟩
      have hmn : (if n < G then (n : Int) else (G : Int)) = (T : Int) := by split <;> omega
      have HBK := hide (show blkQ sz n p k = ⟨p, F, T⟩ by unfold blkQ; rw [← hF, hT, hG])
      have HG := hide (show G = (k + 1) * sz by rw [hG, hF, Nat.add_mul, Nat.one_mul])
      have HA := hide (show ∀ i, i < k + 1 → i * sz < n from fun i hi => by
        by_cases e : i = k
        · rw [e, ← hF]; exact hlt
        · exact HALL.out i (by omega))
      have HGF := hide (show F < G by omega)
      clear hG hT hF hall
      go_wp2_with (at_builtin; refine wl_app eQs _ rfl (.tmp 21) (.tmp 30) _ rfl wA.heap.size 45 (.agg #[.int .i64 0, .int .i64 0, .int .i64 0]) 24 Try.underlying145 info_qs rfl (by omega) _ _ _ _ (by rfl) (o1.alloc _) _ 1 1 [⟨p, F, T⟩] (by rfl) _ (Rd.newAt (e := eQs) wr 45 (⟨p, F, T⟩ : Qs) #[.int .i64 (p : Int), .int .i64 (F : Int), .int .i64 (T : Int)] rfl wr.heap.size rfl) (by omega) (by have := hbw.size; simp; omega) ?_; intro A3 c3 w3 o3 hg3 hA3)
      go_roundw
      case rel => exact ⟨k + 1, A3, c3, by omega, by rw [← HG.out], rfl, by rw [cutL_succ, HBK.out]; exact o3, HA.out, below_app (hbw.alloc hbw.size _) (o1.alloc _) hg3 (Nat.le_refl _) (Nat.le_refl _)⟩
      case measure => have := HGF.out; simp [intOf]; omega
    · have HR := hide (o1.mono hb.size)
      have HN := hide (show n ≤ k * sz by omega)
      clear hall hF
      go_wp2
      go_ret
      exact ⟨A1, k, c1, rfl, HR.out, HALL.out, HN.out, below_on hb hbw⟩
end Go.Proofs.Ytchhkokpjdkkiaa

namespace Go.Proofs.Ytchhkokpjdkkiaa
open Go.RowKit Go.ChangeMaps Go.MapKept Go.WideElems Go.Maps

theorem qLaid : laidOutB Try.prog = true := by kernel_rfl
theorem qRow : (45 : TypeId) < Try.prog.types.size := of_decide_eq_true (by kernel_rfl)
theorem qCells : Try.prog.cellsOf 45 = 3 := by kernel_rfl
theorem qDeep : Try.prog.keyTypeAt (Try.prog.types.size + 1) 45 = true := by kernel_rfl
theorem qWide : (match Try.prog.underlying 45 with | some (.array _ _) | some (.struct _) => true | _ => false) = true := by rw [Try.underlying45]
theorem qKt : Try.prog.keyTypeAt 2 45 = true := by kernel_rfl
set_option maxRecDepth 1000000 in
theorem qLaw : WideMaps.KeyLaw Try.prog 45 := deep_law_laid qLaid (m := 2) (by omega) qRow qKt qWide
theorem qKeyed : Keyed Try.prog 45 := Keyed.of_law qLaw
theorem qFormed {c0 c1 c2 : Value} : (Value.agg #[c0, c1, c2]).formed Try.prog 45 = true := by simp [Value.formed, Try.underlying45, qCells]
instance decQs : DecidableEq Qs := fun a b => decidable_of_iff (a.p = b.p ∧ a.fr = b.fr ∧ a.tt = b.tt) ⟨fun h => by cases a; cases b; simp at h; simp [h], fun h => by subst h; exact ⟨rfl, rfl, rfl⟩⟩
def keyV (q : Qs) : Value := .agg #[.int .i64 q.p, .int .i64 q.fr, .int .i64 q.tt]
def okQ (q : Qs) : Prop := q.p < 9223372036854775808 ∧ q.fr < 9223372036854775808 ∧ q.tt < 9223372036854775808
theorem keyV_inj {q r : Qs} (h : keyV q = keyV r) : q = r := by
  obtain ⟨a, b, c⟩ := q
  obtain ⟨a', b', c'⟩ := r
  unfold keyV at h
  simp at h
  obtain ⟨h1, h2, h3⟩ := h
  have e1 : a = a' := by omega
  have e2 : b = b' := by omega
  have e3 : c = c' := by omega
  rw [e1, e2, e3]
theorem i64wf (n : Nat) (h : n < 9223372036854775808) : (Lit.int .i64 (n : Int)).wf = true := by
  simp [Lit.wf, IntKind.min, IntKind.max, IntKind.signed, IntKind.bits]; omega
set_option maxRecDepth 1000000 in
theorem keyQ (q : Qs) (h : okQ q) : ∃ kl, keyOf Try.prog 45 (keyV q) = some kl := by
  have hw : ∀ n : Nat, n < 9223372036854775808 → ∃ m, DataW.trod (H := Unit) (fun _ => ()) Try.prog default 0 (fun _ => true) true m 3 [.int .i64 (n : Int)] = some (.lit (.int .i64 (n : Int)), []) := fun n hn => by
    obtain ⟨m, hm⟩ := Go.ChangeShapes.shut_int (H := Unit) (enc := fun _ => ()) (P := Try.prog) (w := default) (base := 0) (spare := fun _ => true) (held := true) Try.underlying3 (i64wf n hn)
    exact ⟨m, hm⟩
  have h3 := Go.Joins.shut_agg3 (H := Unit) (enc := fun _ => ()) (P := Try.prog) (w := default) (base := 0) (spare := fun _ => true) (held := true) Try.underlying45 (by kernel_rfl) qCells (hw q.p h.1) (hw q.fr h.2.1) (hw q.tt h.2.2)
  exact ⟨_, (keyOf_asKey qDeep qWide qFormed h3).1⟩
theorem zeroBool (w : World) : (zeroValue 4).run Try.prog w = .ok (.bool false) w := by kernel_rfl
set_option maxRecDepth 1000000 in
theorem plainB_inv {v : Value} {z : DataW Unit × List MemPlace} (h : plainElem Try.prog 4 v = some z) : ∃ x, v = .bool x ∧ z = (.lit (.bool x), []) := by
  unfold plainElem at h
  rw [Try.underlying4] at h
  cases v <;> simp at h
  exact ⟨_, rfl, h.symm⟩
/-- The map holds the answers to the questions of KL, each by tp; nothing else. -/
def MapK (w : World) (b : Nat) (KL : List Qs) (tp : Qs → Bool) : Prop :=
  ∃ D : DataW Unit, w.ownsMap Try.prog 45 (plainElem Try.prog 4) b KL.length D ∧
    ∀ q, okQ q → ∀ kl, keyOf Try.prog 45 (keyV q) = some kl → ∀ zd, D.atKey kl zd = if q ∈ KL then .lit (.bool (tp q)) else zd
section
variable {w w' : World} {b : Nat} {KL : List Qs} {tp : Qs → Bool}
theorem MapK.made (w : World) (tp : Qs → Bool) : MapK (w.alloc (.map #[] 0)) w.heap.size [] tp :=
  ⟨_, World.ownsMap_made w _ _ _, fun q _ kl _ zd => by simp [DataW.atKey]⟩
theorem MapK.grown {row : Option Nat} (h : MapK w b KL tp) (hg : w.grownBy w' row) (hne : some b ≠ row) : MapK w' b KL tp := by
  obtain ⟨D, h1, h2⟩ := h
  exact ⟨D, h1.kept hg hne, h2⟩
theorem MapK.lt (h : MapK w b KL tp) : b < w.heap.size := by obtain ⟨D, h1, _⟩ := h; exact h1.lt
theorem MapK.look (h : MapK w b KL tp) {q : Qs} (hq : okQ q) (c : Bool) :
    (q ∈ KL ∧ (Instr.lookup 94 (.map (some b)) (keyV q) c).run Try.prog w = .ok (if c then .tuple #[.bool (tp q), .bool true] else .bool (tp q)) w) ∨
    (q ∉ KL ∧ (Instr.lookup 94 (.map (some b)) (keyV q) c).run Try.prog w = .ok (if c then .tuple #[.bool false, .bool false] else .bool false) w) := by
  obtain ⟨D, ⟨es, clock, hb, F, hsz, rfl⟩, h2⟩ := h
  obtain ⟨kl, hkl⟩ := keyQ q hq
  have hat := h2 q hq kl hkl
  rcases fit_look c qKeyed Try.underlying94 (zeroBool w) hb F hkl with ⟨hr, _, hn⟩ | ⟨e0, y, he, hk, hr, hR, hy, _⟩
  · refine .inr ⟨fun hm => ?_, hr⟩
    have h3 := hat (.lit (.bool (!tp q)))
    rw [hn, if_pos hm] at h3
    injection h3 with h3; injection h3 with h3
    cases htp : tp q <;> rw [htp] at h3 <;> cases h3
  · obtain ⟨x, hv, hz⟩ := plainB_inv hR
    by_cases hm : q ∈ KL
    · have h3 := hat (.lit (.bool true))
      rw [hy, if_pos hm, hz] at h3
      injection h3 with h3; injection h3 with h3
      exact .inl ⟨hm, by rw [hr, hv, h3]⟩
    · have h3 := hat (.lit (.bool (!x)))
      rw [hy, if_neg hm, hz] at h3
      injection h3 with h3; injection h3 with h3
      cases x <;> cases h3
theorem MapK.store (h : MapK w b KL tp) {q : Qs} (hq : okQ q) (hl : KL.length < 1000000) :
    ∃ w', (Instr.mapUpdate 94 (.map (some b)) (keyV q) (.bool (tp q))).run Try.prog w = .ok () w' ∧ MapK w' b (q :: KL) tp ∧ w.grownBy w' (some b) := by
  obtain ⟨D, hown, h2⟩ := h
  obtain ⟨kl, hkl⟩ := keyQ q hq
  obtain ⟨w', hr, h3, hg⟩ := hown.update qKeyed Try.underlying94 (by simp [maxLen]; omega) hkl (plainElem_bool Try.underlying4 (tp q))
  refine ⟨w', hr, ⟨_, h3, fun r hr' kr hkr zd => ?_⟩, hg⟩
  by_cases e : r = q
  · subst e
    obtain rfl : kl = kr := Option.some.inj (hkl.symm.trans hkr)
    rw [atKey_put_same hown.isMap (qKeyed.key hkl), if_pos (by simp)]
  · have hne : kr ≠ kl := fun hk => e (keyV_inj (qKeyed.inj (hk ▸ hkr) hkl))
    rw [atKey_put_other hne, h2 r hr' kr hkr zd]
    by_cases hm : r ∈ KL
    · rw [if_pos hm, if_pos (by simp [hm])]
    · rw [if_neg hm, if_neg (by simp [hm, e])]
end
end Go.Proofs.Ytchhkokpjdkkiaa
