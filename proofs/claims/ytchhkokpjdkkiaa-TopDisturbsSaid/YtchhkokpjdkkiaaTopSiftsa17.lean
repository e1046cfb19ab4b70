/- The rules of a law's eavesdropper, by numbers. Plain Lean; no program. Contract of the law's rules. Contract of the law's spans (the Top seat). -/
import Derived.Test.YtchhkokpjdkkiaaTopSiftsa10
import Derived.Test.YtchhkokpjdkkiaaTopSiftsa03
import Derived.Deep.RegionHeld3
import Derived.Deep.DrawnRows
import Derived.Deep.RegionLaw
import Derived.Test.YtchhkokpjdkkiaaTopSiftsa16
namespace Go.Proofs.Ytchhkokpjdkkiaa
open Go.RowKit

/-- A rule by numbers of eight bits. -/
structure Sp where
  k : Nat
  fr : Nat
  ln : Nat
  a : Nat
  b : Nat
  ok : k < 256 ∧ fr < 256 ∧ ln < 256 ∧ a < 256 ∧ b < 256
def eSp : Enc Sp := ⟨5, fun p => [.int .u8 p.k, .int .u8 p.fr, .int .u8 p.ln, .int .u8 p.a, .int .u8 p.b], fun _ => rfl, by simp [Value.oneCell'], by omega⟩
def kindOf (K : List Int) (x : Sp) : Int := K.getD (x.k % K.length) 0
def genR (K : List Int) (x : Sp) : Ru :=
  ⟨kindOf K x, if kindOf K x = 1 ∨ kindOf K x = 2 then 0 else x.fr, if kindOf K x = 1 ∨ kindOf K x = 2 then 0 else (x.fr : Int) + x.ln,
    if kindOf K x = 7 then ((x.a % 2 : Nat) : Int) else if kindOf K x = 5 then 0 else x.a, if kindOf K x = 7 then ((x.b % 2 : Nat) : Int) else 0⟩
def genL (K : List Int) (S : List Sp) : List Ru := (S.take 32).map (genR K)
/-- The kinds that a law may name. -/
def OkK (K : List Int) : Prop := 0 < K.length ∧ K.length ≤ 6 ∧ ∀ k ∈ K, k = 1 ∨ k = 2 ∨ k = 4 ∨ k = 5 ∨ k = 6 ∨ k = 7
theorem kindOf_get {K : List Int} (h : OkK K) (x : Sp) : K[x.k % K.length]? = some (kindOf K x) := by
  have hl : x.k % K.length < K.length := Nat.mod_lt _ h.1
  unfold kindOf
  rw [List.getD_eq_getElem?_getD, List.getElem?_eq_getElem hl]; rfl
theorem kindOf_mem {K : List Int} (h : OkK K) (x : Sp) : kindOf K x ∈ K := List.mem_of_getElem? (kindOf_get h x)
theorem genR_ok {K : List Int} (h : OkK K) (x : Sp) : okRu (genR K x) = true ∧ isSh (genR K x) = false := by
  obtain ⟨h1, h2, h3, h4, h5⟩ := x.ok
  have hm1 : x.a % 2 < 2 := Nat.mod_lt _ (by omega)
  have hm2 : x.b % 2 < 2 := Nat.mod_lt _ (by omega)
  have hk := h.2.2 _ (kindOf_mem h x)
  unfold okRu isSh okSpan genR
  rcases hk with e | e | e | e | e | e <;> simp [e] <;> omega
theorem genL_len (K : List Int) (S : List Sp) : (genL K S).length ≤ 32 := by unfold genL; rw [List.length_map, List.length_take]; omega
theorem genL_mem {K : List Int} (h : OkK K) {S : List Sp} {r : Ru} (hr : r ∈ genL K S) : okRu r = true ∧ isSh r = false ∧ r.k ∈ K := by
  unfold genL at hr
  obtain ⟨x, _, rfl⟩ := List.mem_map.1 hr
  obtain ⟨h1, h2⟩ := genR_ok h x
  exact ⟨h1, h2, kindOf_mem h x⟩
theorem genL_ok {K : List Int} (h : OkK K) (S : List Sp) : rulesErr (genL K S) = 0 ∧ shiftErr (genL K S) = 0 := by
  have hl := genL_len K S
  have ha : (genL K S).all okRu = true := List.all_eq_true.2 fun r hr => (genL_mem h hr).1
  have hs : shifts (genL K S) = 0 := by
    unfold shifts
    rw [List.length_eq_zero_iff, List.filter_eq_nil_iff]
    intro r hr; simp [(genL_mem h hr).2.1]
  have he : rulesErr (genL K S) = 0 := by unfold rulesErr; rw [if_neg (by omega), if_pos ha, if_neg (by omega)]
  refine ⟨he, ?_⟩
  unfold shiftErr; rw [if_pos he]
  exact shiftOf_none (List.all_eq_true.2 fun r hr => by simp [(genL_mem h hr).2.1])
theorem genL_snoc {K : List Int} {S : List Sp} {k : Nat} {x : Sp} (hx : S[k]? = some x) : (S.take (k + 1)).map (genR K) = (S.take k).map (genR K) ++ [genR K x] := by
  rw [List.take_add_one, hx, List.map_append]; rfl
end Go.Proofs.Ytchhkokpjdkkiaa

namespace Go.Proofs.Ytchhkokpjdkkiaa
open Go.RowKit

theorem info_ru : (Try.prog.info? 108).map (fun i => (i.zero, i.size, i.bytes)) = some (some (.agg #[.int .i64 0, .int .i64 0, .int .i64 0, .int .i64 0, .int .i64 0]), 5, 40) := by kernel_rfl
def rC (k fr td a b : Int) : Array Value := #[.int .i64 k, .int .i64 fr, .int .i64 td, .int .i64 a, .int .i64 b]
theorem grownBy_setN {w w' : World} (h : w.grownBy w' none) {p : Addr} (hp : w.heap.size ≤ p.block) (u : Value) : w.grownBy (w'.setCell p u) none :=
  ⟨h.os, h.tape, h.output, by simpa [World.setCell] using h.size, fun i hi hne => (Below.heap_setCell w' p u i (fun e => by omega)).trans (h.block i hi hne)⟩
/-- The rule that a round makes lies in a block of its own. -/
structure GR (wr : World) (gR : Nat) (k fr td a b : Int) (W : World) : Prop where
  r : Blk W gR 108 (rC k fr td a b)
  g : wr.grownBy W none
  n : wr.heap.size ≤ gR
section
variable {wr W : World} {gR : Nat} {k fr td a b : Int}
theorem GR.set (h : GR wr gR k fr td a b W) {k' fr' td' a' b' : Int} (i : Nat) (v : Value) (hx : (rC k fr td a b).setIfInBounds i v = rC k' fr' td' a' b') : GR wr gR k' fr' td' a' b' (W.setCell ⟨gR, i, none⟩ v) :=
  ⟨hx ▸ h.r.set_ i v, grownBy_setN h.g h.n v, h.n⟩
theorem GR.drew (h : GR wr gR k fr td a b W) : GR wr gR k fr td a b W.drew := ⟨h.r.drew, grownBy_drew h.g, h.n⟩
theorem GR.below (h : GR wr gR k fr td a b W) {B : Nat} {w : World} (hb : Below B w wr) (hB : B ≤ wr.heap.size) : Below B w W :=
  ⟨h.g.os.trans hb.os, h.g.tape.trans hb.tape, h.g.output.trans hb.output, Nat.le_trans hb.size h.g.size, fun i hi => (h.g.block i (by omega) (by simp)).trans (hb.block i hi)⟩
end
def SRules (K : List Int) (S : List Sp) (w : World) (e : Ending) (w' : World) : Prop :=
  ∃ A n c, e = .returned (.slice A n c) ∧ Rd eRu w' w'.heap.size A n c (genL K S) ∧ Below w.heap.size w w'

end Go.Proofs.Ytchhkokpjdkkiaa

namespace Go.Proofs.Ytchhkokpjdkkiaa
open Go.RowKit

/-- A rule by numbers of eight bits. -/
structure Spn where
  k : Nat
  fr : Nat
  ln : Nat
  a : Nat
  ok : k < 256 ∧ fr < 256 ∧ ln < 256 ∧ a < 256
def eSpn : Enc Spn := ⟨4, fun p => [.int .u8 p.k, .int .u8 p.fr, .int .u8 p.ln, .int .u8 p.a], fun _ => rfl, by simp [Value.oneCell'], by omega⟩
def kindS (K : List Int) (x : Spn) : Int := K.getD (x.k % K.length) 0
def spR (K : List Int) (x : Spn) : Ru :=
  ⟨kindS K x, if kindS K x = 1 ∨ kindS K x = 2 then 0 else x.fr, if kindS K x = 1 ∨ kindS K x = 2 then 0 else (x.fr : Int) + x.ln, if kindS K x = 5 then 0 else x.a, 0⟩
def spL (K : List Int) (sh : Nat) (S : List Spn) : List Ru := ⟨3, 0, 0, sh, 0⟩ :: (S.take 20).map (spR K)
/-- The kinds that a law may name. -/
def OkS (K : List Int) : Prop := 0 < K.length ∧ K.length ≤ 6 ∧ ∀ k ∈ K, k = 1 ∨ k = 2 ∨ k = 4 ∨ k = 5 ∨ k = 6
theorem kindS_get {K : List Int} (h : OkS K) (x : Spn) : K[x.k % K.length]? = some (kindS K x) := by
  have hl : x.k % K.length < K.length := Nat.mod_lt _ h.1
  unfold kindS
  rw [List.getD_eq_getElem?_getD, List.getElem?_eq_getElem hl]; rfl
theorem kindS_mem {K : List Int} (h : OkS K) (x : Spn) : kindS K x ∈ K := List.mem_of_getElem? (kindS_get h x)
theorem spR_ok {K : List Int} (h : OkS K) (x : Spn) : okRu (spR K x) = true ∧ isSh (spR K x) = false := by
  obtain ⟨h1, h2, h3, h4⟩ := x.ok
  have hk := h.2.2 _ (kindS_mem h x)
  unfold okRu isSh okSpan spR
  rcases hk with e | e | e | e | e <;> simp [e] <;> omega
theorem spL_ok {K : List Int} (h : OkS K) (sh : Nat) (hs : sh ≤ 16) (S : List Spn) : rulesErr (spL K sh S) = 0 ∧ shiftErr (spL K sh S) = sh := by
  have hl : (spL K sh S).length ≤ 21 := by unfold spL; rw [List.length_cons, List.length_map, List.length_take]; omega
  have ha : (spL K sh S).all okRu = true := by
    unfold spL
    rw [List.all_cons, Bool.and_eq_true]
    refine ⟨by simp [okRu]; omega, List.all_eq_true.2 fun r hr => ?_⟩
    obtain ⟨x, _, rfl⟩ := List.mem_map.1 hr
    exact (spR_ok h x).1
  have hf : ((S.take 20).map (spR K)).filter isSh = [] := by
    rw [List.filter_eq_nil_iff]
    intro r hr
    obtain ⟨x, _, rfl⟩ := List.mem_map.1 hr
    simp [(spR_ok h x).2]
  have hn : shifts (spL K sh S) = 1 := by
    unfold shifts spL
    rw [List.filter_cons_of_pos (by simp [isSh]), hf]; rfl
  have he : rulesErr (spL K sh S) = 0 := by unfold rulesErr; rw [if_neg (by omega), if_pos ha, if_neg (by omega)]
  refine ⟨he, ?_⟩
  unfold shiftErr; rw [if_pos he]
  unfold shiftOf spL
  rw [List.find?_cons_of_pos (by simp [isSh])]
  simp
theorem spL_kind {K : List Int} (h : OkS K) {sh : Nat} {S : List Spn} {r : Ru} (hr : r ∈ spL K sh S) : r.k = 3 ∨ r.k ∈ K := by
  unfold spL at hr
  rcases List.mem_cons.1 hr with rfl | hr
  · exact .inl rfl
  · obtain ⟨x, _, rfl⟩ := List.mem_map.1 hr
    exact .inr (kindS_mem h x)
def spT (K : List Int) (sh : Nat) (S : List Spn) (k : Nat) : List Ru := ⟨3, 0, 0, sh, 0⟩ :: (S.take k).map (spR K)
theorem spT_snoc {K : List Int} {sh : Nat} {S : List Spn} {k : Nat} {x : Spn} (hx : S[k]? = some x) : spT K sh S (k + 1) = spT K sh S k ++ [spR K x] := by
  unfold spT; rw [List.take_add_one, hx, List.map_append]; rfl

set_option linter.unusedSimpArgs false in
set_option maxRecDepth 100000 in
set_option maxHeartbeats 6400000 in
theorem spans_c (x : Lgt) (K : List Int) (hK : OkS K) (S : List Spn) (A : Option Addr) (n c : Nat) (A' : Option Addr) (m c' : Nat) (w : World) (r : Rd eSpn w w.heap.size A n c S) (q : Rd eInt w w.heap.size A' m c' K) :
    Calls Try.prog 14 #[.agg (lgtV x (.slice A n c)), .slice A' m c'] w fun e w' => ∃ B k d, e = .returned (.slice B k d) ∧ Rd eRu w' w'.heap.size B k d (spL K (x.sf % 17) S) ∧ Below w.heap.size w w' := by
  have hm := r.max
  have hcap := r.cap
  have HL := hide r.len
  have hm' := q.max
  have hcap' := q.cap
  have HKL := hide q.len
  have hm0 : 0 < m := by have := HKL.out; have := hK.1; omega
  have hm6 : m ≤ 6 := by have := HKL.out; have := hK.2.1; omega
  have hm1 : ((m : Int) == 0) = false := by simp; omega
  have HK := hide hK
  clear hK
  obtain ⟨k, ph, et, dk, sl, hd, sf, a, b, c0, ok⟩ := x
  have hB0 := Blk.newAt w 52 (lgtV ⟨k, ph, et, dk, sl, hd, sf, a, b, c0, ok⟩ (.slice A n c)) w.heap.size rfl
  have hb0 := below_alloc w (.cells (lgtV ⟨k, ph, et, dk, sl, hd, sf, a, b, c0, ok⟩ (.slice A n c)) 52)
  obtain ⟨h1, h2, h3, h4, h5, h6, h7, _⟩ := ok
  obtain ⟨sh, hsh⟩ : ∃ q, q = sf % 17 := ⟨_, rfl⟩
  have hsh' : sh < 17 := by omega
  have hr1 : (sf : Int) % 17 = (sh : Int) := by omega
  have hr2 : (sf : Int).tmod 17 = (sh : Int) := by rw [Int.tmod_eq_emod_of_nonneg (by omega)]; exact hr1
  simp only
  rw [← hsh]
  clear hsh
  simp only [lgtV] at hB0 hb0 ⊢
  go_enter Try.func14, Try.ntmps14
  go_upto_region 1 with fail
  obtain ⟨wB, hwB⟩ : ∃ q, q = w.alloc (.cells #[.int .u8 (k : Int), .int .u8 (ph : Int), .int .u8 (et : Int), .int .u8 (dk : Int), .int .u8 (sl : Int), .int .u8 (hd : Int), .int .u8 (sf : Int), .slice A n c, .int .u64 (a : Int), .int .u64 (b : Int), .int .u64 (c0 : Int)] 52) := ⟨_, rfl⟩
  rw [← hwB] at hB0 hb0 ⊢
  have r := r.on hb0
  have q := q.on hb0
  obtain ⟨gL, hgL⟩ : ∃ q, q = w.heap.size := ⟨_, rfl⟩
  rw [← hgL] at hB0 ⊢
  clear hwB hgL
  have l6 := hB0.cell 6
  simp only [List.getElem?_toArray, List.getElem?_cons_zero, List.getElem?_cons_succ] at l6
  go_upto_region 2 with fail
  have o0 := Ow.new (e := eRu) wB 108 (⟨3, 0, 0, (sh : Int), 0⟩ : Ru) #[.int .i64 3, .int .i64 0, .int .i64 0, .int .i64 (sh : Int), .int .i64 0] rfl wB.heap.size (Nat.le_refl _) wB.heap.size rfl
  have hbW := below_alloc wB (.cells #[.int .i64 3, .int .i64 0, .int .i64 0, .int .i64 (sh : Int), .int .i64 0] 108)
  clear l6 hr1 hr2
  go_wp2
  go_loopw [6, 5] (fun iv ov wr => ∃ (k : Nat) (A1 : Option Addr) (c1 : Nat), k ≤ n ∧ k ≤ 20 ∧ iv = .int .i64 k ∧ ov = .slice A1 (k + 1) c1 ∧ Ow eRu wr wB.heap.size 108 A1 (k + 1) c1 (spT K sh S k) ∧ Below wB.heap.size wB wr) (fun iv _ _ => n - (intOf iv).toNat)
  case atStart => exact ⟨0, _, _, by omega, by omega, rfl, rfl, o0, hbW⟩
  case round =>
    clear o0 hbW
    obtain ⟨k, A1, c1, hk, hk20, rfl, rfl, o1, hbw⟩ := hrel
    have l7 := (hB0.keep hbw).cell 7
    simp only [List.getElem?_toArray, List.getElem?_cons_zero, List.getElem?_cons_succ] at l7
    by_cases hlt : k < n
    · by_cases hlt2 : k < 20
      · obtain ⟨b, off, x, rfl, hb, hx, hc⟩ := (r.on hbw).get hlt
        have HX := hide hx
        have x0 := hc 0 _ rfl
        have x1 := hc 1 _ rfl
        have x2 := hc 2 _ rfl
        have x3 := hc 3 _ rfl
        simp only [eSpn, Nat.add_zero] at x0 x1 x2 x3
        clear hc hx
        obtain ⟨j, hj⟩ : ∃ j, j = x.k % m := ⟨_, rfl⟩
        have hjm : j < m := by rw [hj]; exact Nat.mod_lt _ hm0
        obtain ⟨b', off', kd, rfl, hb', hy, hc'⟩ := q.get hjm
        have hkd : kd = kindS K x := by
          have h1 := kindS_get HK.out x
          rw [HKL.out, ← hj, hy] at h1
          exact Option.some.inj h1
        have hkk := HK.out.2.2 _ (kindS_mem HK.out x)
        rw [← hkd] at hkk
        have HKD := hide hkd
        have HY0 := hide (show ∀ W, Below wB.heap.size wB W → W.cell? ⟨b', off' + j, none⟩ = some (.int .i64 kd) from fun W hW => (hW.cell hb').trans (by have := hc' 0 _ rfl; simpa only [eInt, Nat.add_zero, Nat.mul_one] using this))
        have hxb := x.ok
        clear hc' hy hkd
        have hrem : (x.k : Int) % (m : Int) = (j : Int) := by rw [hj]; rfl
        have hrem2 : (x.k : Int).tmod (m : Int) = (j : Int) := by rw [hj]; rfl
        clear hj
        obtain ⟨xk, xf, xl, xa, xok⟩ := x
        simp only at x0 x1 x2 x3 hxb hrem hrem2
        go_upto_region 6 with fail
        have hS := Blk.newAt wr 110 #[.int .u8 xk, .int .u8 xf, .int .u8 xl, .int .u8 xa] wr.heap.size rfl
        have oS := o1.alloc (.cells #[.int .u8 xk, .int .u8 xf, .int .u8 xl, .int .u8 xa] 110)
        have hbS := hbw.alloc hbw.size (.cells #[.int .u8 xk, .int .u8 xf, .int .u8 xl, .int .u8 xa] 110)
        obtain ⟨wS, hwS⟩ : ∃ q, q = wr.alloc (.cells #[.int .u8 xk, .int .u8 xf, .int .u8 xl, .int .u8 xa] 110) := ⟨_, rfl⟩
        rw [← hwS] at hS oS hbS ⊢
        obtain ⟨gS, hgS⟩ : ∃ q, q = wr.heap.size := ⟨_, rfl⟩
        rw [← hgS] at hS ⊢
        clear hwS hgS x0 x1 x2 x3 l7 o1 hbw
        have y0 := HY0.out wS hbS
        have s0 := hS.cell 0
        simp only [List.getElem?_toArray, List.getElem?_cons_zero, List.getElem?_cons_succ] at s0
        go_upto_region 7 with fail
        have g1 : GR wS wS.heap.size kd 0 0 0 0 (wS.alloc (.cells #[.int .i64 kd, .int .i64 0, .int .i64 0, .int .i64 0, .int .i64 0] 108)) := ⟨Blk.new wS 108 _, (World.grownBy_alloc wS _ none), Nat.le_refl _⟩
        obtain ⟨w1, hw1⟩ : ∃ q, q = wS.alloc (.cells #[.int .i64 kd, .int .i64 0, .int .i64 0, .int .i64 0, .int .i64 0] 108) := ⟨_, rfl⟩
        rw [← hw1] at g1 ⊢
        obtain ⟨gR, hgR⟩ : ∃ q, q = wS.heap.size := ⟨_, rfl⟩
        rw [← hgR] at g1 ⊢
        clear hw1 y0 s0 hrem hrem2 HY0
        have HGR := hide hgR
        clear hgR
        have k0 := g1.r.cell 0
        simp only [rC, List.getElem?_toArray, List.getElem?_cons_zero, List.getElem?_cons_succ] at k0
        rcases hkk with rfl | rfl | rfl | rfl | rfl
        · -- kind 1
          have s3 := (hS.grown g1.g (by simp)).cell 3
          have k3 := g1.r.cell 3
          have f3 := g1.r.frozen 3
          simp only [rC, List.getElem?_toArray, List.getElem?_cons_zero, List.getElem?_cons_succ] at s3 k3
          go_upto_region 12 with fail
          have g9 := g1.set (k' := 1) (fr' := 0) (td' := 0) (a' := (xa : Int)) (b' := 0) 3 (.int .i64 (xa : Int)) rfl
          obtain ⟨Wf, hWf⟩ : ∃ q, q = w1.setCell ⟨gR, 3, none⟩ (.int .i64 (xa : Int)) := ⟨_, rfl⟩
          rw [← hWf] at g9 ⊢
          clear hWf g1 k0 k3 f3 s3
          have HGEN := hide (show spR K ⟨xk, xf, xl, xa, xok⟩ = ⟨1, 0, 0, (xa : Int), 0⟩ by unfold spR; rw [← HKD.out]; simp)
          have oA := oS.grown g9.g (fun _ _ e => by cases e)
          have hbW := g9.below hbS hbS.size
          have hR := Rd.newAt (e := eRu) Wf 108 (⟨1, 0, 0, (xa : Int), 0⟩ : Ru) (rC (1) (0) (0) ((xa : Int)) (0)) rfl Wf.heap.size rfl
          simp only [rC] at hR
          have hBlk := g9.r
          simp only [rC] at hBlk
          go_wp2_with (first | (refine wl_load (o := ⟨some 68, _, _, _, _, _⟩) rfl 108 _ rfl gR rfl 108 #[.int .i64 (1), .int .i64 (0), .int .i64 (0), .int .i64 ((xa : Int)), .int .i64 (0)] _ hBlk Try.underlying108 rfl (by kernel_rfl) ?_) | (at_builtin; refine wl_app eRu _ rfl (.tmp 67) (.tmp 69) _ rfl wB.heap.size 108 (.agg #[.int .i64 0, .int .i64 0, .int .i64 0, .int .i64 0, .int .i64 0]) 40 Try.underlying59 info_ru rfl (by omega) _ _ _ _ (by rfl) (oA.alloc _) _ 1 1 [⟨1, 0, 0, (xa : Int), 0⟩] (by rfl) _ hR (by omega) (by have := hbW.size; simp; omega) ?_; intro A5 c5 w5 o9 hg9 hA5))
          go_roundw
          case rel => exact ⟨k + 1, A5, c5, by omega, by omega, by go_num, rfl, by rw [spT_snoc HX.out, HGEN.out]; exact o9, below_app (hbW.alloc hbW.size _) (oA.alloc _) hg9 (Nat.le_refl _) (Nat.le_refl _)⟩
          case measure => simp [intOf] <;> omega
        · -- kind 2
          have s3 := (hS.grown g1.g (by simp)).cell 3
          have k3 := g1.r.cell 3
          have f3 := g1.r.frozen 3
          simp only [rC, List.getElem?_toArray, List.getElem?_cons_zero, List.getElem?_cons_succ] at s3 k3
          go_upto_region 12 with fail
          have g9 := g1.set (k' := 2) (fr' := 0) (td' := 0) (a' := (xa : Int)) (b' := 0) 3 (.int .i64 (xa : Int)) rfl
          obtain ⟨Wf, hWf⟩ : ∃ q, q = w1.setCell ⟨gR, 3, none⟩ (.int .i64 (xa : Int)) := ⟨_, rfl⟩
          rw [← hWf] at g9 ⊢
          clear hWf g1 k0 k3 f3 s3
          have HGEN := hide (show spR K ⟨xk, xf, xl, xa, xok⟩ = ⟨2, 0, 0, (xa : Int), 0⟩ by unfold spR; rw [← HKD.out]; simp)
          have oA := oS.grown g9.g (fun _ _ e => by cases e)
          have hbW := g9.below hbS hbS.size
          have hR := Rd.newAt (e := eRu) Wf 108 (⟨2, 0, 0, (xa : Int), 0⟩ : Ru) (rC (2) (0) (0) ((xa : Int)) (0)) rfl Wf.heap.size rfl
          simp only [rC] at hR
          have hBlk := g9.r
          simp only [rC] at hBlk
          go_wp2_with (first | (refine wl_load (o := ⟨some 68, _, _, _, _, _⟩) rfl 108 _ rfl gR rfl 108 #[.int .i64 (2), .int .i64 (0), .int .i64 (0), .int .i64 ((xa : Int)), .int .i64 (0)] _ hBlk Try.underlying108 rfl (by kernel_rfl) ?_) | (at_builtin; refine wl_app eRu _ rfl (.tmp 67) (.tmp 69) _ rfl wB.heap.size 108 (.agg #[.int .i64 0, .int .i64 0, .int .i64 0, .int .i64 0, .int .i64 0]) 40 Try.underlying59 info_ru rfl (by omega) _ _ _ _ (by rfl) (oA.alloc _) _ 1 1 [⟨2, 0, 0, (xa : Int), 0⟩] (by rfl) _ hR (by omega) (by have := hbW.size; simp; omega) ?_; intro A5 c5 w5 o9 hg9 hA5))
          go_roundw
          case rel => exact ⟨k + 1, A5, c5, by omega, by omega, by go_num, rfl, by rw [spT_snoc HX.out, HGEN.out]; exact o9, below_app (hbW.alloc hbW.size _) (oA.alloc _) hg9 (Nat.le_refl _) (Nat.le_refl _)⟩
          case measure => simp [intOf] <;> omega
        · -- kind 4
          have s1 := (hS.grown g1.g (by simp)).cell 1
          have k1 := g1.r.cell 1
          have f1 := g1.r.frozen 1
          simp only [rC, List.getElem?_toArray, List.getElem?_cons_zero, List.getElem?_cons_succ] at s1 k1
          go_upto_region 9 with fail
          have g2 := g1.set (k' := 4) (fr' := (xf : Int)) (td' := 0) (a' := 0) (b' := 0) 1 (.int .i64 (xf : Int)) rfl
          obtain ⟨w2, hw2⟩ : ∃ q, q = w1.setCell ⟨gR, 1, none⟩ (.int .i64 (xf : Int)) := ⟨_, rfl⟩
          rw [← hw2] at g2 ⊢
          clear hw2 g1 k0 k1 f1 s1
          have k1 := g2.r.cell 1
          have k2 := g2.r.cell 2
          have f2 := g2.r.frozen 2
          have s2 := (hS.grown g2.g (by simp)).cell 2
          simp only [rC, List.getElem?_toArray, List.getElem?_cons_zero, List.getElem?_cons_succ] at s2 k1 k2
          have hwr : IntKind.i64.wrap ((xf : Int) + (xl : Int)) = (xf : Int) + (xl : Int) := by simp only [IntKind.wrap, IntKind.bits, IntKind.signed]; simp; omega
          go_upto_region 10 with fail
          have g3 := g2.set (k' := 4) (fr' := (xf : Int)) (td' := (xf : Int) + (xl : Int)) (a' := 0) (b' := 0) 2 (.int .i64 ((xf : Int) + (xl : Int))) rfl
          obtain ⟨w3, hw3⟩ : ∃ q, q = w2.setCell ⟨gR, 2, none⟩ (.int .i64 ((xf : Int) + (xl : Int))) := ⟨_, rfl⟩
          rw [← hw3] at g3 ⊢
          clear hw3 g2 k1 k2 f2 s2 hwr
          have k0 := g3.r.cell 0
          simp only [rC, List.getElem?_toArray, List.getElem?_cons_zero, List.getElem?_cons_succ] at k0
          have s3 := (hS.grown g3.g (by simp)).cell 3
          have k3 := g3.r.cell 3
          have f3 := g3.r.frozen 3
          simp only [rC, List.getElem?_toArray, List.getElem?_cons_zero, List.getElem?_cons_succ] at s3 k3
          go_upto_region 12 with fail
          have g9 := g3.set (k' := 4) (fr' := (xf : Int)) (td' := (xf : Int) + (xl : Int)) (a' := (xa : Int)) (b' := 0) 3 (.int .i64 (xa : Int)) rfl
          obtain ⟨Wf, hWf⟩ : ∃ q, q = w3.setCell ⟨gR, 3, none⟩ (.int .i64 (xa : Int)) := ⟨_, rfl⟩
          rw [← hWf] at g9 ⊢
          clear hWf g3 k0 k3 f3 s3
          have HGEN := hide (show spR K ⟨xk, xf, xl, xa, xok⟩ = ⟨4, (xf : Int), (xf : Int) + (xl : Int), (xa : Int), 0⟩ by unfold spR; rw [← HKD.out]; simp)
          have oA := oS.grown g9.g (fun _ _ e => by cases e)
          have hbW := g9.below hbS hbS.size
          have hR := Rd.newAt (e := eRu) Wf 108 (⟨4, (xf : Int), (xf : Int) + (xl : Int), (xa : Int), 0⟩ : Ru) (rC (4) ((xf : Int)) ((xf : Int) + (xl : Int)) ((xa : Int)) (0)) rfl Wf.heap.size rfl
          simp only [rC] at hR
          have hBlk := g9.r
          simp only [rC] at hBlk
          go_wp2_with (first | (refine wl_load (o := ⟨some 68, _, _, _, _, _⟩) rfl 108 _ rfl gR rfl 108 #[.int .i64 (4), .int .i64 ((xf : Int)), .int .i64 ((xf : Int) + (xl : Int)), .int .i64 ((xa : Int)), .int .i64 (0)] _ hBlk Try.underlying108 rfl (by kernel_rfl) ?_) | (at_builtin; refine wl_app eRu _ rfl (.tmp 67) (.tmp 69) _ rfl wB.heap.size 108 (.agg #[.int .i64 0, .int .i64 0, .int .i64 0, .int .i64 0, .int .i64 0]) 40 Try.underlying59 info_ru rfl (by omega) _ _ _ _ (by rfl) (oA.alloc _) _ 1 1 [⟨4, (xf : Int), (xf : Int) + (xl : Int), (xa : Int), 0⟩] (by rfl) _ hR (by omega) (by have := hbW.size; simp; omega) ?_; intro A5 c5 w5 o9 hg9 hA5))
          go_roundw
          case rel => exact ⟨k + 1, A5, c5, by omega, by omega, by go_num, rfl, by rw [spT_snoc HX.out, HGEN.out]; exact o9, below_app (hbW.alloc hbW.size _) (oA.alloc _) hg9 (Nat.le_refl _) (Nat.le_refl _)⟩
          case measure => simp [intOf] <;> omega
        · -- kind 5
          have s1 := (hS.grown g1.g (by simp)).cell 1
          have k1 := g1.r.cell 1
          have f1 := g1.r.frozen 1
          simp only [rC, List.getElem?_toArray, List.getElem?_cons_zero, List.getElem?_cons_succ] at s1 k1
          go_upto_region 9 with fail
          have g2 := g1.set (k' := 5) (fr' := (xf : Int)) (td' := 0) (a' := 0) (b' := 0) 1 (.int .i64 (xf : Int)) rfl
          obtain ⟨w2, hw2⟩ : ∃ q, q = w1.setCell ⟨gR, 1, none⟩ (.int .i64 (xf : Int)) := ⟨_, rfl⟩
          rw [← hw2] at g2 ⊢
          clear hw2 g1 k0 k1 f1 s1
          have k1 := g2.r.cell 1
          have k2 := g2.r.cell 2
          have f2 := g2.r.frozen 2
          have s2 := (hS.grown g2.g (by simp)).cell 2
          simp only [rC, List.getElem?_toArray, List.getElem?_cons_zero, List.getElem?_cons_succ] at s2 k1 k2
          have hwr : IntKind.i64.wrap ((xf : Int) + (xl : Int)) = (xf : Int) + (xl : Int) := by simp only [IntKind.wrap, IntKind.bits, IntKind.signed]; simp; omega
          go_upto_region 10 with fail
          have g3 := g2.set (k' := 5) (fr' := (xf : Int)) (td' := (xf : Int) + (xl : Int)) (a' := 0) (b' := 0) 2 (.int .i64 ((xf : Int) + (xl : Int))) rfl
          obtain ⟨w3, hw3⟩ : ∃ q, q = w2.setCell ⟨gR, 2, none⟩ (.int .i64 ((xf : Int) + (xl : Int))) := ⟨_, rfl⟩
          rw [← hw3] at g3 ⊢
          clear hw3 g2 k1 k2 f2 s2 hwr
          have k0 := g3.r.cell 0
          simp only [rC, List.getElem?_toArray, List.getElem?_cons_zero, List.getElem?_cons_succ] at k0
          go_upto_region 12 with fail
          have g9 := g3
          obtain ⟨Wf, hWf⟩ : ∃ q, q = w3 := ⟨_, rfl⟩
          rw [← hWf] at g9 ⊢
          clear hWf g3 k0
          have HGEN := hide (show spR K ⟨xk, xf, xl, xa, xok⟩ = ⟨5, (xf : Int), (xf : Int) + (xl : Int), 0, 0⟩ by unfold spR; rw [← HKD.out]; simp)
          have oA := oS.grown g9.g (fun _ _ e => by cases e)
          have hbW := g9.below hbS hbS.size
          have hR := Rd.newAt (e := eRu) Wf 108 (⟨5, (xf : Int), (xf : Int) + (xl : Int), 0, 0⟩ : Ru) (rC (5) ((xf : Int)) ((xf : Int) + (xl : Int)) (0) (0)) rfl Wf.heap.size rfl
          simp only [rC] at hR
          have hBlk := g9.r
          simp only [rC] at hBlk
          go_wp2_with (first | (refine wl_load (o := ⟨some 68, _, _, _, _, _⟩) rfl 108 _ rfl gR rfl 108 #[.int .i64 (5), .int .i64 ((xf : Int)), .int .i64 ((xf : Int) + (xl : Int)), .int .i64 (0), .int .i64 (0)] _ hBlk Try.underlying108 rfl (by kernel_rfl) ?_) | (at_builtin; refine wl_app eRu _ rfl (.tmp 67) (.tmp 69) _ rfl wB.heap.size 108 (.agg #[.int .i64 0, .int .i64 0, .int .i64 0, .int .i64 0, .int .i64 0]) 40 Try.underlying59 info_ru rfl (by omega) _ _ _ _ (by rfl) (oA.alloc _) _ 1 1 [⟨5, (xf : Int), (xf : Int) + (xl : Int), 0, 0⟩] (by rfl) _ hR (by omega) (by have := hbW.size; simp; omega) ?_; intro A5 c5 w5 o9 hg9 hA5))
          go_roundw
          case rel => exact ⟨k + 1, A5, c5, by omega, by omega, by go_num, rfl, by rw [spT_snoc HX.out, HGEN.out]; exact o9, below_app (hbW.alloc hbW.size _) (oA.alloc _) hg9 (Nat.le_refl _) (Nat.le_refl _)⟩
          case measure => simp [intOf] <;> omega
        · -- kind 6
          have s1 := (hS.grown g1.g (by simp)).cell 1
          have k1 := g1.r.cell 1
          have f1 := g1.r.frozen 1
          simp only [rC, List.getElem?_toArray, List.getElem?_cons_zero, List.getElem?_cons_succ] at s1 k1
          go_upto_region 9 with fail
          have g2 := g1.set (k' := 6) (fr' := (xf : Int)) (td' := 0) (a' := 0) (b' := 0) 1 (.int .i64 (xf : Int)) rfl
          obtain ⟨w2, hw2⟩ : ∃ q, q = w1.setCell ⟨gR, 1, none⟩ (.int .i64 (xf : Int)) := ⟨_, rfl⟩
          rw [← hw2] at g2 ⊢
          clear hw2 g1 k0 k1 f1 s1
          have k1 := g2.r.cell 1
          have k2 := g2.r.cell 2
          have f2 := g2.r.frozen 2
          have s2 := (hS.grown g2.g (by simp)).cell 2
          simp only [rC, List.getElem?_toArray, List.getElem?_cons_zero, List.getElem?_cons_succ] at s2 k1 k2
          have hwr : IntKind.i64.wrap ((xf : Int) + (xl : Int)) = (xf : Int) + (xl : Int) := by simp only [IntKind.wrap, IntKind.bits, IntKind.signed]; simp; omega
          go_upto_region 10 with fail
          have g3 := g2.set (k' := 6) (fr' := (xf : Int)) (td' := (xf : Int) + (xl : Int)) (a' := 0) (b' := 0) 2 (.int .i64 ((xf : Int) + (xl : Int))) rfl
          obtain ⟨w3, hw3⟩ : ∃ q, q = w2.setCell ⟨gR, 2, none⟩ (.int .i64 ((xf : Int) + (xl : Int))) := ⟨_, rfl⟩
          rw [← hw3] at g3 ⊢
          clear hw3 g2 k1 k2 f2 s2 hwr
          have k0 := g3.r.cell 0
          simp only [rC, List.getElem?_toArray, List.getElem?_cons_zero, List.getElem?_cons_succ] at k0
          have s3 := (hS.grown g3.g (by simp)).cell 3
          have k3 := g3.r.cell 3
          have f3 := g3.r.frozen 3
          simp only [rC, List.getElem?_toArray, List.getElem?_cons_zero, List.getElem?_cons_succ] at s3 k3
          go_upto_region 12 with fail
          have g9 := g3.set (k' := 6) (fr' := (xf : Int)) (td' := (xf : Int) + (xl : Int)) (a' := (xa : Int)) (b' := 0) 3 (.int .i64 (xa : Int)) rfl
          obtain ⟨Wf, hWf⟩ : ∃ q, q = w3.setCell ⟨gR, 3, none⟩ (.int .i64 (xa : Int)) := ⟨_, rfl⟩
          rw [← hWf] at g9 ⊢
          clear hWf g3 k0 k3 f3 s3
          have HGEN := hide (show spR K ⟨xk, xf, xl, xa, xok⟩ = ⟨6, (xf : Int), (xf : Int) + (xl : Int), (xa : Int), 0⟩ by unfold spR; rw [← HKD.out]; simp)
          have oA := oS.grown g9.g (fun _ _ e => by cases e)
          have hbW := g9.below hbS hbS.size
          have hR := Rd.newAt (e := eRu) Wf 108 (⟨6, (xf : Int), (xf : Int) + (xl : Int), (xa : Int), 0⟩ : Ru) (rC (6) ((xf : Int)) ((xf : Int) + (xl : Int)) ((xa : Int)) (0)) rfl Wf.heap.size rfl
          simp only [rC] at hR
          have hBlk := g9.r
          simp only [rC] at hBlk
          go_wp2_with (first | (refine wl_load (o := ⟨some 68, _, _, _, _, _⟩) rfl 108 _ rfl gR rfl 108 #[.int .i64 (6), .int .i64 ((xf : Int)), .int .i64 ((xf : Int) + (xl : Int)), .int .i64 ((xa : Int)), .int .i64 (0)] _ hBlk Try.underlying108 rfl (by kernel_rfl) ?_) | (at_builtin; refine wl_app eRu _ rfl (.tmp 67) (.tmp 69) _ rfl wB.heap.size 108 (.agg #[.int .i64 0, .int .i64 0, .int .i64 0, .int .i64 0, .int .i64 0]) 40 Try.underlying59 info_ru rfl (by omega) _ _ _ _ (by rfl) (oA.alloc _) _ 1 1 [⟨6, (xf : Int), (xf : Int) + (xl : Int), (xa : Int), 0⟩] (by rfl) _ hR (by omega) (by have := hbW.size; simp; omega) ?_; intro A5 c5 w5 o9 hg9 hA5))
          go_roundw
          case rel => exact ⟨k + 1, A5, c5, by omega, by omega, by go_num, rfl, by rw [spT_snoc HX.out, HGEN.out]; exact o9, below_app (hbW.alloc hbW.size _) (oA.alloc _) hg9 (Nat.le_refl _) (Nat.le_refl _)⟩
          case measure => simp [intOf] <;> omega
      · have HR := hide o1.rd
        have HG := hide (show spT K sh S k = spL K sh S by rw [show k = 20 by omega]; rfl)
        go_wp2
        go_ret
        exact ⟨A1, k + 1, c1, rfl, by rw [← HG.out]; exact HR.out, below_on hb0 hbw⟩
    · have HR := hide o1.rd
      have HG := hide (show spT K sh S k = spL K sh S by unfold spT spL; rw [List.take_of_length_le (by have := HL.out; omega), List.take_of_length_le (by have := HL.out; omega)])
      go_wp2
      go_ret
      exact ⟨A1, k + 1, c1, rfl, by rw [← HG.out]; exact HR.out, below_on hb0 hbw⟩
end Go.Proofs.Ytchhkokpjdkkiaa
