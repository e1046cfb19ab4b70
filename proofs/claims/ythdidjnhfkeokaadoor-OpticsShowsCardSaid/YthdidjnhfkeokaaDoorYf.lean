/- Contract of the law's rules. -/
import Derived.Test.YthdidjnhfkeokaaDoorYr
import Derived.Test.YthdidjnhfkeokaaDoorQp
import Derived.Deep.RegionHeld3
import Derived.Deep.DrawnRows
import Derived.Deep.RegionLaw
namespace Go.Proofs.YthdidjnhfkeokaaDoor
open Go.RowKit

theorem info_ru : (Tryd.prog.info? 62).map (fun i => (i.zero, i.size, i.bytes)) = some (some (.agg #[.int .i64 0, .int .i64 0, .int .i64 0, .int .i64 0, .int .i64 0]), 5, 40) := by kernel_rfl
def rC (k fr td a b : Int) : Array Value := #[.int .i64 k, .int .i64 fr, .int .i64 td, .int .i64 a, .int .i64 b]
theorem grownBy_setN {w w' : World} (h : w.grownBy w' none) {p : Addr} (hp : w.heap.size ≤ p.block) (u : Value) : w.grownBy (w'.setCell p u) none :=
  ⟨h.os, h.tape, h.output, by simpa [World.setCell] using h.size, fun i hi hne => (Below.heap_setCell w' p u i (fun e => by omega)).trans (h.block i hi hne)⟩
/-- The rule that a round makes lies in a block of its own. -/
structure GR (wr : World) (gR : Nat) (k fr td a b : Int) (W : World) : Prop where
  r : Blk W gR 62 (rC k fr td a b)
  g : wr.grownBy W none
  n : wr.heap.size ≤ gR
section
variable {wr W : World} {gR : Nat} {k fr td a b : Int}
theorem GR.set (h : GR wr gR k fr td a b W) {k' fr' td' a' b' : Int} (i : Nat) (v : Value) (hx : (rC k fr td a b).setIfInBounds i v = rC k' fr' td' a' b') : GR wr gR k' fr' td' a' b' (W.setCell ⟨gR, i, none⟩ v) :=
  ⟨hx ▸ h.r.set_ i v, grownBy_setN h.g h.n v, h.n⟩
theorem GR.drew (h : GR wr gR k fr td a b W) : GR wr gR k fr td a b W.drew := ⟨h.r.drew, grownBy_drew h.g, h.n⟩
theorem GR.below (h : GR wr gR k fr td a b W) {B : Nat} {w : World} (hb : Below B w wr) (hB : B ≤ wr.heap.size) : Below B w W :=
  ⟨h.g.os.trans hb.os, h.g.tape.trans hb.tape, h.g.output.trans hb.output, Nat.le_trans hb.size h.g.size, fun i hi => (h.g.block i (by omega) (by simp)).trans (hb.block i hi)⟩
end
def SRules (K : List Int) (S : List Sp) (w : World) (e : Ending) (w' : World) : Prop :=
  ∃ A n c, e = .returned (.slice A n c) ∧ Rd eRu w' w'.heap.size A n c (genL K S) ∧ Below w.heap.size w w'

set_option maxRecDepth 100000 in
set_option maxHeartbeats 6400000 in
theorem rules_c (K : List Int) (hK : OkK K) (S : List Sp) (A : Option Addr) (n c : Nat) (A' : Option Addr) (m c' : Nat) (w : World) (r : Rd eSp w w.heap.size A n c S) (q : Rd eInt w w.heap.size A' m c' K) :
    Calls Tryd.prog 16 #[.slice A n c, .slice A' m c'] w (SRules K S w) := by
  have hm := r.max
  have hcap := r.cap
  have HL := hide r.len
  have hm' := q.max
  have hcap' := q.cap
  have HKL := hide q.len
  have hm0 : 0 < m := by have := HKL.out; have := hK.1; omega
  have hm6 : m ≤ 6 := by have := HKL.out; have := hK.2.1; omega
  have hm1 : ((m : Int) == 0) = false := by simp; omega
  have HK := hide hK
  clear hK
  go_enter Tryd.func16, Tryd.ntmps16
  go_wp2
  go_loopw [6, 5] (fun iv ov wr => ∃ (k : Nat) (A1 : Option Addr) (c1 : Nat), k ≤ n ∧ k ≤ 32 ∧ iv = .int .i64 k ∧ ov = .slice A1 k c1 ∧ Ow eRu wr w.heap.size 62 A1 k c1 ((S.take k).map (genR K)) ∧ Below w.heap.size w wr) (fun iv _ _ => n - (intOf iv).toNat)
  case atStart => exact ⟨0, none, 0, by omega, by omega, rfl, rfl, Ow.nil _ _ _, Below.refl _ _⟩
  case round =>
    obtain ⟨k, A1, c1, hk, hk32, rfl, rfl, o1, hbw⟩ := hrel
    by_cases hlt : k < n
    · by_cases hlt2 : k < 32
      · obtain ⟨b, off, x, rfl, hb, hx, hc⟩ := r.get hlt
        have HC := hide (show ∀ W, Below w.heap.size w W → ∀ (j : Nat) (v : Value), (eSp.cells x)[j]? = some v → W.cell? ⟨b, off + k * eSp.nf + j, none⟩ = some v from fun W hW j v hv => (hW.cell hb).trans (hc j v hv))
        have HX := hide hx
        clear hc hx
        obtain ⟨j, hj⟩ : ∃ j, j = x.k % m := ⟨_, rfl⟩
        have hjm : j < m := by rw [hj]; exact Nat.mod_lt _ hm0
        obtain ⟨b', off', kd, rfl, hb', hy, hc'⟩ := q.get hjm
        have hkd : kd = kindOf K x := by
          have h1 := kindOf_get HK.out x
          rw [HKL.out, ← hj, hy] at h1
          exact Option.some.inj h1
        have hkk := HK.out.2.2 _ (kindOf_mem HK.out x)
        rw [← hkd] at hkk
        have HKD := hide hkd
        have y0 := (hbw.cell hb').trans (hc' 0 _ rfl)
        have x0 := HC.out wr hbw 0 _ rfl
        simp only [eInt, eSp, Nat.add_zero, Nat.mul_one] at y0 x0
        have hxb := x.ok
        clear hc' hy hkd
        have hrem : (x.k : Int) % (m : Int) = (j : Int) := by rw [hj]; rfl
        have hrem2 : (x.k : Int).tmod (m : Int) = (j : Int) := by rw [hj]; rfl
        have HJ := hide hj
        clear hj
        go_upto_region 6 with fail
        have g1 : GR wr wr.heap.size kd 0 0 0 0 (wr.alloc (.cells #[.int .i64 kd, .int .i64 0, .int .i64 0, .int .i64 0, .int .i64 0] 62)) := ⟨Blk.new wr 62 _, (World.grownBy_alloc wr _ none), Nat.le_refl _⟩
        obtain ⟨w1, hw1⟩ : ∃ q, q = wr.alloc (.cells #[.int .i64 kd, .int .i64 0, .int .i64 0, .int .i64 0, .int .i64 0] 62) := ⟨_, rfl⟩
        rw [← hw1] at g1 ⊢
        obtain ⟨gR, hgR⟩ : ∃ q, q = wr.heap.size := ⟨_, rfl⟩
        rw [← hgR] at g1 ⊢
        clear hw1 x0 y0
        have hgb : b ≠ gR := by have := hbw.size; have := hb; omega
        have HGR := hide hgR
        clear hgR hrem hrem2
        have hB1 := g1.below hbw hbw.size
        have x0 := HC.out w1 hB1 1 _ rfl
        have k0 := g1.r.cell 0
        have f1 := g1.r.frozen 1
        have k1 := g1.r.cell 1
        simp only [eSp, rC, List.getElem?_toArray, List.getElem?_cons_zero, List.getElem?_cons_succ] at x0 k0 k1
        rcases hkk with rfl | rfl | rfl | rfl | rfl | rfl
        · -- a kind
          have x3 := HC.out w1 hB1 3 _ rfl
          have f3 := g1.r.frozen 3
          have k3 := g1.r.cell 3
          simp only [eSp, rC, List.getElem?_toArray, List.getElem?_cons_zero, List.getElem?_cons_succ] at x3 k3
          go_upto_region 14 with fail
          have g9 := g1.set (k' := 1) (fr' := 0) (td' := 0) (a' := (x.a : Int)) (b' := 0) 3 (.int .i64 (x.a : Int)) rfl
          obtain ⟨Wf, hWf⟩ : ∃ q, q = w1.setCell ⟨gR, 3, none⟩ (.int .i64 (x.a : Int)) := ⟨_, rfl⟩
          rw [← hWf] at g9 ⊢
          clear hWf g1 k0 k1 k3 f1 f3 x0 x3 hB1
          have HGEN := hide (show genR K x = ⟨1, 0, 0, (x.a : Int), 0⟩ by unfold genR; rw [← HKD.out]; simp)
          have oA := o1.grown g9.g (fun _ _ e => by cases e)
          have hbW := g9.below hbw hbw.size
          have hR := Rd.newAt (e := eRu) Wf 62 (⟨1, 0, 0, (x.a : Int), 0⟩ : Ru) (rC (1) (0) (0) ((x.a : Int)) (0)) rfl Wf.heap.size rfl
          simp only [rC] at hR
          have hBlk := g9.r
          simp only [rC] at hBlk
          go_wp2_with (first | (refine wl_load (o := ⟨some 86, _, _, _, _, _⟩) rfl 62 _ rfl gR rfl 62 #[.int .i64 (1), .int .i64 (0), .int .i64 (0), .int .i64 ((x.a : Int)), .int .i64 (0)] _ hBlk Tryd.underlying62 rfl (by kernel_rfl) ?_) | (at_builtin; refine wl_app eRu _ rfl (.tmp 85) (.tmp 87) _ rfl w.heap.size 62 (.agg #[.int .i64 0, .int .i64 0, .int .i64 0, .int .i64 0, .int .i64 0]) 40 Tryd.underlying45 info_ru rfl (by omega) _ _ _ _ (by rfl) (oA.alloc _) _ 1 1 [⟨1, 0, 0, (x.a : Int), 0⟩] (by rfl) _ hR (by omega) (by have := hbW.size; simp; omega) ?_; intro A5 c5 w9 o9 hg9 hA9))
          go_roundw
          case rel => exact ⟨k + 1, A5, c5, by omega, by omega, by go_num, rfl, by rw [genL_snoc HX.out, HGEN.out]; exact o9, below_app (hbW.alloc hbW.size _) (oA.alloc _) hg9 (Nat.le_refl _) (Nat.le_refl _)⟩
          case measure => simp [intOf] <;> omega
        · -- a kind
          have x3 := HC.out w1 hB1 3 _ rfl
          have f3 := g1.r.frozen 3
          have k3 := g1.r.cell 3
          simp only [eSp, rC, List.getElem?_toArray, List.getElem?_cons_zero, List.getElem?_cons_succ] at x3 k3
          go_upto_region 14 with fail
          have g9 := g1.set (k' := 2) (fr' := 0) (td' := 0) (a' := (x.a : Int)) (b' := 0) 3 (.int .i64 (x.a : Int)) rfl
          obtain ⟨Wf, hWf⟩ : ∃ q, q = w1.setCell ⟨gR, 3, none⟩ (.int .i64 (x.a : Int)) := ⟨_, rfl⟩
          rw [← hWf] at g9 ⊢
          clear hWf g1 k0 k1 k3 f1 f3 x0 x3 hB1
          have HGEN := hide (show genR K x = ⟨2, 0, 0, (x.a : Int), 0⟩ by unfold genR; rw [← HKD.out]; simp)
          have oA := o1.grown g9.g (fun _ _ e => by cases e)
          have hbW := g9.below hbw hbw.size
          have hR := Rd.newAt (e := eRu) Wf 62 (⟨2, 0, 0, (x.a : Int), 0⟩ : Ru) (rC (2) (0) (0) ((x.a : Int)) (0)) rfl Wf.heap.size rfl
          simp only [rC] at hR
          have hBlk := g9.r
          simp only [rC] at hBlk
          go_wp2_with (first | (refine wl_load (o := ⟨some 86, _, _, _, _, _⟩) rfl 62 _ rfl gR rfl 62 #[.int .i64 (2), .int .i64 (0), .int .i64 (0), .int .i64 ((x.a : Int)), .int .i64 (0)] _ hBlk Tryd.underlying62 rfl (by kernel_rfl) ?_) | (at_builtin; refine wl_app eRu _ rfl (.tmp 85) (.tmp 87) _ rfl w.heap.size 62 (.agg #[.int .i64 0, .int .i64 0, .int .i64 0, .int .i64 0, .int .i64 0]) 40 Tryd.underlying45 info_ru rfl (by omega) _ _ _ _ (by rfl) (oA.alloc _) _ 1 1 [⟨2, 0, 0, (x.a : Int), 0⟩] (by rfl) _ hR (by omega) (by have := hbW.size; simp; omega) ?_; intro A5 c5 w9 o9 hg9 hA9))
          go_roundw
          case rel => exact ⟨k + 1, A5, c5, by omega, by omega, by go_num, rfl, by rw [genL_snoc HX.out, HGEN.out]; exact o9, below_app (hbW.alloc hbW.size _) (oA.alloc _) hg9 (Nat.le_refl _) (Nat.le_refl _)⟩
          case measure => simp [intOf] <;> omega
        · -- a kind
          go_upto_region 8 with fail
          have g2 := g1.set (k' := 4) (fr' := (x.fr : Int)) (td' := 0) (a' := 0) (b' := 0) 1 (.int .i64 (x.fr : Int)) rfl
          obtain ⟨w2, hw2⟩ : ∃ q, q = w1.setCell ⟨gR, 1, none⟩ (.int .i64 (x.fr : Int)) := ⟨_, rfl⟩
          rw [← hw2] at g2 ⊢
          clear hw2 g1 k0 k1 f1 x0 hB1
          have hB2 := g2.below hbw hbw.size
          have HWR := hide (show IntKind.i64.wrap ((x.fr : Int) + IntKind.i64.wrap (x.ln : Int)) = (x.fr : Int) + (x.ln : Int) by simp only [IntKind.wrap, IntKind.bits, IntKind.signed]; simp; omega)
          have g3 := g2.set (k' := 4) (fr' := (x.fr : Int)) (td' := (x.fr : Int) + (x.ln : Int)) (a' := 0) (b' := 0) 2 (.int .i64 (IntKind.i64.wrap ((x.fr : Int) + IntKind.i64.wrap (x.ln : Int)))) (by rw [HWR.out]; rfl)
          have hB3 := g3.below hbw hbw.size
          have x2 := HC.out w2 hB2 2 _ rfl
          have k1 := g2.r.cell 1
          have k2 := g2.r.cell 2
          have f2 := g2.r.frozen 2
          have x2d := HC.out _ (below_drewN hB2 1) 2 _ rfl
          simp only [eSp, rC, List.getElem?_toArray, List.getElem?_cons_zero, List.getElem?_cons_succ] at x2 k1 k2
          have HS := hide (show ∀ W, GR wr gR 4 (x.fr : Int) 0 0 0 W ∨ GR wr gR 4 (x.fr : Int) ((x.fr : Int) + (x.ln : Int)) 0 0 W → W.cell? ⟨b, off + k * 5 + 2, none⟩ = some (.int .u8 (x.ln : Int)) ∧ W.cell? ⟨gR, 1, none⟩ = some (.int .i64 (x.fr : Int)) from fun W h => by
            rcases h with h | h
            all_goals exact ⟨by simpa [eSp] using HC.out W (h.below hbw hbw.size) 2 _ rfl, by simpa [rC] using h.r.cell 1⟩)
          have G2 := hide g2
          have G3 := hide g3
          go_region_held3 (fun W => W.cell? ⟨b, off + k * 5 + 2, none⟩ = some (.int .u8 (x.ln : Int)) ∧ W.cell? ⟨gR, 1, none⟩ = some (.int .i64 (x.fr : Int))) (first | exact HS.out _ (.inl G2.out) | exact HS.out _ (.inl G2.out.drew) | exact HS.out _ (.inr G3.out) | exact HS.out _ (.inr G3.out.drew)) (fail)
          have g4 := G3.out.drew
          clear x2 k1 k2 f2 g2 g3 G2 G3 HS hB2 hB3 x2d
          obtain ⟨w4, hw4⟩ : ∃ q, q = (w2.setCell ⟨gR, 2, none⟩ (.int .i64 (IntKind.i64.wrap ((x.fr : Int) + IntKind.i64.wrap (x.ln : Int))))).drew := ⟨_, rfl⟩
          rw [← hw4] at g4 ⊢
          clear hw4
          have hB4 := g4.below hbw hbw.size
          have k0 := g4.r.cell 0
          have k3 := g4.r.cell 3
          have f3 := g4.r.frozen 3
          have x3 := HC.out w4 hB4 3 _ rfl
          simp only [eSp, rC, List.getElem?_toArray, List.getElem?_cons_zero, List.getElem?_cons_succ] at x3 k0 k3
          go_upto_region 14 with fail
          have g9 := g4.set (k' := 4) (fr' := (x.fr : Int)) (td' := (x.fr : Int) + (x.ln : Int)) (a' := (x.a : Int)) (b' := 0) 3 (.int .i64 (x.a : Int)) rfl
          obtain ⟨Wf, hWf⟩ : ∃ q, q = w4.setCell ⟨gR, 3, none⟩ (.int .i64 (x.a : Int)) := ⟨_, rfl⟩
          rw [← hWf] at g9 ⊢
          clear hWf g4 k0 k3 f3 x3 hB4
          have HGEN := hide (show genR K x = ⟨4, (x.fr : Int), (x.fr : Int) + (x.ln : Int), (x.a : Int), 0⟩ by unfold genR; rw [← HKD.out]; simp)
          have oA := o1.grown g9.g (fun _ _ e => by cases e)
          have hbW := g9.below hbw hbw.size
          have hR := Rd.newAt (e := eRu) Wf 62 (⟨4, (x.fr : Int), (x.fr : Int) + (x.ln : Int), (x.a : Int), 0⟩ : Ru) (rC (4) ((x.fr : Int)) ((x.fr : Int) + (x.ln : Int)) ((x.a : Int)) (0)) rfl Wf.heap.size rfl
          simp only [rC] at hR
          have hBlk := g9.r
          simp only [rC] at hBlk
          go_wp2_with (first | (refine wl_load (o := ⟨some 86, _, _, _, _, _⟩) rfl 62 _ rfl gR rfl 62 #[.int .i64 (4), .int .i64 ((x.fr : Int)), .int .i64 ((x.fr : Int) + (x.ln : Int)), .int .i64 ((x.a : Int)), .int .i64 (0)] _ hBlk Tryd.underlying62 rfl (by kernel_rfl) ?_) | (at_builtin; refine wl_app eRu _ rfl (.tmp 85) (.tmp 87) _ rfl w.heap.size 62 (.agg #[.int .i64 0, .int .i64 0, .int .i64 0, .int .i64 0, .int .i64 0]) 40 Tryd.underlying45 info_ru rfl (by omega) _ _ _ _ (by rfl) (oA.alloc _) _ 1 1 [⟨4, (x.fr : Int), (x.fr : Int) + (x.ln : Int), (x.a : Int), 0⟩] (by rfl) _ hR (by omega) (by have := hbW.size; simp; omega) ?_; intro A5 c5 w9 o9 hg9 hA9))
          go_roundw
          case rel => exact ⟨k + 1, A5, c5, by omega, by omega, by go_num, rfl, by rw [genL_snoc HX.out, HGEN.out]; exact o9, below_app (hbW.alloc hbW.size _) (oA.alloc _) hg9 (Nat.le_refl _) (Nat.le_refl _)⟩
          case measure => simp [intOf] <;> omega
        · -- a kind
          go_upto_region 8 with fail
          have g2 := g1.set (k' := 5) (fr' := (x.fr : Int)) (td' := 0) (a' := 0) (b' := 0) 1 (.int .i64 (x.fr : Int)) rfl
          obtain ⟨w2, hw2⟩ : ∃ q, q = w1.setCell ⟨gR, 1, none⟩ (.int .i64 (x.fr : Int)) := ⟨_, rfl⟩
          rw [← hw2] at g2 ⊢
          clear hw2 g1 k0 k1 f1 x0 hB1
          have hB2 := g2.below hbw hbw.size
          have HWR := hide (show IntKind.i64.wrap ((x.fr : Int) + IntKind.i64.wrap (x.ln : Int)) = (x.fr : Int) + (x.ln : Int) by simp only [IntKind.wrap, IntKind.bits, IntKind.signed]; simp; omega)
          have g3 := g2.set (k' := 5) (fr' := (x.fr : Int)) (td' := (x.fr : Int) + (x.ln : Int)) (a' := 0) (b' := 0) 2 (.int .i64 (IntKind.i64.wrap ((x.fr : Int) + IntKind.i64.wrap (x.ln : Int)))) (by rw [HWR.out]; rfl)
          have hB3 := g3.below hbw hbw.size
          have x2 := HC.out w2 hB2 2 _ rfl
          have k1 := g2.r.cell 1
          have k2 := g2.r.cell 2
          have f2 := g2.r.frozen 2
          have x2d := HC.out _ (below_drewN hB2 1) 2 _ rfl
          simp only [eSp, rC, List.getElem?_toArray, List.getElem?_cons_zero, List.getElem?_cons_succ] at x2 k1 k2
          have HS := hide (show ∀ W, GR wr gR 5 (x.fr : Int) 0 0 0 W ∨ GR wr gR 5 (x.fr : Int) ((x.fr : Int) + (x.ln : Int)) 0 0 W → W.cell? ⟨b, off + k * 5 + 2, none⟩ = some (.int .u8 (x.ln : Int)) ∧ W.cell? ⟨gR, 1, none⟩ = some (.int .i64 (x.fr : Int)) from fun W h => by
            rcases h with h | h
            all_goals exact ⟨by simpa [eSp] using HC.out W (h.below hbw hbw.size) 2 _ rfl, by simpa [rC] using h.r.cell 1⟩)
          have G2 := hide g2
          have G3 := hide g3
          go_region_held3 (fun W => W.cell? ⟨b, off + k * 5 + 2, none⟩ = some (.int .u8 (x.ln : Int)) ∧ W.cell? ⟨gR, 1, none⟩ = some (.int .i64 (x.fr : Int))) (first | exact HS.out _ (.inl G2.out) | exact HS.out _ (.inl G2.out.drew) | exact HS.out _ (.inr G3.out) | exact HS.out _ (.inr G3.out.drew)) (fail)
          have g4 := G3.out.drew
          clear x2 k1 k2 f2 g2 g3 G2 G3 HS hB2 hB3 x2d
          obtain ⟨w4, hw4⟩ : ∃ q, q = (w2.setCell ⟨gR, 2, none⟩ (.int .i64 (IntKind.i64.wrap ((x.fr : Int) + IntKind.i64.wrap (x.ln : Int))))).drew := ⟨_, rfl⟩
          rw [← hw4] at g4 ⊢
          clear hw4
          have hB4 := g4.below hbw hbw.size
          have k0 := g4.r.cell 0
          have k3 := g4.r.cell 3
          have f3 := g4.r.frozen 3
          have x3 := HC.out w4 hB4 3 _ rfl
          simp only [eSp, rC, List.getElem?_toArray, List.getElem?_cons_zero, List.getElem?_cons_succ] at x3 k0 k3
          go_upto_region 14 with fail
          have g9 := g4
          obtain ⟨Wf, hWf⟩ : ∃ q, q = w4 := ⟨_, rfl⟩
          rw [← hWf] at g9 ⊢
          clear hWf g4 k0 k3 f3 x3 hB4
          have HGEN := hide (show genR K x = ⟨5, (x.fr : Int), (x.fr : Int) + (x.ln : Int), 0, 0⟩ by unfold genR; rw [← HKD.out]; simp)
          have oA := o1.grown g9.g (fun _ _ e => by cases e)
          have hbW := g9.below hbw hbw.size
          have hR := Rd.newAt (e := eRu) Wf 62 (⟨5, (x.fr : Int), (x.fr : Int) + (x.ln : Int), 0, 0⟩ : Ru) (rC (5) ((x.fr : Int)) ((x.fr : Int) + (x.ln : Int)) (0) (0)) rfl Wf.heap.size rfl
          simp only [rC] at hR
          have hBlk := g9.r
          simp only [rC] at hBlk
          go_wp2_with (first | (refine wl_load (o := ⟨some 86, _, _, _, _, _⟩) rfl 62 _ rfl gR rfl 62 #[.int .i64 (5), .int .i64 ((x.fr : Int)), .int .i64 ((x.fr : Int) + (x.ln : Int)), .int .i64 (0), .int .i64 (0)] _ hBlk Tryd.underlying62 rfl (by kernel_rfl) ?_) | (at_builtin; refine wl_app eRu _ rfl (.tmp 85) (.tmp 87) _ rfl w.heap.size 62 (.agg #[.int .i64 0, .int .i64 0, .int .i64 0, .int .i64 0, .int .i64 0]) 40 Tryd.underlying45 info_ru rfl (by omega) _ _ _ _ (by rfl) (oA.alloc _) _ 1 1 [⟨5, (x.fr : Int), (x.fr : Int) + (x.ln : Int), 0, 0⟩] (by rfl) _ hR (by omega) (by have := hbW.size; simp; omega) ?_; intro A5 c5 w9 o9 hg9 hA9))
          go_roundw
          case rel => exact ⟨k + 1, A5, c5, by omega, by omega, by go_num, rfl, by rw [genL_snoc HX.out, HGEN.out]; exact o9, below_app (hbW.alloc hbW.size _) (oA.alloc _) hg9 (Nat.le_refl _) (Nat.le_refl _)⟩
          case measure => simp [intOf] <;> omega
        · -- a kind
          go_upto_region 8 with fail
          have g2 := g1.set (k' := 6) (fr' := (x.fr : Int)) (td' := 0) (a' := 0) (b' := 0) 1 (.int .i64 (x.fr : Int)) rfl
          obtain ⟨w2, hw2⟩ : ∃ q, q = w1.setCell ⟨gR, 1, none⟩ (.int .i64 (x.fr : Int)) := ⟨_, rfl⟩
          rw [← hw2] at g2 ⊢
          clear hw2 g1 k0 k1 f1 x0 hB1
          have hB2 := g2.below hbw hbw.size
          have HWR := hide (show IntKind.i64.wrap ((x.fr : Int) + IntKind.i64.wrap (x.ln : Int)) = (x.fr : Int) + (x.ln : Int) by simp only [IntKind.wrap, IntKind.bits, IntKind.signed]; simp; omega)
          have g3 := g2.set (k' := 6) (fr' := (x.fr : Int)) (td' := (x.fr : Int) + (x.ln : Int)) (a' := 0) (b' := 0) 2 (.int .i64 (IntKind.i64.wrap ((x.fr : Int) + IntKind.i64.wrap (x.ln : Int)))) (by rw [HWR.out]; rfl)
          have hB3 := g3.below hbw hbw.size
          have x2 := HC.out w2 hB2 2 _ rfl
          have k1 := g2.r.cell 1
          have k2 := g2.r.cell 2
          have f2 := g2.r.frozen 2
          have x2d := HC.out _ (below_drewN hB2 1) 2 _ rfl
          simp only [eSp, rC, List.getElem?_toArray, List.getElem?_cons_zero, List.getElem?_cons_succ] at x2 k1 k2
          have HS := hide (show ∀ W, GR wr gR 6 (x.fr : Int) 0 0 0 W ∨ GR wr gR 6 (x.fr : Int) ((x.fr : Int) + (x.ln : Int)) 0 0 W → W.cell? ⟨b, off + k * 5 + 2, none⟩ = some (.int .u8 (x.ln : Int)) ∧ W.cell? ⟨gR, 1, none⟩ = some (.int .i64 (x.fr : Int)) from fun W h => by
            rcases h with h | h
            all_goals exact ⟨by simpa [eSp] using HC.out W (h.below hbw hbw.size) 2 _ rfl, by simpa [rC] using h.r.cell 1⟩)
          have G2 := hide g2
          have G3 := hide g3
          go_region_held3 (fun W => W.cell? ⟨b, off + k * 5 + 2, none⟩ = some (.int .u8 (x.ln : Int)) ∧ W.cell? ⟨gR, 1, none⟩ = some (.int .i64 (x.fr : Int))) (first | exact HS.out _ (.inl G2.out) | exact HS.out _ (.inl G2.out.drew) | exact HS.out _ (.inr G3.out) | exact HS.out _ (.inr G3.out.drew)) (fail)
          have g4 := G3.out.drew
          clear x2 k1 k2 f2 g2 g3 G2 G3 HS hB2 hB3 x2d
          obtain ⟨w4, hw4⟩ : ∃ q, q = (w2.setCell ⟨gR, 2, none⟩ (.int .i64 (IntKind.i64.wrap ((x.fr : Int) + IntKind.i64.wrap (x.ln : Int))))).drew := ⟨_, rfl⟩
          rw [← hw4] at g4 ⊢
          clear hw4
          have hB4 := g4.below hbw hbw.size
          have k0 := g4.r.cell 0
          have k3 := g4.r.cell 3
          have f3 := g4.r.frozen 3
          have x3 := HC.out w4 hB4 3 _ rfl
          simp only [eSp, rC, List.getElem?_toArray, List.getElem?_cons_zero, List.getElem?_cons_succ] at x3 k0 k3
          go_upto_region 14 with fail
          have g9 := g4.set (k' := 6) (fr' := (x.fr : Int)) (td' := (x.fr : Int) + (x.ln : Int)) (a' := (x.a : Int)) (b' := 0) 3 (.int .i64 (x.a : Int)) rfl
          obtain ⟨Wf, hWf⟩ : ∃ q, q = w4.setCell ⟨gR, 3, none⟩ (.int .i64 (x.a : Int)) := ⟨_, rfl⟩
          rw [← hWf] at g9 ⊢
          clear hWf g4 k0 k3 f3 x3 hB4
          have HGEN := hide (show genR K x = ⟨6, (x.fr : Int), (x.fr : Int) + (x.ln : Int), (x.a : Int), 0⟩ by unfold genR; rw [← HKD.out]; simp)
          have oA := o1.grown g9.g (fun _ _ e => by cases e)
          have hbW := g9.below hbw hbw.size
          have hR := Rd.newAt (e := eRu) Wf 62 (⟨6, (x.fr : Int), (x.fr : Int) + (x.ln : Int), (x.a : Int), 0⟩ : Ru) (rC (6) ((x.fr : Int)) ((x.fr : Int) + (x.ln : Int)) ((x.a : Int)) (0)) rfl Wf.heap.size rfl
          simp only [rC] at hR
          have hBlk := g9.r
          simp only [rC] at hBlk
          go_wp2_with (first | (refine wl_load (o := ⟨some 86, _, _, _, _, _⟩) rfl 62 _ rfl gR rfl 62 #[.int .i64 (6), .int .i64 ((x.fr : Int)), .int .i64 ((x.fr : Int) + (x.ln : Int)), .int .i64 ((x.a : Int)), .int .i64 (0)] _ hBlk Tryd.underlying62 rfl (by kernel_rfl) ?_) | (at_builtin; refine wl_app eRu _ rfl (.tmp 85) (.tmp 87) _ rfl w.heap.size 62 (.agg #[.int .i64 0, .int .i64 0, .int .i64 0, .int .i64 0, .int .i64 0]) 40 Tryd.underlying45 info_ru rfl (by omega) _ _ _ _ (by rfl) (oA.alloc _) _ 1 1 [⟨6, (x.fr : Int), (x.fr : Int) + (x.ln : Int), (x.a : Int), 0⟩] (by rfl) _ hR (by omega) (by have := hbW.size; simp; omega) ?_; intro A5 c5 w9 o9 hg9 hA9))
          go_roundw
          case rel => exact ⟨k + 1, A5, c5, by omega, by omega, by go_num, rfl, by rw [genL_snoc HX.out, HGEN.out]; exact o9, below_app (hbW.alloc hbW.size _) (oA.alloc _) hg9 (Nat.le_refl _) (Nat.le_refl _)⟩
          case measure => simp [intOf] <;> omega
        · -- a kind
          go_upto_region 8 with fail
          have g2 := g1.set (k' := 7) (fr' := (x.fr : Int)) (td' := 0) (a' := 0) (b' := 0) 1 (.int .i64 (x.fr : Int)) rfl
          obtain ⟨w2, hw2⟩ : ∃ q, q = w1.setCell ⟨gR, 1, none⟩ (.int .i64 (x.fr : Int)) := ⟨_, rfl⟩
          rw [← hw2] at g2 ⊢
          clear hw2 g1 k0 k1 f1 x0 hB1
          have hB2 := g2.below hbw hbw.size
          have HWR := hide (show IntKind.i64.wrap ((x.fr : Int) + IntKind.i64.wrap (x.ln : Int)) = (x.fr : Int) + (x.ln : Int) by simp only [IntKind.wrap, IntKind.bits, IntKind.signed]; simp; omega)
          have g3 := g2.set (k' := 7) (fr' := (x.fr : Int)) (td' := (x.fr : Int) + (x.ln : Int)) (a' := 0) (b' := 0) 2 (.int .i64 (IntKind.i64.wrap ((x.fr : Int) + IntKind.i64.wrap (x.ln : Int)))) (by rw [HWR.out]; rfl)
          have hB3 := g3.below hbw hbw.size
          have x2 := HC.out w2 hB2 2 _ rfl
          have k1 := g2.r.cell 1
          have k2 := g2.r.cell 2
          have f2 := g2.r.frozen 2
          have x2d := HC.out _ (below_drewN hB2 1) 2 _ rfl
          simp only [eSp, rC, List.getElem?_toArray, List.getElem?_cons_zero, List.getElem?_cons_succ] at x2 k1 k2
          have HS := hide (show ∀ W, GR wr gR 7 (x.fr : Int) 0 0 0 W ∨ GR wr gR 7 (x.fr : Int) ((x.fr : Int) + (x.ln : Int)) 0 0 W → W.cell? ⟨b, off + k * 5 + 2, none⟩ = some (.int .u8 (x.ln : Int)) ∧ W.cell? ⟨gR, 1, none⟩ = some (.int .i64 (x.fr : Int)) from fun W h => by
            rcases h with h | h
            all_goals exact ⟨by simpa [eSp] using HC.out W (h.below hbw hbw.size) 2 _ rfl, by simpa [rC] using h.r.cell 1⟩)
          have G2 := hide g2
          have G3 := hide g3
          go_region_held3 (fun W => W.cell? ⟨b, off + k * 5 + 2, none⟩ = some (.int .u8 (x.ln : Int)) ∧ W.cell? ⟨gR, 1, none⟩ = some (.int .i64 (x.fr : Int))) (first | exact HS.out _ (.inl G2.out) | exact HS.out _ (.inl G2.out.drew) | exact HS.out _ (.inr G3.out) | exact HS.out _ (.inr G3.out.drew)) (fail)
          have g4 := G3.out.drew
          clear x2 k1 k2 f2 g2 g3 G2 G3 HS hB2 hB3 x2d
          obtain ⟨w4, hw4⟩ : ∃ q, q = (w2.setCell ⟨gR, 2, none⟩ (.int .i64 (IntKind.i64.wrap ((x.fr : Int) + IntKind.i64.wrap (x.ln : Int))))).drew := ⟨_, rfl⟩
          rw [← hw4] at g4 ⊢
          clear hw4
          have hB4 := g4.below hbw hbw.size
          have k0 := g4.r.cell 0
          have k3 := g4.r.cell 3
          have f3 := g4.r.frozen 3
          have x3 := HC.out w4 hB4 3 _ rfl
          simp only [eSp, rC, List.getElem?_toArray, List.getElem?_cons_zero, List.getElem?_cons_succ] at x3 k0 k3
          have hma : (x.a : Int) % 2 = ((x.a % 2 : Nat) : Int) := rfl
          have hmb : (x.b : Int) % 2 = ((x.b % 2 : Nat) : Int) := rfl
          obtain ⟨ya, hya⟩ : ∃ y, y = x.a % 2 := ⟨_, rfl⟩
          obtain ⟨yb, hyb⟩ : ∃ y, y = x.b % 2 := ⟨_, rfl⟩
          rw [← hya] at hma
          rw [← hyb] at hmb
          have hya2 : ya < 2 := by omega
          have hyb2 : yb < 2 := by omega
          have hmat : (x.a : Int).tmod 2 = (ya : Int) := by rw [Int.tmod_eq_emod_of_nonneg (by omega)]; exact hma
          have hmbt : (x.b : Int).tmod 2 = (yb : Int) := by rw [Int.tmod_eq_emod_of_nonneg (by omega)]; exact hmb
          have HYA := hide hya
          have HYB := hide hyb
          clear hya hyb
          go_upto_region 11 with fail
          have g5 := g4.set (k' := 7) (fr' := (x.fr : Int)) (td' := (x.fr : Int) + (x.ln : Int)) (a' := (ya : Int)) (b' := 0) 3 (.int .i64 (ya : Int)) rfl
          obtain ⟨w5, hw5⟩ : ∃ q, q = w4.setCell ⟨gR, 3, none⟩ (.int .i64 (ya : Int)) := ⟨_, rfl⟩
          rw [← hw5] at g5 ⊢
          clear hw5 g4 k0 k3 f3 x3 hB4
          have hB5 := g5.below hbw hbw.size
          have k4 := g5.r.cell 4
          have f4 := g5.r.frozen 4
          have x4 := HC.out w5 hB5 4 _ rfl
          simp only [eSp, rC, List.getElem?_toArray, List.getElem?_cons_zero, List.getElem?_cons_succ] at x4 k4
          go_upto_region 14 with fail
          have g9 := g5.set (k' := 7) (fr' := (x.fr : Int)) (td' := (x.fr : Int) + (x.ln : Int)) (a' := (ya : Int)) (b' := (yb : Int)) 4 (.int .i64 (yb : Int)) rfl
          obtain ⟨Wf, hWf⟩ : ∃ q, q = w5.setCell ⟨gR, 4, none⟩ (.int .i64 (yb : Int)) := ⟨_, rfl⟩
          rw [← hWf] at g9 ⊢
          clear hWf g5 k4 f4 x4 hB5
          have HGEN := hide (show genR K x = ⟨7, (x.fr : Int), (x.fr : Int) + (x.ln : Int), (ya : Int), (yb : Int)⟩ by unfold genR; rw [← HKD.out, HYA.out, HYB.out]; simp)
          have oA := o1.grown g9.g (fun _ _ e => by cases e)
          have hbW := g9.below hbw hbw.size
          have hR := Rd.newAt (e := eRu) Wf 62 (⟨7, (x.fr : Int), (x.fr : Int) + (x.ln : Int), (ya : Int), (yb : Int)⟩ : Ru) (rC (7) ((x.fr : Int)) ((x.fr : Int) + (x.ln : Int)) ((ya : Int)) ((yb : Int))) rfl Wf.heap.size rfl
          simp only [rC] at hR
          have hBlk := g9.r
          simp only [rC] at hBlk
          go_wp2_with (first | (refine wl_load (o := ⟨some 86, _, _, _, _, _⟩) rfl 62 _ rfl gR rfl 62 #[.int .i64 (7), .int .i64 ((x.fr : Int)), .int .i64 ((x.fr : Int) + (x.ln : Int)), .int .i64 ((ya : Int)), .int .i64 ((yb : Int))] _ hBlk Tryd.underlying62 rfl (by kernel_rfl) ?_) | (at_builtin; refine wl_app eRu _ rfl (.tmp 85) (.tmp 87) _ rfl w.heap.size 62 (.agg #[.int .i64 0, .int .i64 0, .int .i64 0, .int .i64 0, .int .i64 0]) 40 Tryd.underlying45 info_ru rfl (by omega) _ _ _ _ (by rfl) (oA.alloc _) _ 1 1 [⟨7, (x.fr : Int), (x.fr : Int) + (x.ln : Int), (ya : Int), (yb : Int)⟩] (by rfl) _ hR (by omega) (by have := hbW.size; simp; omega) ?_; intro A5 c5 w9 o9 hg9 hA9))
          go_roundw
          case rel => exact ⟨k + 1, A5, c5, by omega, by omega, by go_num, rfl, by rw [genL_snoc HX.out, HGEN.out]; exact o9, below_app (hbW.alloc hbW.size _) (oA.alloc _) hg9 (Nat.le_refl _) (Nat.le_refl _)⟩
          case measure => simp [intOf] <;> omega
      · have HR := hide o1.rd
        have HG := hide (show (S.take k).map (genR K) = genL K S by rw [show k = 32 by omega]; rfl)
        go_wp2
        go_ret
        exact ⟨A1, k, c1, rfl, by rw [← HG.out]; exact HR.out, hbw⟩
    · have HR := hide o1.rd
      have HG := hide (show (S.take k).map (genR K) = genL K S by unfold genL; rw [List.take_of_length_le (by have := HL.out; omega), List.take_of_length_le (by have := HL.out; omega)])
      go_wp2
      go_ret
      exact ⟨A1, k, c1, rfl, by rw [← HG.out]; exact HR.out, hbw⟩
end Go.Proofs.YthdidjnhfkeokaaDoor
