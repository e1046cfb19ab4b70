/- Which blocks a call may turn ('Fr'); the eavesdropper's book; the contract of its hear. -/
import Derived.Test.YthdidjnhfkeokaaDoorVa
import Derived.Test.YthdidjnhfkeokaaDoorQp
import Derived.Test.YthdidjnhfkeokaaDoorQi
import Derived.Deep.RegionHeld3
import Derived.Deep.DrawnRows
import Derived.Deep.RegionLaw
namespace Go.Proofs.YthdidjnhfkeokaaDoor
open Go.RowKit

/-- Blocks in T aside, what was there is as it was. -/
structure Fr (T : Nat → Prop) (w w' : World) : Prop where
  os : w'.os = w.os
  tape : w'.tape = w.tape
  output : w'.output = w.output
  size : w.heap.size ≤ w'.heap.size
  block : ∀ k, k < w.heap.size → ¬ T k → w'.heap[k]? = w.heap[k]?
section
variable {T T' : Nat → Prop} {w w1 w2 : World}
theorem Fr.refl (T : Nat → Prop) (w : World) : Fr T w w := ⟨rfl, rfl, rfl, Nat.le_refl _, fun _ _ _ => rfl⟩
theorem Fr.trans (h : Fr T w w1) (k : Fr T' w1 w2) (ht : ∀ i, i < w.heap.size → T' i → T i) : Fr T w w2 :=
  ⟨k.os.trans h.os, k.tape.trans h.tape, k.output.trans h.output, Nat.le_trans h.size k.size, fun i hi hn => (k.block i (Nat.lt_of_lt_of_le hi h.size) (fun c => hn (ht i hi c))).trans (h.block i hi hn)⟩
theorem Fr.of_grown {row : Option Nat} (h : w.grownBy w1 row) (ht : ∀ k, row = some k → T k) : Fr T w w1 :=
  ⟨h.os, h.tape, h.output, h.size, fun i hi hn => h.block i hi (fun e => hn (ht i e.symm))⟩
theorem Fr.of_below (h : Below w.heap.size w w1) : Fr T w w1 := ⟨h.os, h.tape, h.output, h.size, fun i hi _ => h.block i hi⟩
theorem Fr.alloc (h : Fr T w w1) (o : Obj) : Fr T w (w1.alloc o) := h.trans (Fr.of_below (T := fun _ => False) (below_alloc _ _)) (fun _ _ c => c.elim)
theorem Fr.drewN (h : Fr T w w1) (n : Nat) : Fr T w (w1.drewN n) := ⟨h.os, h.tape, h.output, h.size, h.block⟩
theorem Fr.drew (h : Fr T w w1) : Fr T w w1.drew := ⟨h.os, h.tape, h.output, h.size, h.block⟩
theorem Fr.setCell (h : Fr T w w1) {p : Addr} (hp : p.block < w.heap.size → T p.block) (u : Value) : Fr T w (w1.setCell p u) :=
  h.trans (T' := fun i => i = p.block) ⟨rfl, rfl, rfl, by simp [World.setCell], fun k _ hk => Below.heap_setCell _ _ _ _ hk⟩ (fun i hi e => by subst e; exact hp hi)
theorem Fr.imp (h : Fr T w w1) (ht : ∀ i, i < w.heap.size → T i → T' i) : Fr T' w w1 := ⟨h.os, h.tape, h.output, h.size, fun i hi hn => h.block i hi (fun c => hn (ht i hi c))⟩
theorem Fr.below (h : Fr T w w1) {B : Nat} (hB : ∀ i, T i → B ≤ i) (hz : B ≤ w.heap.size) : Below B w w1 :=
  ⟨h.os, h.tape, h.output, h.size, fun i hi => h.block i (by omega) (fun c => by have := hB i c; omega)⟩
theorem Blk.fr {g : Nat} {t : TypeId} {cs : Array Value} (b : Blk w g t cs) (h : Fr T w w1) (hg : ¬ T g) : Blk w1 g t cs := (h.block g b.lt hg).trans b
theorem Ow.fr {α : Type} {e : Enc α} {base n c : Nat} {E : TypeId} {A : Option Addr} {L : List α} (o : Ow e w base E A n c L) (h : Fr T w w1) (hA : ∀ g, A = some ⟨g, 0, none⟩ → ¬ T g) : Ow e w1 base E A n c L :=
  o.keep fun g ea => h.block g (o.lt ea).2 (hA g ea)
theorem Rd.fr {α : Type} {e : Enc α} {n c : Nat} {A : Option Addr} {B : Nat} {L : List α} (r : Rd e w B A n c L) (h : Fr T w w1) (hT : ∀ i, i < B → ¬ T i) (hB : B ≤ w.heap.size) : Rd e w1 B A n c L :=
  r.keep fun p hp => by
    have hb := h.block p.block (by omega) (hT _ hp)
    unfold World.cell?
    rw [hb]
end

def Bk (w : World) (E base : Nat) (A : Option Addr) (N : List No) : Prop :=
  ∃ n c, Blk w E 138 #[.slice A n c] ∧ Ow eNo w base 53 A n c N ∧ A.map (·.block) ≠ some E
theorem info_no : (Tryd.prog.info? 53).map (fun i => (i.zero, i.size, i.bytes)) = some (some (.agg #[.int .i64 0, .int .i64 0, .int .i64 0, .bool false]), 4, 32) := by kernel_rfl
def SHear (E base : Nat) (A : Option Addr) (N : List No) (w : World) (e : Ending) (w' : World) : Prop :=
  e = .returned (.tuple #[]) ∧ ∃ A', Bk w' E base A' N ∧ (A' = A ∨ ∃ g, A' = some ⟨g, 0, none⟩ ∧ w.heap.size ≤ g) ∧ Fr (fun i => i = E ∨ A.map (·.block) = some i) w w'

theorem cell_far (w : World) {p q : Addr} (h : q.block ≠ p.block) (v : Value) : (w.setCell p v).cell? q = w.cell? q := by
  unfold World.cell?; rw [Below.heap_setCell _ _ _ _ h]
theorem grow_at (A : Option Addr) : ∀ k, A.map (·.block) = some k → A.map (·.block) = some k := fun _ h => h
set_option maxRecDepth 100000 in
set_option maxHeartbeats 1600000 in
theorem hear_c (E base : Nat) (A : Option Addr) (N : List No) (y : No) (w : World) (h : Bk w E base A N) (hN : N.length ≤ 1000000) (hbase : base ≤ w.heap.size) :
    Calls Tryd.prog 138 #[.pointer (some ⟨E, 0, none⟩), .agg #[.int .i64 y.slot, .int .i64 y.how, .int .i64 y.b, .bool y.bit]] w (SHear E base A (N ++ [y]) w) := by
  obtain ⟨n, c, hE, hO, hA⟩ := h
  have hlt := hE.lt
  have hn := hO.len
  have hn2 : n ≤ 1000000 := by omega
  clear hN hn
  obtain ⟨ys, yh, yb, yt⟩ := y
  go_enter Tryd.func138, Tryd.ntmps138
  go_upto_region 1 with fail
  have hY := Blk.newAt w 53 #[.int .i64 ys, .int .i64 yh, .int .i64 yb, .bool yt] w.heap.size rfl
  have hE1 := hE.alloc (.cells #[.int .i64 ys, .int .i64 yh, .int .i64 yb, .bool yt] 53)
  have hO1 := hO.alloc (.cells #[.int .i64 ys, .int .i64 yh, .int .i64 yb, .bool yt] 53)
  have hf1 := (Fr.refl (fun i => i = E ∨ A.map (·.block) = some i) w).alloc (.cells #[.int .i64 ys, .int .i64 yh, .int .i64 yb, .bool yt] 53)
  have hz1 : (w.alloc (.cells #[.int .i64 ys, .int .i64 yh, .int .i64 yb, .bool yt] 53)).heap.size = w.heap.size + 1 := by simp
  obtain ⟨W, hW⟩ : ∃ W, W = w.alloc (.cells #[.int .i64 ys, .int .i64 yh, .int .i64 yb, .bool yt] 53) := ⟨_, rfl⟩
  rw [← hW] at hY hE1 hO1 hf1 hz1 ⊢
  clear hW
  obtain ⟨gY, hgY⟩ : ∃ g, g = w.heap.size := ⟨_, rfl⟩
  rw [← hgY] at hY ⊢
  have hne : E ≠ gY := by omega
  have hnA : A.map (·.block) ≠ some gY := fun ea => by have := (hO.block _ ea).2; omega
  have hK : ∀ w', Fr (fun i => A.map (·.block) = some i) W w' → w'.cell? ⟨E, 0, none⟩ = some (.slice A n c) ∧ w'.frozen? ⟨E, 0, none⟩ = false ∧ w'.cell? ⟨gY, 0, none⟩ = some (.int .i64 ys) ∧ w'.cell? ⟨gY, 1, none⟩ = some (.int .i64 yh) ∧ w'.cell? ⟨gY, 2, none⟩ = some (.int .i64 yb) ∧ w'.cell? ⟨gY, 3, none⟩ = some (.bool yt) := fun w' hw => by
    have a1 := hE1.fr hw hA
    have a2 := hY.fr hw hnA
    exact ⟨by simpa using a1.cell 0, a1.frozen 0, by simpa using a2.cell 0, by simpa using a2.cell 1, by simpa using a2.cell 2, by simpa using a2.cell 3⟩
  have HK := hide hK
  clear hK
  have oW := (hO1.alloc (.cells #[.int .i64 ys, .int .i64 yh, .int .i64 yb, .bool yt] 53)).drew
  have hf2 := (hf1.alloc (.cells #[.int .i64 ys, .int .i64 yh, .int .i64 yb, .bool yt] 53)).drew
  have hF := ((Fr.refl (fun i => A.map (·.block) = some i) W).alloc (.cells #[.int .i64 ys, .int .i64 yh, .int .i64 yb, .bool yt] 53)).drew
  have hR := (Rd.newAt (e := eNo) W 53 (⟨ys, yh, yb, yt⟩ : No) #[.int .i64 ys, .int .i64 yh, .int .i64 yb, .bool yt] rfl W.heap.size rfl).drew
  have HG := hide hgY
  have HZ := hide hz1
  clear hgY hz1
  have e0 := (HK.out W (Fr.refl _ _)).1
  have e1 := (HK.out _ hF).1
  obtain ⟨y0, y1, y2, y3⟩ := (HK.out W (Fr.refl _ _)).2.2
  go_region_law ((refine step_app eNo _ (by rfl) (.tmp 8) (.tmp 10) _ (by rfl) base 53 (.agg #[.int .i64 0, .int .i64 0, .int .i64 0, .bool false]) 32 Tryd.underlying40 info_no rfl (by omega) _ _ _ _ (by rfl) oW _ 1 1 [⟨ys, yh, yb, yt⟩] (by rfl) _ hR (by omega) (by have := HZ.out; simp; omega) ?_; intro A3 c3 w3 o3 hg3 hA3; have e3 := (HK.out _ (hF.trans (Fr.of_grown hg3 (grow_at A)) (fun _ _ c => c))).1; have f3 := (HK.out _ (hF.trans (Fr.of_grown hg3 (grow_at A)) (fun _ _ c => c))).2.1; have hG3 := hide hg3))
  all_goals
    have hA3' := hide hA3
    clear hA3
    go_end0
    have b3 := hE1.fr (hF.trans (Fr.of_grown hG3.out (grow_at A)) (fun _ _ c => c)) hA
    have hA2 : A3.map (·.block) ≠ some E := by
      rcases hA3'.out with h | ⟨g, h, hg⟩
      · rw [h]; exact hA
      · rw [h]; have := hf1.size; simp at hg ⊢; omega
    refine ⟨rfl, A3, ⟨_, _, by simpa using b3.set_ 0 (.slice A3 (n + 1) c3), o3.far (fun g eg => by rw [eg] at hA2; simpa using hA2) _, hA2⟩, ?_, ?_⟩
    · rcases hA3'.out with h | ⟨g, h, hg⟩
      · exact .inl h
      · exact .inr ⟨g, h, by have := hf1.size; simp at hg ⊢; omega⟩
    · exact (hf2.trans (Fr.of_grown hG3.out (grow_at A)) (fun i _ c => Or.inr c)).setCell (fun _ => Or.inl rfl) _
end Go.Proofs.YthdidjnhfkeokaaDoor
