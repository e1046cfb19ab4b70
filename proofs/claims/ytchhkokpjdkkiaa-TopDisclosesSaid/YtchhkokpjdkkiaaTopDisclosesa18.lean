/- Which blocks a call may turn ('Fr'); the eavesdropper's book; the contract of its hear. The machine of a cascade in memory (the Top seat). Contracts of the machine's isOdd and knows (the Top seat). -/
import Derived.Test.YtchhkokpjdkkiaaTopDisclosesa17
import Derived.Test.YtchhkokpjdkkiaaTopDisclosesa15
import Derived.Deep.RegionHeld3
import Derived.Deep.DrawnRows
import Derived.Deep.RegionLaw
import Derived.Test.YtchhkokpjdkkiaaTopDisclosesa16
namespace Go.Proofs.Ytchhkokpjdkkiaa
open Go.RowKit

/-- Blocks in T aside, what was there is as it was. -/
structure Fr (T : Nat → Prop) (w w' : World) : Prop where
  os : w'.os = w.os
  tape : w'.tape = w.tape
  output : w'.output = w.output
  size : w.heap.size ≤ w'.heap.size
  block : ∀ k, k < w.heap.size → ¬ T k → w'.heap[k]? = w.heap[k]?
section
variable {T T' : Nat → Prop} {w w1 w2 : World}
theorem Fr.refl (T : Nat → Prop) (w : World) : Fr T w w := ⟨rfl, rfl, rfl, Nat.le_refl _, fun _ _ _ => rfl⟩
theorem Fr.trans (h : Fr T w w1) (k : Fr T' w1 w2) (ht : ∀ i, i < w.heap.size → T' i → T i) : Fr T w w2 :=
  ⟨k.os.trans h.os, k.tape.trans h.tape, k.output.trans h.output, Nat.le_trans h.size k.size, fun i hi hn => (k.block i (Nat.lt_of_lt_of_le hi h.size) (fun c => hn (ht i hi c))).trans (h.block i hi hn)⟩
theorem Fr.of_grown {row : Option Nat} (h : w.grownBy w1 row) (ht : ∀ k, row = some k → T k) : Fr T w w1 :=
  ⟨h.os, h.tape, h.output, h.size, fun i hi hn => h.block i hi (fun e => hn (ht i e.symm))⟩
theorem Fr.of_below (h : Below w.heap.size w w1) : Fr T w w1 := ⟨h.os, h.tape, h.output, h.size, fun i hi _ => h.block i hi⟩
theorem Fr.alloc (h : Fr T w w1) (o : Obj) : Fr T w (w1.alloc o) := h.trans (Fr.of_below (T := fun _ => False) (below_alloc _ _)) (fun _ _ c => c.elim)
theorem Fr.drewN (h : Fr T w w1) (n : Nat) : Fr T w (w1.drewN n) := ⟨h.os, h.tape, h.output, h.size, h.block⟩
theorem Fr.drew (h : Fr T w w1) : Fr T w w1.drew := ⟨h.os, h.tape, h.output, h.size, h.block⟩
theorem Fr.setCell (h : Fr T w w1) {p : Addr} (hp : p.block < w.heap.size → T p.block) (u : Value) : Fr T w (w1.setCell p u) :=
  h.trans (T' := fun i => i = p.block) ⟨rfl, rfl, rfl, by simp [World.setCell], fun k _ hk => Below.heap_setCell _ _ _ _ hk⟩ (fun i hi e => by subst e; exact hp hi)
theorem Fr.imp (h : Fr T w w1) (ht : ∀ i, i < w.heap.size → T i → T' i) : Fr T' w w1 := ⟨h.os, h.tape, h.output, h.size, fun i hi hn => h.block i hi (fun c => hn (ht i hi c))⟩
theorem Fr.below (h : Fr T w w1) {B : Nat} (hB : ∀ i, T i → B ≤ i) (hz : B ≤ w.heap.size) : Below B w w1 :=
  ⟨h.os, h.tape, h.output, h.size, fun i hi => h.block i (by omega) (fun c => by have := hB i c; omega)⟩
theorem Blk.fr {g : Nat} {t : TypeId} {cs : Array Value} (b : Blk w g t cs) (h : Fr T w w1) (hg : ¬ T g) : Blk w1 g t cs := (h.block g b.lt hg).trans b
theorem Ow.fr {α : Type} {e : Enc α} {base n c : Nat} {E : TypeId} {A : Option Addr} {L : List α} (o : Ow e w base E A n c L) (h : Fr T w w1) (hA : ∀ g, A = some ⟨g, 0, none⟩ → ¬ T g) : Ow e w1 base E A n c L :=
  o.keep fun g ea => h.block g (o.lt ea).2 (hA g ea)
theorem Rd.fr {α : Type} {e : Enc α} {n c : Nat} {A : Option Addr} {B : Nat} {L : List α} (r : Rd e w B A n c L) (h : Fr T w w1) (hT : ∀ i, i < B → ¬ T i) (hB : B ≤ w.heap.size) : Rd e w1 B A n c L :=
  r.keep fun p hp => by
    have hb := h.block p.block (by omega) (hT _ hp)
    unfold World.cell?
    rw [hb]
end

def Bk (w : World) (E base : Nat) (A : Option Addr) (N : List No) : Prop :=
  ∃ n c, Blk w E 159 #[.slice A n c] ∧ Ow eNo w base 86 A n c N ∧ A.map (·.block) ≠ some E
theorem info_no : (Try.prog.info? 86).map (fun i => (i.zero, i.size, i.bytes)) = some (some (.agg #[.int .i64 0, .int .i64 0, .int .i64 0, .bool false]), 4, 32) := by kernel_rfl
def SHear (E base : Nat) (A : Option Addr) (N : List No) (w : World) (e : Ending) (w' : World) : Prop :=
  e = .returned (.tuple #[]) ∧ ∃ A', Bk w' E base A' N ∧ (A' = A ∨ ∃ g, A' = some ⟨g, 0, none⟩ ∧ w.heap.size ≤ g) ∧ Fr (fun i => i = E ∨ A.map (·.block) = some i) w w'

theorem cell_far (w : World) {p q : Addr} (h : q.block ≠ p.block) (v : Value) : (w.setCell p v).cell? q = w.cell? q := by
  unfold World.cell?; rw [Below.heap_setCell _ _ _ _ h]
theorem grow_at (A : Option Addr) : ∀ k, A.map (·.block) = some k → A.map (·.block) = some k := fun _ h => h
set_option maxRecDepth 100000 in
set_option maxHeartbeats 1600000 in
theorem hear_c (E base : Nat) (A : Option Addr) (N : List No) (y : No) (w : World) (h : Bk w E base A N) (hN : N.length ≤ 1000000) (hbase : base ≤ w.heap.size) :
    Calls Try.prog 152 #[.pointer (some ⟨E, 0, none⟩), .agg #[.int .i64 y.slot, .int .i64 y.how, .int .i64 y.b, .bool y.bit]] w (SHear E base A (N ++ [y]) w) := by
  obtain ⟨n, c, hE, hO, hA⟩ := h
  have hlt := hE.lt
  have hn := hO.len
  have hn2 : n ≤ 1000000 := by omega
  clear hN hn
  obtain ⟨ys, yh, yb, yt⟩ := y
  go_enter Try.func152, Try.ntmps152
  go_upto_region 1 with fail
  have hY := Blk.newAt w 86 #[.int .i64 ys, .int .i64 yh, .int .i64 yb, .bool yt] w.heap.size rfl
  have hE1 := hE.alloc (.cells #[.int .i64 ys, .int .i64 yh, .int .i64 yb, .bool yt] 86)
  have hO1 := hO.alloc (.cells #[.int .i64 ys, .int .i64 yh, .int .i64 yb, .bool yt] 86)
  have hf1 := (Fr.refl (fun i => i = E ∨ A.map (·.block) = some i) w).alloc (.cells #[.int .i64 ys, .int .i64 yh, .int .i64 yb, .bool yt] 86)
  have hz1 : (w.alloc (.cells #[.int .i64 ys, .int .i64 yh, .int .i64 yb, .bool yt] 86)).heap.size = w.heap.size + 1 := by simp
  obtain ⟨W, hW⟩ : ∃ W, W = w.alloc (.cells #[.int .i64 ys, .int .i64 yh, .int .i64 yb, .bool yt] 86) := ⟨_, rfl⟩
  rw [← hW] at hY hE1 hO1 hf1 hz1 ⊢
  clear hW
  obtain ⟨gY, hgY⟩ : ∃ g, g = w.heap.size := ⟨_, rfl⟩
  rw [← hgY] at hY ⊢
  have hne : E ≠ gY := by omega
  have hnA : A.map (·.block) ≠ some gY := fun ea => by have := (hO.block _ ea).2; omega
  have hK : ∀ w', Fr (fun i => A.map (·.block) = some i) W w' → w'.cell? ⟨E, 0, none⟩ = some (.slice A n c) ∧ w'.frozen? ⟨E, 0, none⟩ = false ∧ w'.cell? ⟨gY, 0, none⟩ = some (.int .i64 ys) ∧ w'.cell? ⟨gY, 1, none⟩ = some (.int .i64 yh) ∧ w'.cell? ⟨gY, 2, none⟩ = some (.int .i64 yb) ∧ w'.cell? ⟨gY, 3, none⟩ = some (.bool yt) := fun w' hw => by
    have a1 := hE1.fr hw hA
    have a2 := hY.fr hw hnA
    exact ⟨by simpa using a1.cell 0, a1.frozen 0, by simpa using a2.cell 0, by simpa using a2.cell 1, by simpa using a2.cell 2, by simpa using a2.cell 3⟩
  have HK := hide hK
  clear hK
  have oW := (hO1.alloc (.cells #[.int .i64 ys, .int .i64 yh, .int .i64 yb, .bool yt] 86)).drew
  have hf2 := (hf1.alloc (.cells #[.int .i64 ys, .int .i64 yh, .int .i64 yb, .bool yt] 86)).drew
  have hF := ((Fr.refl (fun i => A.map (·.block) = some i) W).alloc (.cells #[.int .i64 ys, .int .i64 yh, .int .i64 yb, .bool yt] 86)).drew
  have hR := (Rd.newAt (e := eNo) W 86 (⟨ys, yh, yb, yt⟩ : No) #[.int .i64 ys, .int .i64 yh, .int .i64 yb, .bool yt] rfl W.heap.size rfl).drew
  have HG := hide hgY
  have HZ := hide hz1
  clear hgY hz1
  have e0 := (HK.out W (Fr.refl _ _)).1
  have e1 := (HK.out _ hF).1
  obtain ⟨y0, y1, y2, y3⟩ := (HK.out W (Fr.refl _ _)).2.2
  go_region_law ((refine step_app eNo _ (by rfl) (.tmp 8) (.tmp 10) _ (by rfl) base 86 (.agg #[.int .i64 0, .int .i64 0, .int .i64 0, .bool false]) 32 Try.underlying64 info_no rfl (by omega) _ _ _ _ (by rfl) oW _ 1 1 [⟨ys, yh, yb, yt⟩] (by rfl) _ hR (by omega) (by have := HZ.out; simp; omega) ?_; intro A3 c3 w3 o3 hg3 hA3; have e3 := (HK.out _ (hF.trans (Fr.of_grown hg3 (grow_at A)) (fun _ _ c => c))).1; have f3 := (HK.out _ (hF.trans (Fr.of_grown hg3 (grow_at A)) (fun _ _ c => c))).2.1; have hG3 := hide hg3))
  all_goals
    have hA3' := hide hA3
    clear hA3
    go_end0
    have b3 := hE1.fr (hF.trans (Fr.of_grown hG3.out (grow_at A)) (fun _ _ c => c)) hA
    have hA2 : A3.map (·.block) ≠ some E := by
      rcases hA3'.out with h | ⟨g, h, hg⟩
      · rw [h]; exact hA
      · rw [h]; have := hf1.size; simp at hg ⊢; omega
    refine ⟨rfl, A3, ⟨_, _, by simpa using b3.set_ 0 (.slice A3 (n + 1) c3), o3.far (fun g eg => by rw [eg] at hA2; simpa using hA2) _, hA2⟩, ?_, ?_⟩
    · rcases hA3'.out with h | ⟨g, h, hg⟩
      · exact .inl h
      · exact .inr ⟨g, h, by have := hf1.size; simp at hg ⊢; omega⟩
    · exact (hf2.trans (Fr.of_grown hG3.out (grow_at A)) (fun i _ c => Or.inr c)).setCell (fun _ => Or.inl rfl) _
end Go.Proofs.Ytchhkokpjdkkiaa

namespace Go.Proofs.Ytchhkokpjdkkiaa
open Go.RowKit

/-- A slice's header. -/
structure Hd where
  A : Option Addr
  n : Nat
  c : Nat
def eHd : Enc Hd := ⟨1, fun h => [.slice h.A h.n h.c], fun _ => rfl, by simp [Value.oneCell'], Nat.one_pos⟩
structure Ans where
  q : Qs
  v : Bool
def eAns : Enc Ans := ⟨4, fun x => [.int .i64 x.q.p, .int .i64 x.q.fr, .int .i64 x.q.tt, .bool x.v], fun _ => rfl, by simp [Value.oneCell'], by omega⟩
/-- What of the machine turns. -/
structure Mst where
  b : List Bool
  told : List Ans
  fl : Nat
  failed : Bool
  ps : Nat
  bk : Nat
  srch : Bool
  odd : Qs
  ans : Bool
  nxt : Qs
  opn : Bool
/-- Where it lies. -/
structure MA where
  g : Nat
  O : Hd
  B : Hd
  b : Hd
  k : Nat
  T : Hd
def mRow (c : Cas) (a : MA) (s : Mst) : Array Value := #[.bool true, .int .i64 c.p, .int .i64 c.bl, .int .u64 c.sd, .slice a.O.A a.O.n a.O.c, .slice a.B.A a.B.n a.B.c, .slice a.b.A a.b.n a.b.c, .map (some a.k), .slice a.T.A a.T.n a.T.c,
  .int .i64 s.fl, .bool s.failed, .int .i64 s.ps, .int .i64 s.bk, .bool s.srch, .int .i64 s.odd.p, .int .i64 s.odd.fr, .int .i64 s.odd.tt, .bool s.ans, .int .i64 s.nxt.p, .int .i64 s.nxt.fr, .int .i64 s.nxt.tt, .bool s.opn]
/-- What of the machine does not turn: its orders and blocks. -/
structure MR (w : World) (base : Nat) (a : MA) (HO HB : List Hd) (n : Nat) (O : Nat → List Nat) (BL : Nat → List Qs) : Prop where
  hO : Ow eHd w base 61 a.O.A a.O.n a.O.c HO
  hB : Ow eHd w base 145 a.B.A a.B.n a.B.c HB
  rO : ∀ (i : Nat) (h : Hd), HO[i]? = some h → h.n = n ∧ Ow eNat w base 3 h.A h.n h.c (O i)
  rB : ∀ (i : Nat) (h : Hd), HB[i]? = some h → Ow eQs w base 45 h.A h.n h.c (BL i)
structure Mach (w : World) (base : Nat) (c : Cas) (n : Nat) (O : Nat → List Nat) (BL : Nat → List Qs) (tp : Qs → Bool) (a : MA) (s : Mst) : Prop where
  m : Blk w a.g 96 (mRow c a s)
  r : ∃ HO HB, MR w base a HO HB n O BL
  b : Ow eBool w base 4 a.b.A a.b.n a.b.c s.b
  k : MapK w a.k (s.told.map Ans.q) tp
  t : Ow eAns w base 47 a.T.A a.T.n a.T.c s.told
  bn : a.b.n = n
  hg : base ≤ a.g
  hk : base ≤ a.k
theorem Ow.ne_blk {α : Type} {e : Enc α} {w : World} {base n c g : Nat} {E T : TypeId} {A : Option Addr} {L : List α} {cs : Array Value} (o : Ow e w base E A n c L) (b : Blk w g T cs) (hT : E ≠ T) : ∀ g', A = some ⟨g', 0, none⟩ → g' ≠ g := by
  intro g' e' hg
  rcases o.form with ⟨rfl, _, _⟩ | ⟨g1, cur, rfl, _, _, hh, _⟩
  · cases e'
  · injection e' with e'; injection e' with e'
    subst e'
    subst hg
    have h := hh.symm.trans b
    injection h with h; injection h with _ h2
    exact hT h2
theorem MapK.ne_blk {w : World} {g b : Nat} {T : TypeId} {cs : Array Value} {KL : List Qs} {tp : Qs → Bool} (h : MapK w b KL tp) (hb : Blk w g T cs) : b ≠ g := by
  rintro rfl
  obtain ⟨D, ⟨es, clock, h1, _⟩, _⟩ := h
  have := h1.symm.trans hb
  cases this
theorem MapK.ne_own {α : Type} {e : Enc α} {w : World} {base n c b : Nat} {E : TypeId} {A : Option Addr} {L : List α} {KL : List Qs} {tp : Qs → Bool} (h : MapK w b KL tp) (o : Ow e w base E A n c L) : ∀ g', A = some ⟨g', 0, none⟩ → g' ≠ b := by
  rintro g' e' rfl
  obtain ⟨D, ⟨es, clock, h1, _⟩, _⟩ := h
  rcases o.form with ⟨rfl, _, _⟩ | ⟨g1, cur, rfl, _, _, hh, _⟩
  · cases e'
  · injection e' with e'; injection e' with e'
    subst e'
    have := h1.symm.trans hh
    cases this
section
variable {w w' : World} {base n : Nat} {c : Cas} {O : Nat → List Nat} {BL : Nat → List Qs} {tp : Qs → Bool} {a : MA} {s s' : Mst} {HO HB : List Hd}
theorem MR.keep (h : MR w base a HO HB n O BL) (hk : ∀ (g : Nat) (cur : Array Value) (T : TypeId), w.heap[g]? = some (.cells cur T (0, 0)) → (T = 61 ∨ T = 145 ∨ T = 3 ∨ T = 45) → w'.heap[g]? = w.heap[g]?) : MR w' base a HO HB n O BL := by
  have key : ∀ {α : Type} {e : Enc α} {E : TypeId} {A : Option Addr} {m d : Nat} {L : List α}, (E = 61 ∨ E = 145 ∨ E = 3 ∨ E = 45) → Ow e w base E A m d L → Ow e w' base E A m d L := fun hE o => o.keep fun g e' => by
    rcases o.form with ⟨rfl, _, _⟩ | ⟨g1, cur, rfl, _, _, hh, _⟩
    · cases e'
    · injection e' with e'; injection e' with e'
      subst e'
      exact hk _ _ _ hh hE
  exact ⟨key (.inl rfl) h.hO, key (.inr (.inl rfl)) h.hB, fun i x hx => ⟨(h.rO i x hx).1, key (.inr (.inr (.inl rfl))) (h.rO i x hx).2⟩, fun i x hx => key (.inr (.inr (.inr rfl))) (h.rB i x hx)⟩
/-- A cell of the machine's own row is written. -/
theorem Mach.set (h : Mach w base c n O BL tp a s) (i : Nat) (v : Value) (hrow : (mRow c a s).setIfInBounds i v = mRow c a s') (hb : s'.b = s.b) (ht : s'.told = s.told) : Mach (w.setCell ⟨a.g, i, none⟩ v) base c n O BL tp a s' := by
  obtain ⟨HO, HB, hr⟩ := h.r
  have hg := grownBy_setCell w a.g i v
  refine ⟨hrow ▸ h.m.set_ i v, ⟨HO, HB, hr.keep fun g cur T hh hT => hg.block g (Array.getElem?_eq_some_iff.1 hh).1 fun e => ?_⟩, ?_, ?_, ?_, h.bn, h.hg, h.hk⟩
  · injection e with e
    subst e
    have := hh.symm.trans h.m
    injection this with this; injection this with _ h2
    subst h2
    revert hT; decide
  · rw [hb]; exact h.b.far (h.b.ne_blk h.m (by decide)) v
  · rw [ht]; exact h.k.grown hg (fun e => h.k.ne_blk h.m (Option.some.inj e))
  · rw [ht]; exact h.t.far (h.t.ne_blk h.m (by decide)) v
/-- What turns no old block leaves the machine as it is. -/
theorem Mach.on (h : Mach w base c n O BL tp a s) (hb : Below w.heap.size w w') : Mach w' base c n O BL tp a s := by
  obtain ⟨HO, HB, hr⟩ := h.r
  have hg : w.grownBy w' none := ⟨hb.os, hb.tape, hb.output, hb.size, fun i hi _ => hb.block i hi⟩
  exact ⟨h.m.keep hb, ⟨HO, HB, hr.keep fun g cur T hh _ => hb.block g (Array.getElem?_eq_some_iff.1 hh).1⟩, h.b.on hb, h.k.grown hg (by simp), h.t.on hb, h.bn, h.hg, h.hk⟩
end
end Go.Proofs.Ytchhkokpjdkkiaa

namespace Go.Proofs.Ytchhkokpjdkkiaa
open Go.RowKit

theorem Rd.sub {α : Type} {e : Enc α} {w : World} {B b off n c f t : Nat} {L : List α} (h : Rd e w B (some ⟨b, off, none⟩) n c L) (h1 : f ≤ t) (h2 : t ≤ n) : Rd e w B (some ⟨b, off + f * e.nf, none⟩) (t - f) (c - f) ((L.drop f).take (t - f)) := by
  refine ⟨?_, by have := h.cap; omega, by have := h.max; omega, fun hn => ?_⟩
  · rw [List.length_take, List.length_drop, h.len]; omega
  · obtain ⟨b', off', ea, hb, hc⟩ := h.at_ (by omega)
    injection ea with ea
    injection ea with e1 e2
    subst e1
    subst e2
    refine ⟨b, off + f * e.nf, rfl, hb, fun i x hx j v hv => ?_⟩
    rw [List.getElem?_take] at hx
    split at hx
    · rw [List.getElem?_drop] at hx
      have := hc (f + i) x hx j v hv
      rw [Nat.add_mul] at this
      rw [show off + f * e.nf + i * e.nf + j = off + (f * e.nf + i * e.nf) + j by omega]
      exact this
    · cases hx
/-- The places of a question. -/
def plQ (O : Nat → List Nat) (q : Qs) : List Nat := ((O q.p).drop q.fr).take (q.tt - q.fr)
/-- A question that is one. -/
def okQn (ps n : Nat) (q : Qs) : Prop := q.p < ps ∧ q.fr < q.tt ∧ q.tt ≤ n
theorem plQ_lt {O : Nat → List Nat} {q : Qs} {n : Nat} (h : ∀ x ∈ O q.p, x < n) : ∀ x ∈ plQ O q, x < n := fun x hx => h x (List.mem_of_mem_drop (List.mem_of_mem_take hx))
set_option maxRecDepth 100000 in
set_option maxHeartbeats 3200000 in
theorem isOdd_c (w : World) (base : Nat) (c : Cas) (n : Nat) (O : Nat → List Nat) (BL : Nat → List Qs) (tp : Qs → Bool) (a : MA) (s : Mst) (h : Mach w base c n O BL tp a s) (q : Qs) (v : Bool) (hq : okQn a.O.n n q) (hO : ∀ p x, x ∈ O p → x < n) (hn : n ≤ 512) :
    Calls Try.prog 126 #[.pointer (some ⟨a.g, 0, none⟩), keyV q, .bool v] w fun e w' => e = .returned (.bool (parL s.b (plQ O q) != v)) ∧ Below w.heap.size w w' := by
  obtain ⟨hq1, hq2, hq3⟩ := hq
  obtain ⟨HO, HB, hr⟩ := h.r
  have HPL := hide (plQ_lt (q := q) (hO q.p))
  obtain ⟨bo, oo, hd, eO, hbo, hhd, hco⟩ := hr.hO.rd.get hq1
  have x0 := hco 0 _ rfl
  simp only [eHd, Nat.add_zero, Nat.mul_one] at x0
  obtain ⟨hdn, hrow⟩ := hr.rO q.p hd hhd
  have rb := h.b.rd
  rw [h.bn] at rb
  have m4 := h.m.cell 4
  have m6 := h.m.cell 6
  simp only [mRow, List.getElem?_toArray, List.getElem?_cons_zero, List.getElem?_cons_succ] at m4 m6
  have rr := hrow.rd
  obtain ⟨br, orr, _, eR, hbr, _, _⟩ := rr.get (show q.fr < hd.n by omega)
  obtain ⟨hdA, hdN, hdC⟩ := hd
  simp only at hdn rr eR x0
  subst hdn
  subst eR
  have hcap := rr.cap
  have hmx := rr.max
  have hal := below_alloc w (.cells #[.int .i64 (q.p : Int), .int .i64 (q.fr : Int), .int .i64 (q.tt : Int)] 45)
  have hQ := Blk.newAt w 45 #[.int .i64 (q.p : Int), .int .i64 (q.fr : Int), .int .i64 (q.tt : Int)] w.heap.size rfl
  have hglt := h.m.lt
  rw [h.bn] at m6
  obtain ⟨gM, hgM⟩ : ∃ x, x = a.g := ⟨_, rfl⟩
  rw [← hgM] at m4 m6 hglt ⊢
  rw [eO] at m4
  clear hgM
  obtain ⟨qp, qf, qt⟩ := q
  simp only at hq1 hq2 hq3 hQ hal
  simp only [keyV]
  have hne : ¬ (hdC = qf) := by omega
  have hc1 : (0 : Int) ≤ (qf : Int) := by omega
  have hc2 : (qf : Int) ≤ (qt : Int) := by omega
  have hc3 : (qt : Int) ≤ (hdC : Int) := by omega
  go_enter Try.func126, Try.ntmps126
  go_upto_region 1 with fail
  have m4 := (hal.cell hglt).trans m4
  have m6 := (hal.cell hglt).trans m6
  have x0 := (hal.cell hbo).trans x0
  have HP := hide (show ∀ W, Below w.heap.size w W → Calls Try.prog 26 #[.slice a.b.A hdN a.b.c, .slice (some ⟨br, orr + qf, none⟩) (qt - qf) (hdC - qf)] W fun e w' => e = .returned (.bool (parL s.b (plQ O ⟨qp, qf, qt⟩))) ∧ w' = W from fun W hb => by
    have h := (rr.on hb).sub (f := qf) (t := qt) (by omega) hq3
    simp only [eNat, Nat.mul_one] at h
    exact parity_c a.b.A hdN a.b.c s.b _ _ _ (plQ O ⟨qp, qf, qt⟩) W (rb.on hb) h HPL.out)
  obtain ⟨wA, hwA⟩ : ∃ x, x = w.alloc (.cells #[.int .i64 (qp : Int), .int .i64 (qf : Int), .int .i64 (qt : Int)] 45) := ⟨_, rfl⟩
  rw [← hwA] at m4 m6 x0 hQ hal ⊢
  obtain ⟨gQ, hgQ⟩ : ∃ x, x = w.heap.size := ⟨_, rfl⟩
  rw [← hgQ] at hQ ⊢
  have q0 := hQ.cell 0
  have q1 := hQ.cell 1
  have q2 := hQ.cell 2
  simp only [List.getElem?_toArray, List.getElem?_cons_zero, List.getElem?_cons_succ] at q0 q1 q2
  clear hwA hgQ
  have hqo : qp < a.O.n := hq1
  have hqI : (qp : Int) < (a.O.n : Int) := by omega
  have HK := hide (show ∀ W, Below wA.heap.size wA W → (W.cell? ⟨gM, 4, none⟩ = some (.slice (some ⟨bo, oo, none⟩) a.O.n a.O.c) ∧ W.cell? ⟨gM, 6, none⟩ = some (.slice a.b.A hdN a.b.c) ∧ W.cell? ⟨bo, oo + qp, none⟩ = some (.slice (some ⟨br, orr, none⟩) hdN hdC) ∧ W.cell? ⟨gQ, 0, none⟩ = some (.int .i64 (qp : Int)) ∧ W.cell? ⟨gQ, 1, none⟩ = some (.int .i64 (qf : Int)) ∧ W.cell? ⟨gQ, 2, none⟩ = some (.int .i64 (qt : Int))) from fun W hW => by
    have hs := hal.size
    exact ⟨(hW.cell (by simp only; omega)).trans m4, (hW.cell (by simp only; omega)).trans m6, (hW.cell (by simp only; omega)).trans x0, (hQ.keep hW).cell 0, (hQ.keep hW).cell 1, (hQ.keep hW).cell 2⟩)
  have HD := hide (show Below wA.heap.size wA wA.drew from below_drewN (Below.refl _ _) 1)
  have HAL := hide hal
  clear hQ hal
  go_region_held3 (fun W => W.cell? ⟨gM, 4, none⟩ = some (.slice (some ⟨bo, oo, none⟩) a.O.n a.O.c) ∧ W.cell? ⟨gM, 6, none⟩ = some (.slice a.b.A hdN a.b.c) ∧ W.cell? ⟨bo, oo + qp, none⟩ = some (.slice (some ⟨br, orr, none⟩) hdN hdC) ∧ W.cell? ⟨gQ, 0, none⟩ = some (.int .i64 (qp : Int)) ∧ W.cell? ⟨gQ, 1, none⟩ = some (.int .i64 (qf : Int)) ∧ W.cell? ⟨gQ, 2, none⟩ = some (.int .i64 (qt : Int))) (first | exact HK.out _ (Below.refl _ _) | exact HK.out _ HD.out) ((go_at_call 26; (first | (with_reducible refine (HP.out _ (below_on HAL.out HD.out)).mono ?_; rintro e w7 ⟨rfl, hw7⟩; rw [hw7]; clear hw7) | (with_reducible refine (HP.out _ HAL.out).mono ?_; rintro e w7 ⟨rfl, hw7⟩; rw [hw7]; clear hw7))))
  go_wp2
  go_ret
  exact ⟨ret_b (by cases parL s.b (plQ O ⟨qp, qf, qt⟩) <;> cases v <;> rfl), below_drewN HAL.out 1⟩
end Go.Proofs.Ytchhkokpjdkkiaa
