/- Words for memory that the walks of this claim share: lists whose elements have some cells each, read ('Rd') or made by the call itself ('Ow'); a block that is known whole ('Blk'). Plain lemmas; no condition. The plain model of layer 3: pulses, light, clicks, notes, rules as Lean values, and what the functions of optics return of them. Plain Lean; no program. -/
import Derived.WalkKit
import Derived.WalkSpells
import Derived.WalkLawsBesides
import Derived.BigQuiet
import Derived.Deep.QuietTactic
import Derived.Deep.RegionHeld3
import Derived.Laws.CopyOwn
import Derived.Maps.AppendAt
namespace Go.Proofs.Ytchhkokpjdkkiaa
open Go.RowKit

theorem hide {p : Prop} (h : p) : Hid p := h
theorem addr_add (g o j : Nat) : (⟨g, o, none⟩ : Addr).add j = ⟨g, o + j, none⟩ := by
  unfold Addr.add; split
  · subst_vars; rfl
  · rfl

/-- How the elements of a list lie in memory. -/
structure Enc (α : Type) where
  nf : Nat
  cells : α → List Value
  len : ∀ x, (cells x).length = nf
  one : ∀ x, ∀ u ∈ cells x, u.oneCell' = true
  pos : 0 < nf

def eNat : Enc Nat := ⟨1, fun n => [.int .i64 n], fun _ => rfl, by simp [Value.oneCell'], Nat.one_pos⟩
def eInt : Enc Int := ⟨1, fun n => [.int .i64 n], fun _ => rfl, by simp [Value.oneCell'], Nat.one_pos⟩
def eBool : Enc Bool := ⟨1, fun b => [.bool b], fun _ => rfl, by simp [Value.oneCell'], Nat.one_pos⟩

section
variable {α : Type} {e : Enc α}
theorem Enc.cell_lt {x : α} {j : Nat} {v : Value} (h : (e.cells x)[j]? = some v) : j < e.nf := by
  rw [← e.len x]; exact (List.getElem?_eq_some_iff.1 h).1
theorem Enc.flat_len (L : List α) : (L.flatMap e.cells).length = L.length * e.nf := by
  induction L with
  | nil => simp
  | cons x L ih => rw [List.flatMap_cons, List.length_append, ih, e.len, List.length_cons, Nat.add_mul, Nat.one_mul, Nat.add_comm]
theorem Enc.flat_get {L : List α} {i : Nat} {x : α} (h : L[i]? = some x) {j : Nat} {v : Value} (hv : (e.cells x)[j]? = some v) : (L.flatMap e.cells)[i * e.nf + j]? = some v := by
  induction L generalizing i with
  | nil => simp at h
  | cons y L ih =>
    rw [List.flatMap_cons]
    cases i with
    | zero =>
      obtain rfl : y = x := by simpa using h
      rw [Nat.zero_mul, Nat.zero_add, List.getElem?_append_left (List.getElem?_eq_some_iff.1 hv).1]
      exact hv
    | succ i =>
      rw [List.getElem?_append_right (by rw [e.len, Nat.add_mul]; omega), e.len, show (i + 1) * e.nf + j - e.nf = i * e.nf + j by rw [Nat.add_mul, Nat.one_mul]; omega]
      exact ih (by simpa using h)
theorem Enc.flat_one (L : List α) : ∀ u ∈ L.flatMap e.cells, u.oneCell' = true := by
  intro u hu
  obtain ⟨x, _, hx⟩ := List.mem_flatMap.1 hu
  exact e.one x u hx
theorem Enc.flat_set {L : List α} {i : Nat} (hi : i < L.length) (y : α) : (L.set i y).flatMap e.cells = (L.flatMap e.cells).take (i * e.nf) ++ e.cells y ++ (L.flatMap e.cells).drop (i * e.nf + e.nf) := by
  induction L generalizing i with
  | nil => simp at hi
  | cons x L ih =>
    cases i with
    | zero => simp [← e.len x]
    | succ i =>
      simp only [List.length_cons] at hi
      rw [List.set_cons_succ, List.flatMap_cons, ih (by omega), List.flatMap_cons]
      have h1 : (i + 1) * e.nf = (e.cells x).length + i * e.nf := by rw [e.len, Nat.add_mul]; omega
      rw [h1, List.take_length_add_append, Nat.add_assoc, List.drop_length_add_append, List.append_assoc, List.append_assoc, List.append_assoc]
end

/-- A list that is read; it lies below block B. -/
structure Rd {α : Type} (e : Enc α) (w : World) (B : Nat) (A : Option Addr) (n c : Nat) (L : List α) : Prop where
  len : L.length = n
  cap : n ≤ c
  max : c ≤ 9223372036854775807
  at_ : 0 < n → ∃ b off, A = some ⟨b, off, none⟩ ∧ b < B ∧ ∀ (i : Nat) (x : α), L[i]? = some x → ∀ (j : Nat) (v : Value), (e.cells x)[j]? = some v → w.cell? ⟨b, off + i * e.nf + j, none⟩ = some v

section
variable {α : Type} {e : Enc α} {w w' : World} {B B' : Nat} {A : Option Addr} {n c m : Nat} {L : List α}
theorem Rd.keep (h : Rd e w B A n c L) (hk : ∀ p : Addr, p.block < B → w'.cell? p = w.cell? p) : Rd e w' B A n c L :=
  ⟨h.len, h.cap, h.max, fun hn => by
    obtain ⟨b, off, ea, hb, hc⟩ := h.at_ hn
    exact ⟨b, off, ea, hb, fun i x hx j v hv => (hk _ hb).trans (hc i x hx j v hv)⟩⟩
theorem Rd.mono (h : Rd e w B A n c L) (hB : B ≤ B') : Rd e w B' A n c L :=
  ⟨h.len, h.cap, h.max, fun hn => by
    obtain ⟨b, off, ea, hb, hc⟩ := h.at_ hn
    exact ⟨b, off, ea, Nat.lt_of_lt_of_le hb hB, hc⟩⟩
theorem Rd.below (h : Rd e w B A n c L) (hb : Below B w w') : Rd e w' B A n c L := h.keep fun _ hp => hb.cell hp
/-- Behind a call that leaves what was there as it was. -/
theorem Rd.on (h : Rd e w w.heap.size A n c L) (hb : Below w.heap.size w w') : Rd e w' w'.heap.size A n c L := (h.below hb).mono hb.size
theorem Rd.drewN (h : Rd e w B A n c L) (i : Nat) : Rd e (w.drewN i) B A n c L := ⟨h.len, h.cap, h.max, h.at_⟩
theorem Rd.drew (h : Rd e w B A n c L) : Rd e w.drew B A n c L := ⟨h.len, h.cap, h.max, h.at_⟩
theorem Rd.alloc (h : Rd e w w.heap.size A n c L) (o : Obj) : Rd e (w.alloc o) (w.alloc o).heap.size A n c L := h.on ((Below.refl _ _).alloc (Nat.le_refl _) o)
theorem Rd.take (h : Rd e w B A n c L) (hm : m ≤ n) : Rd e w B A m c (L.take m) :=
  ⟨by rw [List.length_take, h.len]; omega, by have := h.cap; omega, h.max, fun hn => by
    obtain ⟨b, off, ea, hb, hc⟩ := h.at_ (by omega)
    refine ⟨b, off, ea, hb, fun i x hx => hc i x ?_⟩
    rw [List.getElem?_take] at hx
    split at hx
    · exact hx
    · cases hx⟩
theorem Rd.get (h : Rd e w B A n c L) {i : Nat} (hi : i < n) : ∃ b off x, A = some ⟨b, off, none⟩ ∧ b < B ∧ L[i]? = some x ∧ ∀ (j : Nat) (v : Value), (e.cells x)[j]? = some v → w.cell? ⟨b, off + i * e.nf + j, none⟩ = some v := by
  obtain ⟨b, off, ea, hb, hc⟩ := h.at_ (by omega)
  have hl : i < L.length := by rw [h.len]; exact hi
  exact ⟨b, off, L[i], ea, hb, List.getElem?_eq_getElem hl, hc i _ (List.getElem?_eq_getElem hl)⟩
theorem Rd.nil (w : World) (B : Nat) (A : Option Addr) (c : Nat) (hc : c ≤ 9223372036854775807) : Rd e w B A 0 c [] := ⟨rfl, Nat.zero_le _, hc, fun h => absurd h (by omega)⟩
theorem Rd.new (w : World) (T : TypeId) (x : α) (cs : Array Value) (hcs : cs.toList = e.cells x) : Rd e (w.alloc (.cells cs T)) (w.alloc (.cells cs T)).heap.size (some ⟨w.heap.size, 0, none⟩) 1 1 [x] := by
  refine ⟨rfl, Nat.le_refl _, by omega, fun _ => ⟨_, 0, rfl, by simp, fun i y hy j v hv => ?_⟩⟩
  have hi : i = 0 := by
    have := (List.getElem?_eq_some_iff.1 hy).1
    simp at this; omega
  subst hi
  obtain rfl : x = y := by simpa using hy
  rw [← hcs] at hv
  rw [Nat.zero_mul, Nat.add_zero, Nat.zero_add, cell_of_row _ _ _ cs T (0, 0) (heap_alloc_new w _)]
  simpa using hv
theorem Rd.newAt (w : World) (T : TypeId) (x : α) (cs : Array Value) (hcs : cs.toList = e.cells x) (g : Nat) (hg : w.heap.size = g) : Rd e (w.alloc (.cells cs T)) (w.alloc (.cells cs T)).heap.size (some ⟨g, 0, none⟩) 1 1 [x] := by
  subst hg; exact Rd.new w T x cs hcs
theorem Rd.many (w : World) (T : TypeId) (xs : List α) (cs : Array Value) (hcs : cs.toList = xs.flatMap e.cells) (m : Nat) (hm : xs.length = m) (hm2 : m ≤ 1000000) (g : Nat) (hg : w.heap.size = g) : Rd e (w.alloc (.cells cs T)) (w.alloc (.cells cs T)).heap.size (some ⟨g, 0, none⟩) m m xs := by
  subst hg
  refine ⟨hm, Nat.le_refl _, by omega, fun _ => ⟨_, 0, rfl, by simp, fun i y hy j v hv => ?_⟩⟩
  have h := Enc.flat_get hy hv
  rw [← hcs] at h
  rw [Nat.zero_add, cell_of_row _ _ _ cs T (0, 0) (heap_alloc_new w _)]
  simpa using h
end

/-- A list that the call made itself, in a block from 'base' on. -/
structure Ow {α : Type} (e : Enc α) (w : World) (base : Nat) (E : TypeId) (A : Option Addr) (n c : Nat) (L : List α) : Prop where
  len : L.length = n
  row : w.ownsRow base E e.nf (.slice A n c) n (L.flatMap e.cells)

section
variable {α : Type} {e : Enc α} {w w' : World} {base base' g : Nat} {E : TypeId} {A : Option Addr} {n c m B : Nat} {L : List α}
theorem Ow.form (h : Ow e w base E A n c L) : (A = none ∧ n = 0 ∧ c = 0) ∨
    ∃ g cur, A = some ⟨g, 0, none⟩ ∧ base ≤ g ∧ g < w.heap.size ∧ w.heap[g]? = some (.cells cur E (0, 0)) ∧ n ≤ c ∧ c ≤ maxLen ∧ cur.size = c * e.nf ∧ cur.toList.take (n * e.nf) = L.flatMap e.cells := by
  rcases h.row.2 with ⟨ea, hn⟩ | ⟨g, cap, cur, ea, hb, hg, h1, h2, h3, h4⟩
  · injection ea with e1 e2 e3
    exact .inl ⟨e1, hn, e3⟩
  · injection ea with e1 e2 e3
    subst e3
    exact .inr ⟨g, cur, e1, hb, (Array.getElem?_eq_some_iff.1 hg).1, hg, h1, h2, h3, h4⟩
theorem Ow.nil (w : World) (base : Nat) (E : TypeId) : Ow e w base E none 0 0 [] := ⟨rfl, World.ownsRow_nil _ _ _ _⟩
theorem Ow.rd (h : Ow e w base E A n c L) : Rd e w w.heap.size A n c L := by
  rcases h.form with ⟨rfl, rfl, rfl⟩ | ⟨g, cur, rfl, hb, hg, hh, h1, h2, h3, h4⟩
  · exact ⟨h.len, Nat.le_refl _, by omega, fun h => absurd h (by omega)⟩
  · refine ⟨h.len, h1, by simpa [maxLen] using h2, fun _ => ⟨g, 0, rfl, hg, fun i x hx j v hv => ?_⟩⟩
    have hi : i < n := by rw [← h.len]; exact (List.getElem?_eq_some_iff.1 hx).1
    have hj := Enc.cell_lt hv
    have hlt : i * e.nf + j < n * e.nf := by
      have : (i + 1) * e.nf ≤ n * e.nf := Nat.mul_le_mul_right _ hi
      rw [Nat.add_mul] at this; omega
    rw [Nat.zero_add, h.row.cellAt _ hlt]
    exact Enc.flat_get hx hv
theorem Ow.mono (h : Ow e w base E A n c L) (hb : base' ≤ base) : Ow e w base' E A n c L := by
  refine ⟨h.len, h.row.1, ?_⟩
  rcases h.row.2 with h' | ⟨g, cap, cur, ea, h1, rest⟩
  · exact .inl h'
  · exact .inr ⟨g, cap, cur, ea, by omega, rest⟩
theorem Ow.keep (h : Ow e w base E A n c L) (hk : ∀ g, A = some ⟨g, 0, none⟩ → w'.heap[g]? = w.heap[g]?) : Ow e w' base E A n c L := by
  refine ⟨h.len, h.row.1, ?_⟩
  rcases h.row.2 with h' | ⟨g, cap, cur, ea, h1, h2, rest⟩
  · exact .inl h'
  · refine .inr ⟨g, cap, cur, ea, h1, ?_, rest⟩
    injection ea with ea
    rw [hk g ea]; exact h2
theorem Ow.lt (h : Ow e w base E A n c L) {g o : Nat} {s : Option Nat} (ea : A = some ⟨g, o, s⟩) : base ≤ g ∧ g < w.heap.size := by
  rcases h.form with ⟨rfl, _, _⟩ | ⟨g', cur, rfl, hb, hg, _⟩
  · cases ea
  · injection ea with ea; injection ea with ea; subst ea; exact ⟨hb, hg⟩
theorem Ow.block (h : Ow e w base E A n c L) : ∀ g, A.map (·.block) = some g → base ≤ g ∧ g < w.heap.size := by
  intro g hg
  rcases A with _ | ⟨a, o, s⟩
  · cases hg
  · injection hg with hg
    subst hg
    exact h.lt rfl
theorem Ow.below (h : Ow e w base E A n c L) (hb : Below B w w') (hB : w.heap.size ≤ B) : Ow e w' base E A n c L :=
  h.keep fun g ea => hb.block g (by have := (h.lt ea).2; omega)
theorem Ow.on (h : Ow e w base E A n c L) (hb : Below w.heap.size w w') : Ow e w' base E A n c L := h.below hb (Nat.le_refl _)
theorem Ow.grown (h : Ow e w base E A n c L) {row : Option Nat} (hg : w.grownBy w' row) (hr : ∀ g, A = some ⟨g, 0, none⟩ → some g ≠ row) : Ow e w' base E A n c L :=
  h.keep fun g ea => hg.block g (h.lt ea).2 (hr g ea)
theorem Ow.drewN (h : Ow e w base E A n c L) (i : Nat) : Ow e (w.drewN i) base E A n c L := ⟨h.len, h.row⟩
theorem Ow.drew (h : Ow e w base E A n c L) : Ow e w.drew base E A n c L := ⟨h.len, h.row⟩
theorem Ow.alloc (h : Ow e w base E A n c L) (o : Obj) : Ow e (w.alloc o) base E A n c L := h.keep fun g ea => Below.heap_alloc w o g (h.lt ea).2
theorem Ow.far (h : Ow e w base E A n c L) {p : Addr} (hp : ∀ g, A = some ⟨g, 0, none⟩ → g ≠ p.block) (u : Value) : Ow e (w.setCell p u) base E A n c L :=
  h.keep fun g ea => Below.heap_setCell w p u g (hp g ea)
theorem Ow.frozen (h : Ow e w base E (some ⟨g, 0, none⟩) n c L) (i : Nat) : w.frozen? ⟨g, i, none⟩ = false := h.row.frozenAt i
theorem Ow.get (h : Ow e w base E A n c L) {i : Nat} (hi : i < n) : ∃ g x, A = some ⟨g, 0, none⟩ ∧ base ≤ g ∧ g < w.heap.size ∧ L[i]? = some x ∧ ∀ (j : Nat) (v : Value), (e.cells x)[j]? = some v → w.cell? ⟨g, i * e.nf + j, none⟩ = some v := by
  rcases h.form with ⟨_, h0, _⟩ | ⟨g, cur, rfl, hb, hg, _⟩
  · omega
  · obtain ⟨b, off, x, ea, _, hx, hc⟩ := h.rd.get hi
    have hl : i < L.length := by rw [h.len]; exact hi
    injection ea with ea; injection ea with e1 e2 e3; subst e1; subst e2
    exact ⟨g, x, rfl, hb, hg, hx, fun j v hv => by have := hc j v hv; rwa [Nat.zero_add] at this⟩
theorem Ow.put (h : Ow e w base E (some ⟨g, 0, none⟩) n c L) {i : Nat} (hi : i < n) (y : α) (hw : ∃ cur, w.heap[g]? = some (.cells cur E (0, 0)) ∧
    w'.heap[g]? = some (.cells (cur.toList.take (i * e.nf) ++ e.cells y ++ cur.toList.drop (i * e.nf + e.nf)).toArray E (0, 0))) : Ow e w' base E (some ⟨g, 0, none⟩) n c (L.set i y) := by
  obtain ⟨cur, hc, hc'⟩ := hw
  rcases h.form with ⟨h0, _⟩ | ⟨g', cur', ea, hb, hlt, hh, h1, h2, h3, h4⟩
  · cases h0
  injection ea with ea; injection ea with ea; subst ea
  rw [hc] at hh; injection hh with hh; injection hh with hh; subst hh
  have hin : (i + 1) * e.nf ≤ n * e.nf := Nat.mul_le_mul_right _ hi
  have hnc : n * e.nf ≤ c * e.nf := Nat.mul_le_mul_right _ h1
  rw [Nat.add_mul, Nat.one_mul] at hin
  have hl : (e.cells y).length = e.nf := e.len y
  have hs : cur.toList.length = c * e.nf := by simpa using h3
  refine ⟨by rw [List.length_set, h.len], by rw [Enc.flat_len, List.length_set, h.len], .inr ⟨g, c, _, rfl, hb, hc', h1, h2, ?_, ?_⟩⟩
  · simp only [List.size_toArray, List.length_append, List.length_take, List.length_drop, hl, hs]; omega
  · have hil : i < L.length := by rw [h.len]; exact hi
    rw [Enc.flat_set hil y, ← h4]
    refine List.ext_getElem? fun k => ?_
    have hT : (List.take (i * e.nf) cur.toList).length = i * e.nf := by rw [List.length_take, hs]; omega
    have hT2 : (List.take (i * e.nf) (List.take (n * e.nf) cur.toList)).length = i * e.nf := by rw [List.length_take, List.length_take, hs]; omega
    show (List.take (n * e.nf) (List.take (i * e.nf) cur.toList ++ e.cells y ++ List.drop (i * e.nf + e.nf) cur.toList))[k]? = _
    rw [List.getElem?_take]
    have R0 : ∀ (X Y Z : List Value) (a : Nat), X.length = a → k < a → (X ++ Y ++ Z)[k]? = X[k]? := fun X Y Z a hX h => by
      rw [List.append_assoc, List.getElem?_append_left (by omega)]
    have R1 : ∀ (X Y Z : List Value) (a : Nat), X.length = a → a ≤ k → k < a + Y.length → (X ++ Y ++ Z)[k]? = Y[k - a]? := fun X Y Z a hX h1 h2 => by
      rw [List.append_assoc, List.getElem?_append_right (by omega), List.getElem?_append_left (by omega), hX]
    have R2 : ∀ (X Y Z : List Value) (a b : Nat), X.length = a → Y.length = b → a + b ≤ k → (X ++ Y ++ Z)[k]? = Z[k - (a + b)]? := fun X Y Z a b hX hY h => by
      rw [List.getElem?_append_right (by rw [List.length_append]; omega), List.length_append, hX, hY]
    by_cases hk1 : k < i * e.nf
    · rw [if_pos (by omega), R0 _ _ _ _ hT hk1, R0 _ _ _ _ hT2 hk1, List.getElem?_take, List.getElem?_take, List.getElem?_take, if_pos hk1, if_pos hk1, if_pos (by omega)]
    · by_cases hk2 : k < i * e.nf + e.nf
      · rw [if_pos (by omega), R1 _ _ _ _ hT (by omega) (by omega), R1 _ _ _ _ hT2 (by omega) (by omega)]
      · rw [R2 _ _ _ _ _ hT hl (by omega), R2 _ _ _ _ _ hT2 hl (by omega), List.getElem?_drop, List.getElem?_drop, List.getElem?_take]
        rw [show i * e.nf + e.nf + (k - (i * e.nf + e.nf)) = k by omega]

end

section
variable {w w' : World} {g : Nat} {t : TypeId} {cs : Array Value}
/-- A block that is known whole. -/
def Blk (w : World) (g : Nat) (t : TypeId) (cs : Array Value) : Prop := w.heap[g]? = some (.cells cs t (0, 0))
theorem Blk.lt (h : Blk w g t cs) : g < w.heap.size := by
  rcases Nat.lt_or_ge g w.heap.size with hlt | hge
  · exact hlt
  · unfold Blk at h; rw [Array.getElem?_eq_none hge] at h; cases h
theorem Blk.cell (h : Blk w g t cs) (i : Nat) : w.cell? ⟨g, i, none⟩ = cs[i]? := cell_of_row w g i cs t (0, 0) h
theorem Blk.frozen (h : Blk w g t cs) (i : Nat) : w.frozen? ⟨g, i, none⟩ = false := by
  unfold Blk at h
  simp [World.frozen?, h]
theorem Blk.new (w : World) (t : TypeId) (cs : Array Value) : Blk (w.alloc (.cells cs t)) w.heap.size t cs := heap_alloc_new w _
theorem Blk.drew (h : Blk w g t cs) : Blk w.drew g t cs := h
theorem Blk.drewN (h : Blk w g t cs) (n : Nat) : Blk (w.drewN n) g t cs := h
theorem Blk.alloc (h : Blk w g t cs) (o : Obj) : Blk (w.alloc o) g t cs := (Below.heap_alloc w o g h.lt).trans h
theorem Blk.set_ (h : Blk w g t cs) (i : Nat) (u : Value) : Blk (w.setCell ⟨g, i, none⟩ u) g t (cs.setIfInBounds i u) := by
  unfold Blk at h ⊢
  simp [World.setCell, Array.getElem?_modify, h]
theorem Blk.far (h : Blk w g t cs) {p : Addr} (hp : g ≠ p.block) (u : Value) : Blk (w.setCell p u) g t cs := (Below.heap_setCell w p u g hp).trans h
theorem Blk.below {B : Nat} (h : Blk w g t cs) (hb : Below B w w') (hg : g < B) : Blk w' g t cs := (hb.block g hg).trans h
theorem Blk.keep (h : Blk w g t cs) (hb : Below w.heap.size w w') : Blk w' g t cs := h.below hb h.lt
theorem Blk.grown {row : Option Nat} (h : Blk w g t cs) (hb : w.grownBy w' row) (hg : some g ≠ row) : Blk w' g t cs := (hb.block g h.lt hg).trans h
end
theorem grownBy_setCell (w : World) (g i : Nat) (u : Value) : w.grownBy (w.setCell ⟨g, i, none⟩ u) (some g) :=
  ⟨rfl, rfl, rfl, by simp [World.setCell], fun k _ hk => Below.heap_setCell _ _ _ _ (fun e => hk (by rw [e]))⟩
theorem grownBy_drew {w w' : World} {row : Option Nat} (h : w.grownBy w' row) : w.grownBy w'.drew row := ⟨h.os, h.tape, h.output, h.size, h.block⟩
theorem grownBy_drewN {w w' : World} {row : Option Nat} (h : w.grownBy w' row) (n : Nat) : w.grownBy (w'.drewN n) row := ⟨h.os, h.tape, h.output, h.size, h.block⟩
theorem grownBy_below {w w' : World} (h : Below w.heap.size w w') (row : Option Nat) : w.grownBy w' row := ⟨h.os, h.tape, h.output, h.size, fun k hk _ => h.block k hk⟩
theorem below_drewN {B : Nat} {w w' : World} (h : Below B w w') (n : Nat) : Below B w (w'.drewN n) := ⟨h.os, h.tape, h.output, h.size, h.block⟩
theorem below_grown {B : Nat} {w0 w w' : World} {g : Nat} (h : Below B w0 w) (hg : w.grownBy w' (some g)) (hB : B ≤ g) (hz : B ≤ w0.heap.size) : Below B w0 w' :=
  ⟨hg.os.trans h.os, hg.tape.trans h.tape, hg.output.trans h.output, Nat.le_trans h.size hg.size, fun k hk =>
    (hg.block k (Nat.lt_of_lt_of_le hk (Nat.le_trans hz h.size)) (fun e => by cases e; omega)).trans (h.block k hk)⟩
theorem below_alloc (w : World) (o : Obj) : Below w.heap.size w (w.alloc o) := (Below.refl _ _).alloc (Nat.le_refl _) o
theorem below_on {w w1 w2 : World} (h : Below w.heap.size w w1) (k : Below w1.heap.size w1 w2) : Below w.heap.size w w2 := h.trans (k.mono h.size)
end Go.Proofs.Ytchhkokpjdkkiaa

namespace Go.Proofs.Ytchhkokpjdkkiaa

structure Pu where
  b : Int
  bit : Bool
  cl : Int
  ph : Int
  seen : Bool
structure Li where
  ph : Int
  b : Int
  bit : Bool
  bright : Bool
structure Ck where
  b : Int
  k : Int
structure No where
  slot : Int
  how : Int
  b : Int
  bit : Bool
structure Ru where
  k : Int
  fr : Int
  to : Int
  a : Int
  b : Int
def ePu : Enc Pu := ⟨5, fun p => [.int .i64 p.b, .bool p.bit, .int .i64 p.cl, .int .i64 p.ph, .bool p.seen], fun _ => rfl, by simp [Value.oneCell'], by omega⟩
def eLi : Enc Li := ⟨4, fun p => [.int .i64 p.ph, .int .i64 p.b, .bool p.bit, .bool p.bright], fun _ => rfl, by simp [Value.oneCell'], by omega⟩
def eCk : Enc Ck := ⟨2, fun p => [.int .i64 p.b, .int .i64 p.k], fun _ => rfl, by simp [Value.oneCell'], by omega⟩
def eNo : Enc No := ⟨4, fun p => [.int .i64 p.slot, .int .i64 p.how, .int .i64 p.b, .bool p.bit], fun _ => rfl, by simp [Value.oneCell'], by omega⟩
def eRu : Enc Ru := ⟨5, fun p => [.int .i64 p.k, .int .i64 p.fr, .int .i64 p.to, .int .i64 p.a, .int .i64 p.b], fun _ => rfl, by simp [Value.oneCell'], by omega⟩

/-! ### Pulses -/
def okPu (p : Pu) : Bool := decide (0 ≤ p.b ∧ p.b ≤ 1 ∧ 0 ≤ p.cl ∧ p.cl ≤ 2 ∧ 0 ≤ p.ph ∧ p.ph ≤ 3)
def pulsesErr (L : List Pu) : Int := if 4096 < L.length then 5 else if L.all okPu then 0 else 2
def okCk (p : Ck) : Bool := decide (0 ≤ p.b ∧ p.b ≤ 1 ∧ 0 ≤ p.k ∧ p.k ≤ 3)
/-- Slot i of pulse p is a slot that agrees. -/
def agr (c : List Ck) (sh : Int) (i : Nat) (p : Pu) : Bool :=
  decide (0 ≤ (i : Int) + sh) && (match c[((i : Int) + sh).toNat]? with
    | some k => p.seen && decide (k.b = p.b) && decide (k.k = 1 ∨ k.k = 2)
    | none => false)
def dif (c : List Ck) (sh : Int) (i : Nat) (p : Pu) : Bool :=
  agr c sh i p && (match c[((i : Int) + sh).toNat]? with
    | some k => p.bit != decide (k.k = 2)
    | none => false)
def slotsOf (P : Nat → Pu → Bool) (L : List Pu) (m : Nat) : List Nat := (List.range m).filter fun i => match L[i]? with
  | some p => P i p
  | none => false
theorem slotsOf_zero (P : Nat → Pu → Bool) (L : List Pu) : slotsOf P L 0 = [] := rfl
theorem slotsOf_yes {P : Nat → Pu → Bool} {L : List Pu} {m : Nat} {p : Pu} (h : L[m]? = some p) (hp : P m p = true) : slotsOf P L (m + 1) = slotsOf P L m ++ [m] := by
  unfold slotsOf; rw [List.range_succ, List.filter_append]; simp [h, hp]
theorem slotsOf_no {P : Nat → Pu → Bool} {L : List Pu} {m : Nat} {p : Pu} (h : L[m]? = some p) (hp : P m p = false) : slotsOf P L (m + 1) = slotsOf P L m := by
  unfold slotsOf; rw [List.range_succ, List.filter_append]; simp [h, hp]
theorem slotsOf_len (P : Nat → Pu → Bool) (L : List Pu) (m : Nat) : (slotsOf P L m).length ≤ m := by
  unfold slotsOf
  have := List.length_filter_le (fun i => match L[i]? with | some p => P i p | none => false) (List.range m)
  simpa using this

/-- What Agree returns: the error, and without one the slots that agree and those that differ. -/
def agreeErr (L : List Pu) (C : List Ck) (sh : Int) : Int :=
  if sh < -16 ∨ 16 < sh then 3 else if 4096 < L.length ∨ 4096 < C.length then 5 else if L.all okPu then (if C.all okCk then 0 else 2) else 2
def agreeSame (L : List Pu) (C : List Ck) (sh : Int) : List Nat := if agreeErr L C sh = 0 then slotsOf (agr C sh) L L.length else []
def agreeWrong (L : List Pu) (C : List Ck) (sh : Int) : List Nat := if agreeErr L C sh = 0 then slotsOf (dif C sh) L L.length else []

/-! ### Notes -/
def okNo (x : No) : Bool := decide (1 ≤ x.how ∧ x.how ≤ 3 ∧ 0 ≤ x.b ∧ x.b ≤ 1)
def inNo (n : Nat) (x : No) : Bool := decide (0 ≤ x.slot ∧ x.slot < n)
def noteErr (n : Nat) : List No → Int
  | [] => 0
  | x :: r => if okNo x then (if inNo n x then noteErr n r else 3) else 2
theorem noteErr_ok {n : Nat} {N : List No} (h : N.all (fun x => okNo x && inNo n x) = true) : noteErr n N = 0 := by
  induction N with
  | nil => rfl
  | cons x N ih =>
    simp only [List.all_cons, Bool.and_eq_true] at h
    rw [noteErr, if_pos h.1.1, if_pos h.1.2, ih h.2]
theorem noteErr_at {n k : Nat} {N : List No} {x : No} (h : (N.take k).all (fun x => okNo x && inNo n x) = true) (hx : N[k]? = some x) : (okNo x = false → noteErr n N = 2) ∧ (okNo x = true → inNo n x = false → noteErr n N = 3) := by
  induction N generalizing k with
  | nil => simp at hx
  | cons y N ih =>
    cases k with
    | zero =>
      obtain rfl : y = x := by simpa using hx
      exact ⟨fun h1 => by rw [noteErr, if_neg (by simp [h1])], fun h1 h2 => by rw [noteErr, if_pos h1, if_neg (by simp [h2])]⟩
    | succ k =>
      simp only [List.take_succ_cons, List.all_cons, Bool.and_eq_true] at h
      rw [noteErr, if_pos h.1.1, if_pos h.1.2]
      exact ih h.2 (by simpa using hx)
/-- What a note marks. -/
def mark (L : List Pu) (K : List Bool) (x : No) : List Bool :=
  if decide (x.how = 2) || (match L[x.slot.toNat]? with
    | some p => decide (x.b = p.b)
    | none => false) then K.set x.slot.toNat true else K
def marks (L : List Pu) (N : List No) : List Bool := N.foldl (mark L) (List.replicate L.length false)
theorem marks_snoc {L : List Pu} {N : List No} {k : Nat} {x : No} (hx : N[k]? = some x) : marks L (N.take (k + 1)) = mark L (marks L (N.take k)) x := by
  unfold marks; rw [List.take_add_one, hx, List.foldl_append]; rfl
theorem mark_yes {L : List Pu} {K : List Bool} {x : No} {p : Pu} {q : Nat} (hq : x.slot = q) (hp : L[q]? = some p) (h : x.how = 2 ∨ x.b = p.b) : mark L K x = K.set q true := by
  unfold mark; rw [hq]; simp only [Int.toNat_natCast, hp]; rw [if_pos (by simpa using h)]
theorem mark_no {L : List Pu} {K : List Bool} {x : No} {p : Pu} {q : Nat} (hq : x.slot = q) (hp : L[q]? = some p) (h1 : ¬ x.how = 2) (h2 : ¬ x.b = p.b) : mark L K x = K := by
  unfold mark; rw [hq]; simp only [Int.toNat_natCast, hp]; rw [if_neg (by simp [h1, h2])]
def idx (K : List Bool) (m : Nat) : List Nat := (List.range m).filter fun i => K.getD i false
theorem idx_yes {K : List Bool} {m : Nat} (h : K[m]? = some true) : idx K (m + 1) = idx K m ++ [m] := by
  unfold idx; rw [List.range_succ, List.filter_append]; simp [h]
theorem idx_no {K : List Bool} {m : Nat} (h : K[m]? = some false) : idx K (m + 1) = idx K m := by
  unfold idx; rw [List.range_succ, List.filter_append]; simp [h]
theorem idx_len (K : List Bool) (m : Nat) : (idx K m).length ≤ m := by
  unfold idx
  have := List.length_filter_le (fun i => K.getD i false) (List.range m)
  simpa using this
def knowsErr (L : List Pu) (N : List No) : Int := if pulsesErr L ≠ 0 then pulsesErr L else if 131072 < N.length then 5 else noteErr L.length N
def knowsL (L : List Pu) (N : List No) : List Nat := if knowsErr L N = 0 then idx (marks L N) L.length else []

/-! ### Draws -/
def nx (s : Nat) : Nat := (4906513781625342421 * s + 1181783497276652981) % 18446744073709551616
def ny1 (t : Nat) : Nat := 7809847782465536323 * (t ^^^ t / 4294967296) % 18446744073709551616
def ny (s : Nat) : Nat := ny1 (nx s) ^^^ ny1 (nx s) / 536870912
theorem nx_lt (s : Nat) : nx s < 18446744073709551616 := Nat.mod_lt _ (by omega)
theorem ny1_lt (s : Nat) : ny1 s < 18446744073709551616 := Nat.mod_lt _ (by omega)
theorem ny_lt (s : Nat) : ny s < 18446744073709551616 :=
  Nat.xor_lt_two_pow (n := 64) (ny1_lt _) (Nat.lt_of_le_of_lt (Nat.div_le_self _ _) (ny1_lt _))
def bel (s n : Nat) : Nat := ny s % n
end Go.Proofs.Ytchhkokpjdkkiaa
