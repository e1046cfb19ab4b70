/- Words for memory that the walks of this claim share: a slice of integers that is only read ('Sl'), one that the call made itself ('Own'), and the laws of make, append, copy and clear in these words. Plain lemmas; no condition. -/
import Derived.WalkKit
import Derived.WalkSpells
import Derived.WalkLawsBesides
import Derived.BigQuiet
import Derived.Deep.QuietTactic
import Derived.Laws.CopyOwn
import Derived.Maps.AppendAt
namespace Go.Proofs.Ytchhkokpjdkkiaa.Ex
open Go.RowKit

theorem hide {p : Prop} (h : p) : Hid p := h

def ints (k : IntKind) (l : List Nat) : List Value := l.map fun (n : Nat) => Value.int k (n : Int)

theorem ints_length (k : IntKind) (l : List Nat) : (ints k l).length = l.length := by simp [ints]
theorem ints_get (k : IntKind) (l : List Nat) (j : Nat) (h : j < l.length) : (ints k l)[j]? = some (.int k (l.getD j 0)) := by
  simp [ints, h]
theorem ints_one (k : IntKind) (l : List Nat) : ∀ u ∈ ints k l, u.oneCell' = true := by
  intro u hu
  obtain ⟨n, _, rfl⟩ := List.mem_map.1 hu
  rfl
theorem ints_append (k : IntKind) (l m : List Nat) : ints k (l ++ m) = ints k l ++ ints k m := by simp [ints]
theorem ints_take (k : IntKind) (l : List Nat) (m : Nat) : ints k (l.take m) = (ints k l).take m := by simp [ints]
theorem ints_set (k : IntKind) (l : List Nat) (i y : Nat) : ints k (l.set i y) = (ints k l).set i (.int k y) := by simp [ints]
theorem ints_replicate (k : IntKind) (n : Nat) : ints k (List.replicate n 0) = List.replicate n (.int k 0) := by simp [ints]
theorem addr_add (g o j : Nat) : (⟨g, o, none⟩ : Addr).add j = ⟨g, o + j, none⟩ := by
  unfold Addr.add; split
  · subst_vars; rfl
  · rfl

/-- A slice of integers that is read: its numbers; it lies below block B. -/
structure Sl (w : World) (B : Nat) (k : IntKind) (A : Option Addr) (n c : Nat) (l : List Nat) : Prop where
  len : l.length = n
  cap : n ≤ c
  max : c ≤ 9223372036854775807
  at_ : 0 < n → ∃ b off, A = some ⟨b, off, none⟩ ∧ b < B ∧ ∀ j, j < n → w.cell? ⟨b, off + j, none⟩ = some (.int k (l.getD j 0))

section
variable {w w' : World} {B B' : Nat} {k : IntKind} {A : Option Addr} {n c m : Nat} {l : List Nat}
theorem Sl.keep (h : Sl w B k A n c l) (hk : ∀ p : Addr, p.block < B → w'.cell? p = w.cell? p) : Sl w' B k A n c l :=
  ⟨h.len, h.cap, h.max, fun hn => by
    obtain ⟨b, off, e, hb, hc⟩ := h.at_ hn
    exact ⟨b, off, e, hb, fun j hj => (hk _ hb).trans (hc j hj)⟩⟩
theorem Sl.mono (h : Sl w B k A n c l) (hB : B ≤ B') : Sl w B' k A n c l :=
  ⟨h.len, h.cap, h.max, fun hn => by
    obtain ⟨b, off, e, hb, hc⟩ := h.at_ hn
    exact ⟨b, off, e, by omega, hc⟩⟩
theorem Sl.below (h : Sl w B k A n c l) (hb : Below B w w') : Sl w' B k A n c l := h.keep fun _ hp => hb.cell hp
theorem Sl.drewN (h : Sl w B k A n c l) (i : Nat) : Sl (w.drewN i) B k A n c l := ⟨h.len, h.cap, h.max, h.at_⟩
theorem Sl.drew (h : Sl w B k A n c l) : Sl w.drew B k A n c l := ⟨h.len, h.cap, h.max, h.at_⟩
theorem Sl.take (h : Sl w B k A n c l) (hm : m ≤ n) : Sl w B k A m c (l.take m) :=
  ⟨by rw [List.length_take, h.len]; omega, by have := h.cap; omega, h.max, fun hn => by
    obtain ⟨b, off, e, hb, hc⟩ := h.at_ (by omega)
    refine ⟨b, off, e, hb, fun j hj => ?_⟩
    rw [hc j (by omega)]
    simp [hj]⟩
theorem Sl.cell (h : Sl w B k A n c l) {i : Nat} (hi : i < n) : ∃ b off x, A = some ⟨b, off, none⟩ ∧ b < B ∧ l.getD i 0 = x ∧ x ∈ l ∧ w.cell? ⟨b, off + i, none⟩ = some (.int k ↑x) := by
  obtain ⟨b, off, e, hb, hc⟩ := h.at_ (by omega)
  have hl : i < l.length := by rw [h.len]; exact hi
  refine ⟨b, off, _, e, hb, rfl, ?_, hc i hi⟩
  rw [List.getD_eq_getElem?_getD, List.getElem?_eq_getElem hl]
  exact List.getElem_mem hl
theorem Sl.cell_or (h : Sl w B k A n c l) {d : Nat} (hd : ∀ x ∈ l, x < d) (h0 : 0 < d) (i : Nat) :
    (i < n ∧ ∃ (b off x : Nat), A = some ⟨b, off, none⟩ ∧ w.cell? ⟨b, off + i, none⟩ = some (.int k ↑x) ∧ Hid (l.getD i 0 = x) ∧ x < d) ∨
    (n ≤ i ∧ ∃ x : Nat, x ≤ 0 ∧ Hid (l.getD i 0 = x) ∧ x < d) := by
  rcases Nat.lt_or_ge i n with hi | hi
  · obtain ⟨b, off, x, e, _, hx, hm, hc⟩ := h.cell hi
    exact .inl ⟨hi, b, off, x, e, hc, hx, hd x hm⟩
  · refine .inr ⟨hi, 0, Nat.le_refl _, ?_, h0⟩
    have : l.length ≤ i := by rw [h.len]; exact hi
    show l.getD i 0 = 0
    simp [this]
theorem Sl.nil (w : World) (B : Nat) (k : IntKind) (A : Option Addr) (c : Nat) (hc : c ≤ 9223372036854775807) : Sl w B k A 0 c [] :=
  ⟨rfl, Nat.zero_le _, hc, fun h => absurd h (by omega)⟩
end

/-- A slice of integers that the call made itself, in a block from 'base' on. -/
structure Own (w : World) (base : Nat) (E : TypeId) (k : IntKind) (A : Option Addr) (n c : Nat) (l : List Nat) : Prop where
  len : l.length = n
  row : w.ownsRow base E 1 (.slice A n c) n (ints k l)

section
variable {w w' : World} {base base' g : Nat} {E : TypeId} {k : IntKind} {A : Option Addr} {n c m B : Nat} {l : List Nat}
theorem Own.form (h : Own w base E k A n c l) : (A = none ∧ n = 0 ∧ c = 0) ∨
    ∃ g cur, A = some ⟨g, 0, none⟩ ∧ base ≤ g ∧ g < w.heap.size ∧ w.heap[g]? = some (.cells cur E (0, 0)) ∧ n ≤ c ∧ c ≤ maxLen ∧ cur.size = c ∧ cur.toList.take n = ints k l := by
  rcases h.row.2 with ⟨e, hn⟩ | ⟨g, cap, cur, e, hb, hg, h1, h2, h3, h4⟩
  · injection e with e1 e2 e3
    exact .inl ⟨e1, hn, e3⟩
  · injection e with e1 e2 e3
    subst e3
    exact .inr ⟨g, cur, e1, hb, (Array.getElem?_eq_some_iff.1 hg).1, hg, h1, h2, by omega, by simpa using h4⟩
theorem Own.nil (w : World) (base : Nat) (E : TypeId) (k : IntKind) : Own w base E k none 0 0 [] := ⟨rfl, World.ownsRow_nil _ _ _ _⟩
theorem Own.sl (h : Own w base E k A n c l) : Sl w w.heap.size k A n c l := by
  rcases h.form with ⟨rfl, rfl, rfl⟩ | ⟨g, cur, rfl, hb, hg, hh, h1, h2, h3, h4⟩
  · exact ⟨h.len, Nat.le_refl _, by omega, fun h => absurd h (by omega)⟩
  · refine ⟨h.len, h1, by simpa [maxLen] using h2, fun _ => ⟨g, 0, rfl, hg, fun j hj => ?_⟩⟩
    have := h.row.cellAt j (by omega)
    simp only [Nat.zero_add]
    rw [this, ints_get _ _ _ (by rw [h.len]; exact hj)]
theorem Own.mono (h : Own w base E k A n c l) (hb : base' ≤ base) : Own w base' E k A n c l := by
  refine ⟨h.len, h.row.1, ?_⟩
  rcases h.row.2 with h' | ⟨g, cap, cur, e, h1, rest⟩
  · exact .inl h'
  · exact .inr ⟨g, cap, cur, e, by omega, rest⟩
theorem Own.take (h : Own w base E k A n c l) (hm : m ≤ n) : Own w base E k A m c (l.take m) := by
  rcases h.form with ⟨rfl, rfl, rfl⟩ | ⟨g, cur, rfl, hb, hg, hh, h1, h2, h3, h4⟩
  · obtain rfl : m = 0 := by omega
    simpa using Own.nil w base E k
  · have hl : (l.take m).length = m := by rw [List.length_take, h.len]; omega
    refine ⟨hl, by rw [ints_length, hl]; omega, .inr ⟨g, c, cur, rfl, hb, hh, by omega, h2, by omega, ?_⟩⟩
    rw [ints_take, ← h4, List.take_take]
    congr 1; omega
theorem Own.keep (h : Own w base E k A n c l) (hk : ∀ g, A = some ⟨g, 0, none⟩ → w'.heap[g]? = w.heap[g]?) : Own w' base E k A n c l := by
  refine ⟨h.len, h.row.1, ?_⟩
  rcases h.row.2 with h' | ⟨g, cap, cur, e, h1, h2, rest⟩
  · exact .inl h'
  · refine .inr ⟨g, cap, cur, e, h1, ?_, rest⟩
    injection e with e
    rw [hk g e]; exact h2
theorem Own.lt (h : Own w base E k A n c l) {g o : Nat} {s : Option Nat} (e : A = some ⟨g, o, s⟩) : base ≤ g ∧ g < w.heap.size := by
  rcases h.form with ⟨rfl, _, _⟩ | ⟨g', cur, rfl, hb, hg, _⟩
  · cases e
  · injection e with e; injection e with e; subst e; exact ⟨hb, hg⟩
theorem Own.below (h : Own w base E k A n c l) (hb : Below B w w') (hB : w.heap.size ≤ B) : Own w' base E k A n c l :=
  h.keep fun g e => hb.block g (by have := (h.lt e).2; omega)
theorem Own.grown (h : Own w base E k A n c l) {row : Option Nat} (hg : w.grownBy w' row) (hr : ∀ g, A = some ⟨g, 0, none⟩ → some g ≠ row) : Own w' base E k A n c l :=
  h.keep fun g e => hg.block g (h.lt e).2 (hr g e)
theorem Own.drewN (h : Own w base E k A n c l) (i : Nat) : Own (w.drewN i) base E k A n c l := ⟨h.len, h.row⟩
theorem Own.drew (h : Own w base E k A n c l) : Own w.drew base E k A n c l := ⟨h.len, h.row⟩
theorem Own.alloc (h : Own w base E k A n c l) (o : Obj) : Own (w.alloc o) base E k A n c l :=
  h.keep fun g e => Below.heap_alloc w o g (h.lt e).2
theorem Own.far (h : Own w base E k A n c l) {p : Addr} (hp : ∀ g, A = some ⟨g, 0, none⟩ → g ≠ p.block) (u : Value) : Own (w.setCell p u) base E k A n c l :=
  h.keep fun g e => Below.heap_setCell w p u g (hp g e)
theorem Own.cell (h : Own w base E k (some ⟨g, 0, none⟩) n c l) {i : Nat} (hi : i < n) : ∃ x, l.getD i 0 = x ∧ x ∈ l ∧ w.cell? ⟨g, i, none⟩ = some (.int k ↑x) := by
  have := h.row.cellAt i (by omega)
  have hl : i < l.length := by rw [h.len]; exact hi
  refine ⟨_, rfl, ?_, by rw [this, ints_get _ _ _ hl]⟩
  rw [List.getD_eq_getElem?_getD, List.getElem?_eq_getElem hl]
  exact List.getElem_mem hl
theorem Own.frozen (h : Own w base E k (some ⟨g, 0, none⟩) n c l) (i : Nat) : w.frozen? ⟨g, i, none⟩ = false := h.row.frozenAt i
theorem Own.store (h : Own w base E k (some ⟨g, 0, none⟩) n c l) (i y : Nat) {v : Value} (hv : v = .int k y) : Own (w.setCell ⟨g, i, none⟩ v) base E k (some ⟨g, 0, none⟩) n c (l.set i y) := by
  subst hv
  exact ⟨by rw [List.length_set, h.len], by rw [ints_set]; exact (h.row.stored i _).1⟩
end

section
variable {P : Program} (w : World) {ops : Array Oper} {rest : List Oper} {o : Oper} {a : Act} {Q : Exit → Act → World → Prop}

/-- 'max', 'min' of two integers: what the prover says that they are. -/
theorem wl_max (hg : o.guard = none) (x y : Operand) (ts : Array TypeId) (ho : o.op = .call { callee := .builtin .max, args := #[x, y], argTypes := ts }) (k k' : IntKind) (p q m : Int)
    (hx : a.eval x = .int k p) (hy : a.eval y = .int k' q) (hm : max p q = m) (hK : wpList P ops Q rest (a.put o.dst (.int k m)) w) : wpList P ops Q (o :: rest) a w := by
  refine wpList_plain hg fun K hKK => ?_
  have e : (if q > p then q else p) = m := by split <;> omega
  have hrun := run_max_int2 (P := P) w ts o.type k k' p q
  rw [e] at hrun
  unfold Oper.wp execOp
  simp only [ho, resolve, invoke, builtin, Sem.run_bind, Sem.run_pure, Result.andThen_ok, List.map_toArray, List.map_cons, List.map_nil, hx, hy, hrun]
  exact hKK _ _ hK
theorem wl_min (hg : o.guard = none) (x y : Operand) (ts : Array TypeId) (ho : o.op = .call { callee := .builtin .min, args := #[x, y], argTypes := ts }) (k k' : IntKind) (p q m : Int)
    (hx : a.eval x = .int k p) (hy : a.eval y = .int k' q) (hm : min p q = m) (hK : wpList P ops Q rest (a.put o.dst (.int k m)) w) : wpList P ops Q (o :: rest) a w := by
  refine wpList_plain hg fun K hKK => ?_
  have e : (if q < p then q else p) = m := by split <;> omega
  have hrun := run_min_int2 (P := P) w ts o.type k k' p q
  rw [e] at hrun
  unfold Oper.wp execOp
  simp only [ho, resolve, invoke, builtin, Sem.run_bind, Sem.run_pure, Result.andThen_ok, List.map_toArray, List.map_cons, List.map_nil, hx, hy, hrun]
  exact hKK _ _ hK

/-- 'make([]T, n)' of integers. -/
theorem wl_make (hg : o.guard = none) (l c : Operand) (t : TypeId) (hop : o.op = Op.makeSlice t l c) (E : TypeId) (k : IntKind) (bytes : Nat)
    (hu : P.underlying t = some (.slice E)) (hinfo : (P.info? E).map (fun i => (i.zero, i.size, i.bytes)) = some (some (.int k 0), 1, bytes)) (hby : bytes ≤ 8)
    (L C : Int) (n : Nat) (hl : a.eval l = .int .i64 L) (hc : a.eval c = .int .i64 C) (hL : L = (n : Int)) (hC : C = (n : Int)) (hn : n ≤ 1099511627776)
    (hK : ∀ w', Own w' w.heap.size E k (some ⟨w.heap.size, 0, none⟩) n n (List.replicate n 0) → w.grownBy w' none → w.heap.size < w'.heap.size →
      wpList P ops Q rest (a.put o.dst (.slice (some ⟨w.heap.size, 0, none⟩) n n)) w') :
    wpList P ops Q (o :: rest) a w := by
  obtain ⟨i, hi, hz, h1, h2⟩ := info_parts hinfo
  refine wpList_make_full w hg l c t hop w.heap.size E i (.int k 0) 1 hu hi hz h1 .i64 .i64 L C n hl hc hL hC ?_ (by simp only [maxLen]; omega) (Nat.le_refl _) ?_
  · rw [h2]
    have : bytes * n ≤ 8 * n := Nat.mul_le_mul_right _ hby
    omega
  · intro w' hown hgr
    have ho : Own w' w.heap.size E k (some ⟨w.heap.size, 0, none⟩) n n (List.replicate n 0) := by
      refine ⟨by simp, ?_⟩
      rw [ints_replicate]
      have : (madeCells (Value.int k 0).cells (n * 1)).toList = List.replicate n (.int k 0) := by
        rw [Nat.mul_one]; exact toList_madeCells_one _ _
      rw [← this]; exact hown
    exact hK w' ho hgr (ho.lt rfl).2

/-- 'append(out, xs...)' on a slice of the call's own; the source lies in memory. -/
theorem wl_append (hg : o.guard = none) (s x : Operand) (t : TypeId) (ho : o.op = .call { callee := .builtin .append, args := #[s, x], argTypes := #[t, t] })
    (base : Nat) (E : TypeId) (k : IntKind) (bytes : Nat) (hu : P.underlying t = some (.slice E)) (hinfo : (P.info? E).map (fun i => (i.zero, i.size, i.bytes)) = some (some (.int k 0), 1, bytes)) (hby : bytes ≤ 8)
    (A : Option Addr) (n c : Nat) (L : List Nat) (hs : a.eval s = .slice A n c) (hown : Own w base E k A n c L)
    (D : Option Addr) (m d : Nat) (news : List Nat) (hx : a.eval x = .slice D m d) (B : Nat) (hsl : Sl w B k D m d news)
    (hsz : n + m ≤ 1099511627776) (hbase : base ≤ w.heap.size)
    (hK : ∀ A' c' w', Own w' base E k A' (n + m) c' (L ++ news) → w.grownBy w' (A.map (·.block)) → (A' = A ∨ ∃ g, A' = some ⟨g, 0, none⟩ ∧ w.heap.size ≤ g) → wpList P ops Q rest (a.put o.dst (.slice A' (n + m) c')) w') :
    wpList P ops Q (o :: rest) a w := by
  obtain ⟨i, hi, hz, h1, h2⟩ := info_parts hinfo
  refine wpList_plain hg fun K hKK => ?_
  have key : ∃ A' c' w', (Builtin.append_ #[t, t] o.type #[.slice A n c, .slice D m d]).run P w = .ok (.slice A' (n + m) c') w' ∧ Own w' base E k A' (n + m) c' (L ++ news) ∧
      w.grownBy w' (A.map (·.block)) ∧ (A' = A ∨ ∃ g, A' = some ⟨g, 0, none⟩ ∧ w.heap.size ≤ g) := by
    by_cases hm : m = 0
    · subst hm
      have hn : news = [] := List.eq_nil_of_length_eq_zero hsl.len
      subst hn
      refine ⟨A, c, w, ?_, by simpa using hown, World.grownBy.refl w _, .inl rfl⟩
      rcases hown.form with ⟨rfl, rfl, rfl⟩ | ⟨g, cur, rfl, hb, hg, hh, h1', h2', h3', h4'⟩
      · have hl : ∀ (x : Addr), (loadCells x 0).run P w = .ok #[] w := fun x => by simpa using run_loadCells_list (P := P) w x [] (by simp)
        cases D <;> simp [Builtin.append_, run_underlying hu, sizeOf, typeInfo, hi, Builtin.lenOf, Builtin.firstCells, hl]
      · have hl : ∀ (x : Addr), (loadCells x 0).run P w = .ok #[] w := fun x => by simpa using run_loadCells_list (P := P) w x [] (by simp)
        cases D <;> simp [Builtin.append_, run_underlying hu, sizeOf, typeInfo, hi, Builtin.lenOf, Builtin.firstCells, h1', storeCells, hl]
    · obtain ⟨b, off, rfl, hb, hc⟩ := hsl.at_ (by omega)
      obtain ⟨v', w', hrun, hown', hgr, _, hat⟩ := run_append_own_at (P := P) w base t o.type E i (.int k 0) 1 bytes hu hi hz h1 h2 rfl (by omega) _ _ _ hown.row ⟨b, off, none⟩ m d (ints k news)
        (by rw [ints_length, hsl.len]; omega) (fun j u hj => by
          have hjl : j < news.length := by
            rcases Nat.lt_or_ge j news.length with h | h
            · exact h
            · rw [List.getElem?_eq_none (by rw [ints_length]; exact h)] at hj; cases hj
          rw [ints_get _ _ _ hjl] at hj
          rw [addr_add, hc j (by rw [← hsl.len]; exact hjl)]
          exact hj) (ints_one _ _) (by simp only [maxLen]; omega)
        (by have : (n + m) * bytes ≤ (n + m) * 8 := Nat.mul_le_mul_left _ hby
            omega) hbase
      have hb' : (Value.slice A n c).ownBlock = A.map (·.block) := by cases A <;> rfl
      rw [hb'] at hgr hat
      rcases hown'.2 with ⟨rfl, h0⟩ | ⟨g, cap, cur, rfl, hbg, hgg, h1', h2', h3', h4'⟩
      · omega
      · have hO : Own w' base E k (some ⟨g, 0, none⟩) (n + m) cap (L ++ news) := by
          refine ⟨by rw [List.length_append, hown.len, hsl.len], ?_⟩
          rw [ints_append]; exact hown'
        refine ⟨_, _, w', hrun, hO, hgr, ?_⟩
        rcases hat with hat | hat
        · left
          rcases hown.form with ⟨rfl, hn0, hc0⟩ | ⟨g0, cur0, rfl, _⟩
          · simp [Value.ownBlock] at hat
          · simp [Value.ownBlock] at hat; rw [hat]
        · right
          simp [Value.ownBlock] at hat
          exact ⟨g, rfl, by omega⟩
  obtain ⟨A', c', w', hrun, r1, r2, r3⟩ := key
  unfold Oper.wp execOp
  simp only [ho, resolve, invoke, builtin, Sem.run_bind, Sem.run_pure, Result.andThen_ok, List.map_toArray, List.map_cons, List.map_nil, hs, hx, hrun]
  exact hKK _ _ (hK A' c' w' r1 r2 r3)

theorem Own.setRow {w : World} {base g : Nat} {E : TypeId} {k : IntKind} {n c : Nat} {l m : List Nat} {cur : Array Value} (h : Own w base E k (some ⟨g, 0, none⟩) n c l) (hg : w.heap[g]? = some (.cells cur E (0, 0)))
    (vs : List Value) (hs : vs.length = cur.size) (hm : m.length = n) (ht : vs.take n = ints k m) : Own (w.setRow g vs.toArray) base E k (some ⟨g, 0, none⟩) n c m := by
  rcases h.form with ⟨h0, _⟩ | ⟨g', cur', e, hb, hlt, hh, h1, h2, h3, h4⟩
  · cases h0
  · injection e with e; injection e with e; subst e
    rw [hg] at hh; injection hh with hh; injection hh with hh; subst hh
    refine ⟨hm, by rw [ints_length, hm]; omega, .inr ⟨g, c, vs.toArray, rfl, hb, setRow_heap w g cur _ E (0, 0) hg, h1, h2, by simp; omega, by simpa using ht⟩⟩
theorem grownBy_setRow (w : World) (g : Nat) (cs : Array Value) : w.grownBy (w.setRow g cs) (some g) :=
  ⟨rfl, rfl, rfl, by simp, fun k _ hne => setRow_other w g k cs (fun e => hne (by rw [e]))⟩

/-- 'copy(dst, src)' of integers, dst a slice of the call's own. -/
theorem wl_copy (hg : o.guard = none) (d s : Operand) (dT sT : TypeId) (ho : o.op = .call { callee := .builtin .copy, args := #[d, s], argTypes := #[dT, sT] })
    (base : Nat) (E : TypeId) (k : IntKind) (bytes : Nat) (hu : P.underlying dT = some (.slice E)) (hinfo : (P.info? E).map (fun i => (i.zero, i.size, i.bytes)) = some (some (.int k 0), 1, bytes))
    (g n c : Nat) (L : List Nat) (hd : a.eval d = .slice (some ⟨g, 0, none⟩) n c) (hown : Own w base E k (some ⟨g, 0, none⟩) n c L)
    (S : Option Addr) (m cs : Nat) (news : List Nat) (hs : a.eval s = .slice S m cs) (B : Nat) (hsl : Sl w B k S m cs news)
    (hK : ∀ w', Own w' base E k (some ⟨g, 0, none⟩) n c (news.take n ++ L.drop m) → w.grownBy w' (some g) → wpList P ops Q rest (a.put o.dst (goInt (Nat.min m n : Nat))) w') :
    wpList P ops Q (o :: rest) a w := by
  obtain ⟨i, hi, hz, h1, h2⟩ := info_parts hinfo
  have hsz : (P.info? E).map (·.size) = some 1 := by rw [hi]; simp [h1]
  rcases hown.form with ⟨h0, _⟩ | ⟨g', cur, e, hb, hlt, hh, h1', h2', h3', h4'⟩
  · cases h0
  injection e with e; injection e with e; subst e
  refine wpList_plain hg fun K hKK => ?_
  have hlen := hsl.len
  have hlenL := hown.len
  have key : ∃ w', (Builtin.copy_ #[dT, sT] o.type #[.slice (some ⟨g, 0, none⟩) n c, .slice S m cs]).run P w = .ok (goInt (Nat.min m n : Nat)) w' ∧
      Own w' base E k (some ⟨g, 0, none⟩) n c (news.take n ++ L.drop m) ∧ w.grownBy w' (some g) := by
    by_cases hmin : Nat.min m n = 0
    · refine ⟨w, ?_, ?_, World.grownBy.refl w _⟩
      · rw [hmin]; exact run_copy_none w dT sT o.type E _ S n c m cs hu hsz hmin
      · have : news.take n ++ L.drop m = L := by
          rcases Nat.eq_zero_or_pos m with h0 | h0
          · subst h0; rw [List.eq_nil_of_length_eq_zero hlen]; simp
          · have : n = 0 := by have e : Nat.min m n = min m n := rfl
                               omega
            subst this; rw [List.eq_nil_of_length_eq_zero hlenL]; simp
        rw [this]; exact hown
    · have hmin' : Nat.min m n = min m n := rfl
      obtain ⟨b, off, rfl, hbB, hc⟩ := hsl.at_ (by omega)
      have hcl : (ints k (news.take n)).length = Nat.min m n := by rw [ints_length, List.length_take, hlen, hmin']; omega
      have hr := run_copy_row (P := P) w dT sT o.type E g 0 n c ⟨b, off, none⟩ m cs cur E (ints k (news.take n)) hu hsz hh hcl (fun j v hj => by
          have hjl : j < (news.take n).length := by
            rcases Nat.lt_or_ge j (news.take n).length with h | h
            · exact h
            · rw [List.getElem?_eq_none (by rw [ints_length]; exact h)] at hj; cases hj
          rw [ints_get _ _ _ hjl] at hj
          rw [List.length_take, hlen] at hjl
          rw [addr_add, hc j (by omega), ← hj]
          have hjn : j < n := by omega
          simp [hjn]) (by rw [hcl, hmin']; omega) (ints_one _ _)
      rw [hcl] at hr
      refine ⟨_, hr, hown.setRow hh _ ?_ ?_ ?_, grownBy_setRow w g _⟩
      · simp [hcl]; omega
      · rw [List.length_append, List.length_take, List.length_drop, hlen, hlenL]; omega
      · rw [ints_append, List.take_zero, List.nil_append]
        have h4 : ints k L = cur.toList.take n := h4'.symm
        rw [List.take_append, List.take_of_length_le (by rw [hcl, hmin']; omega), hcl]
        congr 1
        rw [show ints k (L.drop m) = (ints k L).drop m by simp [ints], h4, List.drop_take, hmin', Nat.zero_add]
        by_cases hmn : m ≤ n
        · rw [Nat.min_eq_left hmn]
        · rw [Nat.min_eq_right (by omega)]
          rw [Nat.sub_self, List.take_zero, show n - m = 0 by omega, List.take_zero]
  obtain ⟨w', hrun, r1, r2⟩ := key
  unfold Oper.wp execOp
  simp only [ho, resolve, invoke, builtin, Sem.run_bind, Sem.run_pure, Result.andThen_ok, List.map_toArray, List.map_cons, List.map_nil, hs, hd, hrun]
  exact hKK _ _ (hK w' r1 r2)

theorem run_zeroValue {E : TypeId} {i : TypeInfo} {z : Value} (hi : P.info? E = some i) (hz : i.zero = some z) (w : World) : (zeroValue E).run P w = .ok z w := by
  simp [zeroValue, typeInfo, hi, hz]

/-- 'clear(s)' of integers, s a slice of the call's own, not empty. -/
theorem wl_clear (hg : o.guard = none) (s : Operand) (T : TypeId) (ho : o.op = .call { callee := .builtin .clear, args := #[s], argTypes := #[T] })
    (base : Nat) (E : TypeId) (k : IntKind) (bytes : Nat) (hu : P.underlying T = some (.slice E)) (hinfo : (P.info? E).map (fun i => (i.zero, i.size, i.bytes)) = some (some (.int k 0), 1, bytes))
    (g n c : Nat) (L : List Nat) (hs : a.eval s = .slice (some ⟨g, 0, none⟩) n c) (hown : Own w base E k (some ⟨g, 0, none⟩) n c L) (hn : 0 < n)
    (hK : ∀ w', Own w' base E k (some ⟨g, 0, none⟩) n c (List.replicate n 0) → w.grownBy w' (some g) → wpList P ops Q rest (a.put o.dst (.tuple #[])) w') :
    wpList P ops Q (o :: rest) a w := by
  obtain ⟨i, hi, hz, h1, h2⟩ := info_parts hinfo
  rcases hown.form with ⟨h0, _⟩ | ⟨g', cur, e, hb, hlt, hh, h1', h2', h3', h4'⟩
  · cases h0
  injection e with e; injection e with e; subst e
  refine wpList_plain hg fun K hKK => ?_
  have hzc : (Builtin.zeroCells (Value.int k 0).cells n).toList = ints k (List.replicate n 0) := by
    rw [ints_replicate]
    refine List.ext_getElem (by simp [Builtin.zeroCells, Value.cells]) fun j h1 h2 => ?_
    simp [Builtin.zeroCells, Value.cells, Nat.mod_one]
  have hst := run_storeCells_at P g 0 E (ints k (List.replicate n 0)) 0 cur w hh (by rw [ints_length]; simp; omega) (ints_one _ _)
  have hrun : (Builtin.clear_ #[T] o.type #[.slice (some ⟨g, 0, none⟩) n c]).run P w = .ok (.tuple #[]) (w.setRow g (cur.toList.take (0 + 0) ++ ints k (List.replicate n 0) ++ cur.toList.drop (0 + 0 + (ints k (List.replicate n 0)).length)).toArray) := by
    obtain ⟨n, rfl⟩ : ∃ j, n = j + 1 := ⟨n - 1, by omega⟩
    simp only [Builtin.clear_]
    simp [run_underlying hu, run_zeroValue hi hz, hzc, hst]
  have r1 := hown.setRow hh (cur.toList.take (0 + 0) ++ ints k (List.replicate n 0) ++ cur.toList.drop (0 + 0 + (ints k (List.replicate n 0)).length)) (m := List.replicate n 0)
    (by simp [ints_length]; omega) (by simp) (by
      rw [List.take_zero, List.nil_append, List.take_append_of_le_length (by rw [ints_length]; simp), List.take_of_length_le (by rw [ints_length]; simp)])
  unfold Oper.wp execOp
  simp only [ho, resolve, invoke, builtin, Sem.run_bind, Sem.run_pure, Result.andThen_ok, List.map_toArray, List.map_cons, List.map_nil, hs, hrun]
  exact hKK _ _ (hK _ r1 (grownBy_setRow w g _))
end

theorem u32_and1 (x : Nat) (hx : x < 4294967296) : bits .and .u32 (x : Int) 1 = ((x % 2 : Nat) : Int) := by
  have := u32_and_nat x 1 hx (by omega)
  rw [nat_mask1] at this
  exact this
theorem u32_dbl (x low : Nat) (hl : low < 2) : bits .or .u32 ((x : Int) * 2 % 4294967296) (low : Int) = ((x * 2 % 4294967296 + low : Nat) : Int) := by
  have := u32_or_nat (x * 2 % 4294967296) low (by omega) (by omega)
  rw [nat_join 1 _ _ (by omega) (by omega)] at this
  rw [← this]
  rfl
theorem grownBy_setCell (w : World) (g i : Nat) (u : Value) : w.grownBy (w.setCell ⟨g, i, none⟩ u) (some g) :=
  ⟨rfl, rfl, rfl, by simp [World.setCell], fun k _ hk => Below.heap_setCell _ _ _ _ (fun e => hk (by rw [e]))⟩
theorem grownBy_drew {w w' : World} {row : Option Nat} (h : w.grownBy w' row) : w.grownBy w'.drew row := ⟨h.os, h.tape, h.output, h.size, h.block⟩
theorem grownBy_drewN {w w' : World} {row : Option Nat} (h : w.grownBy w' row) (n : Nat) : w.grownBy (w'.drewN n) row := ⟨h.os, h.tape, h.output, h.size, h.block⟩
theorem below_drewN {B : Nat} {w w' : World} (h : Below B w w') (n : Nat) : Below B w (w'.drewN n) := ⟨h.os, h.tape, h.output, h.size, h.block⟩
theorem u32_half (x y : Nat) (hx : x < 4294967296) : bits .or .u32 ((x : Int) / 2) ((y : Int) * 2147483648 % 4294967296) = ((x / 2 + y % 2 * 2147483648 : Nat) : Int) := by
  have := u32_or_nat (y % 2 * 2147483648) (x / 2) (by omega) (by omega)
  rw [nat_join 31 _ _ (by omega) (by omega)] at this
  have c := u32_or_nat (x / 2) (y % 2 * 2147483648) (by omega) (by omega)
  rw [Nat.or_comm] at c
  have e : ((y : Int) * 2147483648 % 4294967296) = ((y % 2 * 2147483648 : Nat) : Int) := by omega
  rw [e, show (x : Int) / 2 = ((x / 2 : Nat) : Int) from rfl, c, ← u32_or_nat (y % 2 * 2147483648) (x / 2) (by omega) (by omega), this]
  omega
theorem u64_neg (n : Int) (h1 : -18446744073709551616 ≤ n) (h2 : n < 0) : IntKind.u64.wrap n = n + 18446744073709551616 := by
  simp [IntKind.wrap, IntKind.bits, IntKind.signed]; omega
end Go.Proofs.Ytchhkokpjdkkiaa.Ex
