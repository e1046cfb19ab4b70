/- The laws of append, make and of stores in the words of Qa; the facts of the types that the walks append to. Plain lemmas. Contracts of distil's ledger (the Top seat). -/
import Derived.Test.YtchhkokpjdkkiaaProg
import Derived.Test.YtchhkokpjdkkiaaTopDisclosesa01
import Derived.Laws.Tables
import Derived.Laws.StructEq
import Derived.ChangeKeysEq
import Derived.BigQuiet
import Derived.Deep.DeepCutAuto
namespace Go.Proofs.Ytchhkokpjdkkiaa
open Go.RowKit

theorem ret_b {a b : Bool} (h : a = b) : Ending.returned (.bool a) = .returned (.bool b) := by rw [h]
theorem ret_i {k : IntKind} {a b : Int} (h : a = b) : Ending.returned (.int k a) = .returned (.int k b) := by rw [h]
theorem all_take_succ {α : Type} {f : α → Bool} {L : List α} {k : Nat} {x : α} (h : (L.take k).all f = true) (hx : L[k]? = some x) (hf : f x = true) : (L.take (k + 1)).all f = true := by
  rw [List.take_add_one, hx, List.all_append, h]; simp [hf]
theorem all_false {α : Type} {f : α → Bool} {L : List α} {k : Nat} {x : α} (hx : L[k]? = some x) (hf : f x = false) : L.all f = false := by
  rw [List.all_eq_false]
  exact ⟨x, List.mem_of_getElem? hx, by simp [hf]⟩
theorem all_whole {α : Type} {f : α → Bool} {L : List α} {k n : Nat} (h : (L.take k).all f = true) (hl : L.length = n) (hk : ¬ k < n) : L.all f = true := by
  rwa [List.take_of_length_le (by omega)] at h
theorem below_app {α : Type} {e : Enc α} {B base : Nat} {w0 w w' : World} {E : TypeId} {A : Option Addr} {n c : Nat} {L : List α} (h : Below B w0 w) (ho : Ow e w base E A n c L) (hg : w.grownBy w' (A.map (·.block))) (hB : B ≤ base) (hz : B ≤ w0.heap.size) : Below B w0 w' :=
  ⟨hg.os.trans h.os, hg.tape.trans h.tape, hg.output.trans h.output, Nat.le_trans h.size hg.size, fun k hk =>
    (hg.block k (Nat.lt_of_lt_of_le hk (Nat.le_trans hz h.size)) (fun ea => by have := (ho.block k ea.symm).1; omega)).trans (h.block k hk)⟩
/-- Two lists lie in different blocks. -/
def Apart (A A' : Option Addr) : Prop := ∀ g, A.map (·.block) = some g → A'.map (·.block) ≠ some g
theorem Apart.symm {A A' : Option Addr} (h : Apart A A') : Apart A' A := fun g h1 h2 => h g h2 h1
theorem Apart.nil (A : Option Addr) : Apart none A := fun g h => by cases h
/-- Another list of the call's own, of other elements or not, stays as it was behind an append. -/
theorem Ow.app {α : Type} {e : Enc α} {w w' : World} {base : Nat} {E : TypeId} {A A' : Option Addr} {n c : Nat} {L : List α} (h : Ow e w base E A n c L)
    (hg : w.grownBy w' (A'.map (·.block))) (hne : Apart A A') : Ow e w' base E A n c L :=
  h.grown hg fun g ea hh => hne g (by rw [ea]; rfl) hh.symm
theorem Ow.not_new {α : Type} {e : Enc α} {w : World} {base : Nat} {E : TypeId} {A : Option Addr} {n c : Nat} {L : List α} (h : Ow e w base E A n c L) : some w.heap.size ≠ A.map (·.block) := by
  intro hh; have := (h.block _ hh.symm).2; omega
theorem Ow.new {α : Type} {e : Enc α} (w : World) (E : TypeId) (x : α) (cs : Array Value) (hcs : cs.toList = e.cells x) (base : Nat) (hb : base ≤ w.heap.size) (g : Nat) (hg : w.heap.size = g) : Ow e (w.alloc (.cells cs E)) base E (some ⟨g, 0, none⟩) 1 1 [x] := by
  subst hg
  have hs : cs.size = 1 * e.nf := by rw [← Array.length_toList, hcs, e.len, Nat.one_mul]
  have h := World.ownsRow_lit (base := base) (e := E) (size := e.nf) w cs 1 hb (by simp [maxLen]) hs
  refine ⟨rfl, ?_⟩
  rw [List.flatMap_singleton, ← hcs]
  exact h
theorem Apart.app {α : Type} {e : Enc α} {w : World} {base : Nat} {E : TypeId} {A A' A3 : Option Addr} {n c : Nat} {L : List α} (h : Apart A A') (h3 : A3 = A ∨ ∃ g, A3 = some ⟨g, 0, none⟩ ∧ w.heap.size ≤ g) (ho : Ow e w base E A' n c L) : Apart A3 A' := by
  rcases h3 with rfl | ⟨g, rfl, hg⟩
  · exact h
  · intro g' h1 h2
    have := (ho.block g' h2).2
    simp at h1
    omega

section
variable {P : Program} {α : Type} (e : Enc α) (w : World) {ops : Array Oper} {rest : List Oper} {o : Oper} {a : Act} {Q : Exit → Act → World → Prop}

/-- What 'append(out, xs...)' does, as a run. -/
theorem run_app (t ty : TypeId) (base : Nat) (E : TypeId) (z : Value) (bytes : Nat) (hu : P.underlying t = some (.slice E)) (hinfo : (P.info? E).map (fun i => (i.zero, i.size, i.bytes)) = some (some z, e.nf, bytes)) (hzc : z.cells.size = e.nf) (hby : bytes ≤ 128)
    (A : Option Addr) (n c : Nat) (L : List α) (hown : Ow e w base E A n c L) (D : Option Addr) (m d : Nat) (news : List α) (B : Nat) (hsl : Rd e w B D m d news) (hsz : n + m ≤ 1099511627776) (hbase : base ≤ w.heap.size) :
    ∃ A' c' w', (Builtin.append_ #[t, t] ty #[.slice A n c, .slice D m d]).run P w = .ok (.slice A' (n + m) c') w' ∧ Ow e w' base E A' (n + m) c' (L ++ news) ∧
      w.grownBy w' (A.map (·.block)) ∧ (A' = A ∨ ∃ g, A' = some ⟨g, 0, none⟩ ∧ w.heap.size ≤ g) := by
  obtain ⟨i, hi, hz, h1, h2⟩ := info_parts hinfo
  by_cases hm : m = 0
  · subst hm
    have hn : news = [] := List.eq_nil_of_length_eq_zero hsl.len
    subst hn
    refine ⟨A, c, w, ?_, by simpa using hown, World.grownBy.refl w _, .inl rfl⟩
    have hl : ∀ (x : Addr), (loadCells x 0).run P w = .ok #[] w := fun x => by simpa using run_loadCells_list (P := P) w x [] (by simp)
    rcases hown.form with ⟨rfl, rfl, rfl⟩ | ⟨g, cur, rfl, hb, hg, hh, h1', h2', h3', h4'⟩
    · cases D <;> simp [Builtin.append_, run_underlying hu, sizeOf, typeInfo, hi, Builtin.lenOf, Builtin.firstCells, hl]
    · cases D <;> simp [Builtin.append_, run_underlying hu, sizeOf, typeInfo, hi, Builtin.lenOf, Builtin.firstCells, h1', storeCells, hl]
  · obtain ⟨b, off, rfl, hb, hc⟩ := hsl.at_ (by omega)
    have hflen : (news.flatMap e.cells).length = m * e.nf := by rw [Enc.flat_len, hsl.len]
    obtain ⟨v', w', hrun, hown', hgr, _, hat⟩ := run_append_own_at (P := P) w base t ty E i z e.nf bytes hu hi hz h1 h2 hzc e.pos _ _ _ hown.row ⟨b, off, none⟩ m d (news.flatMap e.cells)
      hflen (fun j u hj => by
        have hjl : j < m * e.nf := by rw [← hflen]; exact (List.getElem?_eq_some_iff.1 hj).1
        have hq : j / e.nf < news.length := by rw [hsl.len]; exact Nat.div_lt_of_lt_mul (by rw [Nat.mul_comm]; exact hjl)
        have hr : j % e.nf < e.nf := Nat.mod_lt _ e.pos
        have hx : news[j / e.nf]? = some news[j / e.nf] := List.getElem?_eq_getElem hq
        have hr' : j % e.nf < (e.cells news[j / e.nf]).length := by rw [e.len]; exact hr
        have hv : (e.cells news[j / e.nf])[j % e.nf]? = some (e.cells news[j / e.nf])[j % e.nf] := List.getElem?_eq_getElem hr'
        have hj2 := Enc.flat_get hx hv
        have hdm : j / e.nf * e.nf + j % e.nf = j := by rw [Nat.mul_comm]; exact Nat.div_add_mod j e.nf
        rw [hdm, hj] at hj2
        have hc2 := hc _ _ hx _ _ hv
        rw [Nat.add_assoc, hdm] at hc2
        rw [addr_add, hc2, hj2]) (Enc.flat_one _) (by simp only [maxLen]; omega)
      (by have : (n + m) * bytes ≤ (n + m) * 128 := Nat.mul_le_mul_left _ hby
          omega) hbase
    have hb' : (Value.slice A n c).ownBlock = A.map (·.block) := by cases A <;> rfl
    rw [hb'] at hgr hat
    rcases hown'.2 with ⟨rfl, h0⟩ | ⟨g, cap, cur, rfl, hbg, hgg, h1', h2', h3', h4'⟩
    · omega
    · have hO : Ow e w' base E (some ⟨g, 0, none⟩) (n + m) cap (L ++ news) := by
        refine ⟨by rw [List.length_append, hown.len, hsl.len], ?_⟩
        rw [List.flatMap_append]; exact hown'
      refine ⟨_, _, w', hrun, hO, hgr, ?_⟩
      rcases hat with hat | hat
      · left
        rcases hown.form with ⟨rfl, hn0, hc0⟩ | ⟨g0, cur0, rfl, _⟩
        · simp [Value.ownBlock] at hat
        · simp [Value.ownBlock] at hat; rw [hat]
      · right
        simp [Value.ownBlock] at hat
        exact ⟨g, rfl, by omega⟩

/-- 'append(out, xs...)' on a list of the call's own; the source lies in memory. -/
theorem wl_app (hg : o.guard = none) (s x : Operand) (t : TypeId) (ho : o.op = .call { callee := .builtin .append, args := #[s, x], argTypes := #[t, t] })
    (base : Nat) (E : TypeId) (z : Value) (bytes : Nat) (hu : P.underlying t = some (.slice E)) (hinfo : (P.info? E).map (fun i => (i.zero, i.size, i.bytes)) = some (some z, e.nf, bytes)) (hzc : z.cells.size = e.nf) (hby : bytes ≤ 128)
    (A : Option Addr) (n c : Nat) (L : List α) (hs : a.eval s = .slice A n c) (hown : Ow e w base E A n c L)
    (D : Option Addr) (m d : Nat) (news : List α) (hx : a.eval x = .slice D m d) (B : Nat) (hsl : Rd e w B D m d news)
    (hsz : n + m ≤ 1099511627776) (hbase : base ≤ w.heap.size)
    (hK : ∀ A' c' w', Ow e w' base E A' (n + m) c' (L ++ news) → w.grownBy w' (A.map (·.block)) → (A' = A ∨ ∃ g, A' = some ⟨g, 0, none⟩ ∧ w.heap.size ≤ g) → wpList P ops Q rest (a.put o.dst (.slice A' (n + m) c')) w') :
    wpList P ops Q (o :: rest) a w := by
  refine wpList_plain hg fun K hKK => ?_
  obtain ⟨A', c', w', hrun, r1, r2, r3⟩ := run_app (P := P) e w t o.type base E z bytes hu hinfo hzc hby A n c L hown D m d news B hsl hsz hbase
  unfold Oper.wp execOp
  simp only [ho, resolve, invoke, builtin, Sem.run_bind, Sem.run_pure, Result.andThen_ok, List.map_toArray, List.map_cons, List.map_nil, hs, hx, hrun]
  exact hKK _ _ (hK A' c' w' r1 r2 r3)

/-- The same at a step of a region that draws its order. -/
theorem step_app {K : Act → World → Prop} {E' : Prop} (hgd : o.guard = none) (s x : Operand) (t : TypeId) (ho : o.op = .call { callee := .builtin .append, args := #[s, x], argTypes := #[t, t] })
    (base : Nat) (E : TypeId) (z : Value) (bytes : Nat) (hu : P.underlying t = some (.slice E)) (hinfo : (P.info? E).map (fun i => (i.zero, i.size, i.bytes)) = some (some z, e.nf, bytes)) (hzc : z.cells.size = e.nf) (hby : bytes ≤ 128)
    (A : Option Addr) (n c : Nat) (L : List α) (hs : a.eval s = .slice A n c) (hown : Ow e w base E A n c L)
    (D : Option Addr) (m d : Nat) (news : List α) (hx : a.eval x = .slice D m d) (B : Nat) (hsl : Rd e w B D m d news)
    (hsz : n + m ≤ 1099511627776) (hbase : base ≤ w.heap.size)
    (hK : ∀ A' c' w', Ow e w' base E A' (n + m) c' (L ++ news) → w.grownBy w' (A.map (·.block)) → (A' = A ∨ ∃ g, A' = some ⟨g, 0, none⟩ ∧ w.heap.size ≤ g) → K (a.put o.dst (.slice A' (n + m) c')) w') : if Region.wanted o (yielded ops a.tmps) = true then Oper.wp P o a w K Q else E' := by
  have hwd : Region.wanted o (yielded ops a.tmps) = true := by simp [Region.wanted, hgd]
  rw [if_pos hwd]
  obtain ⟨A', c', w', hrun, r1, r2, r3⟩ := run_app (P := P) e w t o.type base E z bytes hu hinfo hzc hby A n c L hown D m d news B hsl hsz hbase
  unfold Oper.wp execOp
  simp only [ho, resolve, invoke, builtin, Sem.run_bind, Sem.run_pure, Result.andThen_ok, List.map_toArray, List.map_cons, List.map_nil, hs, hx, hrun]
  exact hK A' c' w' r1 r2 r3

theorem madeCells_flat (z : Value) (x : α) (hz : z.cells.toList = e.cells x) (n : Nat) : (madeCells z.cells (n * e.nf)).toList = (List.replicate n x).flatMap e.cells := by
  have hzs : z.cells.size = e.nf := by rw [← Array.length_toList, hz, e.len]
  refine List.ext_getElem? fun k => ?_
  by_cases hk : k < n * e.nf
  · have hq : k / e.nf < n := Nat.div_lt_of_lt_mul (by rw [Nat.mul_comm]; exact hk)
    have hr : k % e.nf < e.nf := Nat.mod_lt _ e.pos
    have hx : (List.replicate n x)[k / e.nf]? = some x := by simp [hq]
    have hr' : k % e.nf < (e.cells x).length := by rw [e.len]; exact hr
    have hv : (e.cells x)[k % e.nf]? = some (e.cells x)[k % e.nf] := List.getElem?_eq_getElem hr'
    have h2 := Enc.flat_get hx hv
    have hdm : k / e.nf * e.nf + k % e.nf = k := by rw [Nat.mul_comm]; exact Nat.div_add_mod k e.nf
    rw [hdm] at h2
    rw [h2]
    have hkz : k % z.cells.size < z.cells.size := by rw [hzs]; exact hr
    have h3 : z.cells[k % z.cells.size]! = (e.cells x)[k % e.nf] := by
      rw [getElem!_pos z.cells _ hkz, ← Array.getElem_toList]
      simp only [hz, hzs]
    simp [madeCells, hk, h3]
  · rw [List.getElem?_eq_none (by simp [madeCells]; omega), List.getElem?_eq_none (by rw [Enc.flat_len, List.length_replicate]; omega)]

/-- 'make([]T, n)'. -/
theorem wl_mk (hg : o.guard = none) (l c : Operand) (t : TypeId) (hop : o.op = Op.makeSlice t l c) (E : TypeId) (z : Value) (bytes : Nat) (x : α)
    (hu : P.underlying t = some (.slice E)) (hinfo : (P.info? E).map (fun i => (i.zero, i.size, i.bytes)) = some (some z, e.nf, bytes)) (hzx : z.cells.toList = e.cells x) (hby : bytes ≤ 128)
    (Ln C : Int) (n : Nat) (hl : a.eval l = .int .i64 Ln) (hc : a.eval c = .int .i64 C) (hL : Ln = (n : Int)) (hC : C = (n : Int)) (hn : n ≤ 1099511627776)
    (hK : ∀ w', Ow e w' w.heap.size E (some ⟨w.heap.size, 0, none⟩) n n (List.replicate n x) → w.grownBy w' none → w.heap.size < w'.heap.size →
      wpList P ops Q rest (a.put o.dst (.slice (some ⟨w.heap.size, 0, none⟩) n n)) w') :
    wpList P ops Q (o :: rest) a w := by
  obtain ⟨i, hi, hz, h1, h2⟩ := info_parts hinfo
  refine wpList_make_full w hg l c t hop w.heap.size E i z e.nf hu hi hz h1 .i64 .i64 Ln C n hl hc hL hC ?_ (by simp only [maxLen]; omega) (Nat.le_refl _) ?_
  · rw [h2]
    have : bytes * n ≤ 128 * n := Nat.mul_le_mul_right _ hby
    omega
  · intro w' hown hgr
    have ho : Ow e w' w.heap.size E (some ⟨w.heap.size, 0, none⟩) n n (List.replicate n x) := by
      refine ⟨by simp, ?_⟩
      rw [← madeCells_flat e z x hzx n]; exact hown
    exact hK w' ho hgr (ho.lt rfl).2
end

section
variable {P : Program} {ops : Array Oper} {rest : List Oper} {o : Oper} {a : Act} {w w' : World} {Q : Exit → Act → World → Prop}
theorem Blk.newAt (w : World) (t : TypeId) (cs : Array Value) (g : Nat) (hg : w.heap.size = g) : Blk (w.alloc (.cells cs t)) g t cs := by subst hg; exact Blk.new w t cs
theorem Blk.setRow {g : Nat} {t : TypeId} {cs : Array Value} (h : Blk w g t cs) (cs' : Array Value) : Blk (w.setRow g cs') g t cs' := setRow_heap w g cs cs' t (0, 0) h
theorem grownBy_setRow (w : World) (g : Nat) (cs : Array Value) : w.grownBy (w.setRow g cs) (some g) :=
  ⟨rfl, rfl, rfl, by simp, fun k _ hne => setRow_other w g k cs (fun e => hne (by rw [e]))⟩
/-- A whole array or struct read out of a variable of its own. -/
theorem wl_load (hgd : o.guard = none) (ty : TypeId) (x : Operand) (ho : o.op = .load ty x) (g : Nat) (hx : a.eval x = .pointer (some ⟨g, 0, none⟩)) (t : TypeId) (cs : Array Value) (d : TypeDesc) (hg : Blk w g t cs)
    (hu : P.underlying ty = some d) (hd : (match d with | .struct _ | .array _ _ => true | _ => false) = true) (hi : (P.info? ty).map (·.size) = some cs.size)
    (h : wpList P ops Q rest (a.put o.dst (.agg cs)) w) : wpList P ops Q (o :: rest) a w :=
  wpList_load_row hgd ty x ho g hx t cs (0, 0) d hg hu hd hi h
/-- A whole array or struct stored into a variable of its own. -/
theorem wl_store (hgd : o.guard = none) (ty : TypeId) (x y : Operand) (ho : o.op = .store ty x y) (g : Nat) (cells : Array Value) (hx : a.eval x = .pointer (some ⟨g, 0, none⟩)) (hy : a.eval y = .agg cells)
    (t : TypeId) (old : Array Value) (hg : Blk w g t old) (hi : (P.info? ty).map (·.size) = some cells.size) (hold : old.size = cells.size) (h1 : cells.all (·.oneCell') = true)
    (h : ∀ w', Blk w' g t cells → w.grownBy w' (some g) → wpList P ops Q rest (a.put o.dst undef) w') : wpList P ops Q (o :: rest) a w :=
  wpList_store_row hgd ty x y ho g cells hx hy t old hg hi hold h1 (h _ (hg.setRow _) (grownBy_setRow _ _ _))
theorem results_row_tmp {fn : Func} {p u : Tmp} {ty : TypeId} (h : fn.results = #[.cell p ty, .tmp u]) (tmps : Array Value) (w : World) (g : Nat) (t : TypeId) (cs : Array Value) (d : TypeDesc)
    (hp : tmps.getD p undef = .pointer (some ⟨g, 0, none⟩)) (hg : Blk w g t cs)
    (hu : P.underlying ty = some d) (hd : (match d with | .struct _ | .array _ _ => true | _ => false) = true) (hi : (P.info? ty).map (·.size) = some cs.size) :
    (results fn tmps).run P w = .ok (.tuple #[.agg cs, tmps.getD u undef]) w := by
  have hp' : tmps[p]?.getD undef = .pointer (some ⟨g, 0, none⟩) := by simpa using hp
  simp [results, h, hp', asAddr, run_loadVar_row w g t ty cs (0, 0) d hg hu hd hi]
end

theorem info_int : (Try.prog.info? 3).map (fun i => (i.zero, i.size, i.bytes)) = some (some (.int .i64 0), 1, 8) := by kernel_rfl
theorem info_bool : (Try.prog.info? 4).map (fun i => (i.zero, i.size, i.bytes)) = some (some (.bool false), 1, 1) := by kernel_rfl

/-! ### Arrays of integers compared -/
section
variable {P : Program}
theorem run_part_int {e : TypeId} {xs : Array Value} {off : Nat} {v : Value} {k : IntKind} (he : P.underlying e = some (.int k)) (hx : xs[off]? = some v) (w : World) : (part e xs off).run P w = .ok v w := by
  simp [part, isAgg, run_underlying he, hx]
theorem eqItems_int (d : Nat) {e : TypeId} {k : IntKind} (he : P.underlying e = some (.int k)) (hc : P.cellsOf e = 1) (xs ys : Array Value) (f g : Nat → Int) (w : World) : ∀ (is : List Nat), (∀ i ∈ is, xs[i]? = some (.int k (f i)) ∧ ys[i]? = some (.int k (g i))) →
    (Op.eqItems (d + 1) e (P.cellsOf e) xs ys is).run P w = .ok (is.all fun i => f i == g i) w
  | [], _ => by simp [Op.eqItems]
  | i :: is, h => by
    obtain ⟨h1, h2⟩ := h i (by simp)
    have ih := eqItems_int d he hc xs ys f g w is (fun j hj => h j (by simp [hj]))
    simp only [Op.eqItems, Sem.run_bind]
    rw [show i * P.cellsOf e = i by rw [hc, Nat.mul_one], run_part_int he h1]
    simp only [Result.andThen_ok]
    rw [run_part_int he h2]
    simp only [Result.andThen_ok, run_equalIn_int w d e k k (f i) (g i) he]
    by_cases hfg : f i = g i
    · simp only [hfg, BEq.rfl, Bool.not_true, Bool.false_eq_true, if_false]
      rw [ih]; simp [hfg]
    · have hb : (f i == g i) = false := by simpa using hfg
      simp [hb]
/-- '==' on two arrays of integers. -/
theorem run_eql_ints {t e : TypeId} {n : Nat} {k : IntKind} {i : TypeInfo} (ht : P.underlying t = some (.array n e)) (he : P.underlying e = some (.int k)) (hi : P.info? e = some i) (hc : P.cellsOf e = 1) (xs ys : Array Value) (f g : Nat → Int)
    (h : ∀ j, j < n → xs[j]? = some (.int k (f j)) ∧ ys[j]? = some (.int k (g j))) (w : World) : (binOp .eql t (.agg xs) (.agg ys)).run P w = .ok (.bool ((List.range n).all fun i => f i == g i)) w := by
  rw [run_eql_struct, run_equalIn_array w 9999 xs ys ht hi, eqItems_int 9998 he hc xs ys f g w (List.range n) (fun j hj => h j (by simpa using hj))]
  rfl
end
theorem cells_int : Try.prog.cellsOf 3 = 1 := by kernel_rfl
theorem eql4 (a0 a1 a2 a3 b0 b1 b2 b3 : Int) (w : World) : (binOp .eql 54 (.agg #[.int .i64 a0, .int .i64 a1, .int .i64 a2, .int .i64 a3]) (.agg #[.int .i64 b0, .int .i64 b1, .int .i64 b2, .int .i64 b3])).run Try.prog w = .ok (.bool (decide (a0 = b0 ∧ a1 = b1 ∧ a2 = b2 ∧ a3 = b3))) w := by
  obtain ⟨i, hi⟩ : ∃ i, Try.prog.info? 3 = some i := by
    have := info_int
    cases h : Try.prog.info? 3 with
    | none => simp [h] at this
    | some i => exact ⟨i, rfl⟩
  have e : ((List.range 4).all fun i => (fun j => match j with | 0 => a0 | 1 => a1 | 2 => a2 | _ => a3 : Nat → Int) i == (fun j => match j with | 0 => b0 | 1 => b1 | 2 => b2 | _ => b3 : Nat → Int) i) = decide (a0 = b0 ∧ a1 = b1 ∧ a2 = b2 ∧ a3 = b3) := by
    rw [Bool.eq_iff_iff]; simp [List.range, List.range.loop]
  rw [run_eql_ints Try.underlying54 Try.underlying3 hi cells_int _ _ (fun j => match j with | 0 => a0 | 1 => a1 | 2 => a2 | _ => a3) (fun j => match j with | 0 => b0 | 1 => b1 | 2 => b2 | _ => b3) (fun j hj => by
    match j, hj with
    | 0, _ | 1, _ | 2, _ | 3, _ => exact ⟨rfl, rfl⟩), e]
theorem eql3 (a0 a1 a2 b0 b1 b2 : Int) (w : World) : (binOp .eql 53 (.agg #[.int .i64 a0, .int .i64 a1, .int .i64 a2]) (.agg #[.int .i64 b0, .int .i64 b1, .int .i64 b2])).run Try.prog w = .ok (.bool (decide (a0 = b0 ∧ a1 = b1 ∧ a2 = b2))) w := by
  obtain ⟨i, hi⟩ : ∃ i, Try.prog.info? 3 = some i := by
    have := info_int
    cases h : Try.prog.info? 3 with
    | none => simp [h] at this
    | some i => exact ⟨i, rfl⟩
  have e : ((List.range 3).all fun i => (fun j => match j with | 0 => a0 | 1 => a1 | _ => a2 : Nat → Int) i == (fun j => match j with | 0 => b0 | 1 => b1 | _ => b2 : Nat → Int) i) = decide (a0 = b0 ∧ a1 = b1 ∧ a2 = b2) := by
    rw [Bool.eq_iff_iff]; simp [List.range, List.range.loop]
  rw [run_eql_ints Try.underlying53 Try.underlying3 hi cells_int _ _ (fun j => match j with | 0 => a0 | 1 => a1 | _ => a2) (fun j => match j with | 0 => b0 | 1 => b1 | _ => b2) (fun j hj => by
    match j, hj with
    | 0, _ | 1, _ | 2, _ => exact ⟨rfl, rfl⟩), e]

/-! ### Stores into a list of the call's own, cell by cell -/
section
variable {α : Type} {e : Enc α} {w : World} {base g n c : Nat} {E : TypeId} {L : List α}
theorem take_set_drop {l : List Value} {i : Nat} (hi : i < l.length) (v : Value) : l.set i v = l.take i ++ [v] ++ l.drop (i + 1) := by
  rw [List.set_eq_take_append_cons_drop, if_pos hi]; simp
theorem Ow.store1 (h : Ow e w base E (some ⟨g, 0, none⟩) n c L) {i : Nat} (hi : i < n) (y : α) {v : Value} (hv : e.cells y = [v]) {p : Addr} (hp : p = ⟨g, i, none⟩) : Ow e (w.setCell p v) base E (some ⟨g, 0, none⟩) n c (L.set i y) := by
  subst hp
  have hnf : e.nf = 1 := by rw [← e.len y, hv]; rfl
  rcases h.form with ⟨h0, _⟩ | ⟨g', cur, ea, hb, hlt, hh, h1, h2, h3, h4⟩
  · cases h0
  injection ea with ea; injection ea with ea; subst ea
  refine h.put hi y ⟨cur, hh, ?_⟩
  have hin : i < cur.size := by rw [h3, hnf]; omega
  rw [heap_setCell_same w g i cur E v hh, hv, hnf, Nat.mul_one, ← take_set_drop (by simpa using hin)]
  congr 2
  apply Array.toList_inj.1
  simp
end
end Go.Proofs.Ytchhkokpjdkkiaa

namespace Go.Proofs.Ytchhkokpjdkkiaa
open Go.RowKit

/-- An item of a ledger: its kind, its bits. -/
def eItm : Enc (Nat × Nat) := ⟨2, fun x => [.int .i64 x.1, .int .i64 x.2], fun _ => rfl, by simp [Value.oneCell'], by omega⟩
def okItm (x : Nat × Nat) : Prop := 1 ≤ x.1 ∧ x.1 ≤ 4 ∧ x.2 ≤ 65536
theorem info_itm : (Try.prog.info? 103).map (fun i => (i.zero, i.size, i.bytes)) = some (some (.agg #[.int .i64 0, .int .i64 0]), 2, 16) := by kernel_rfl
set_option maxRecDepth 100000 in
theorem between_c (n lo hi : Int) (w : World) (h1 : lo ≤ n) (h2 : n ≤ hi) : Calls Try.prog 29 #[.int .i64 n, .int .i64 lo, .int .i64 hi] w fun e w' => e = .returned (.bool true) ∧ w = w' := by
  have d1 : decide (lo ≤ n) = true := decide_eq_true h1
  have d2 : decide (n ≤ hi) = true := decide_eq_true h2
  go_enter Try.func29, Try.ntmps29
  go_wp2
  go_ret
  exact ⟨rfl, rfl⟩
set_option maxRecDepth 100000 in
theorem kindOK_c (n : Nat) (w : World) (h1 : 1 ≤ n) (h2 : n ≤ 4) : Calls Try.prog 28 #[.int .i64 (n : Int)] w fun e w' => e = .returned (.bool true) ∧ w = w' := by
  have HB := hide (between_c (n : Int) 1 4 w (by omega) (by omega))
  go_enter Try.func28, Try.ntmps28
  go_wp2_with (go_at_call 29; refine HB.out.mono ?_; rintro e w1 ⟨rfl, hq⟩; rw [← hq]; clear hq)
  go_ret
  exact ⟨rfl, rfl⟩
set_option maxRecDepth 100000 in
set_option maxHeartbeats 1600000 in
theorem dCheck_c (A : Option Addr) (n c : Nat) (L : List (Nat × Nat)) (w : World) (r : Rd eItm w w.heap.size A n c L) (hn : n ≤ 1000) (hL : ∀ x ∈ L, okItm x) :
    Calls Try.prog 27 #[.slice A n c] w fun e w' => e = .returned (.int .i64 0) ∧ Below w.heap.size w w' := by
  have hm := r.max
  have hcap := r.cap
  have g1 : ¬ ((n : Int) > 1000) := by omega
  have g2 : ¬ (1000 < n) := by omega
  have HL := hide hL
  clear hL
  go_enter Try.func27, Try.ntmps27
  go_wp2
  go_loopw [10] (fun iv wr => ∃ k : Nat, k ≤ n ∧ iv = .int .i64 k ∧ Below w.heap.size w wr) (fun iv _ => n - (intOf iv).toNat)
  case atStart => exact ⟨0, Nat.zero_le _, rfl, Below.refl _ _⟩
  case round =>
    obtain ⟨k, hk, rfl, hb⟩ := hrel
    by_cases hlt : k < n
    · obtain ⟨b1, o1, x, rfl, hb1, hx, hc1⟩ := (r.on hb).get hlt
      have c0 := hc1 0 _ rfl
      have c1 := hc1 1 _ rfl
      simp only [eItm, Nat.add_zero] at c0 c1
      obtain ⟨x1, x2, x3⟩ := HL.out x (List.mem_of_getElem? hx)
      obtain ⟨xk, xb⟩ := x
      simp only at c0 c1 x1 x2 x3
      have HK := hide (fun W => kindOK_c xk W x1 x2)
      have HB := hide (fun W => between_c (xb : Int) 0 65536 W (by omega) (by omega))
      have HW := hide (hb.alloc hb.size (.cells #[.int .i64 (xk : Int), .int .i64 (xb : Int)] 103))
      clear hc1 hx hb hb1
      go_wp2_with (first | (go_at_call 28; refine (HK.out _).mono ?_; rintro e w1 ⟨rfl, hq⟩; rw [← hq]; clear hq) | (go_at_call 29; refine (HB.out _).mono ?_; rintro e w1 ⟨rfl, hq⟩; rw [← hq]; clear hq))
      go_roundw
      case rel => exact ⟨k + 1, by omega, by go_num, HW.out⟩
      case measure => simp [intOf] <;> omega
    · have HW := hide hb
      go_wp2
      go_ret
      exact ⟨rfl, HW.out⟩
set_option maxRecDepth 100000 in
set_option maxHeartbeats 1600000 in
theorem enter_c (k m : Nat) (w : World) (h1 : 1 ≤ k) (h2 : k ≤ 4) (h3 : m ≤ 65536) :
    Calls Try.prog 9 #[.slice none 0 0, .int .i64 (k : Int), .int .i64 (m : Int)] w fun e w' => ∃ A c, e = .returned (.tuple #[.slice A 1 c, .int .i64 0]) ∧ Ow eItm w' w.heap.size 103 A 1 c [(k, m)] ∧ Below w.heap.size w w' := by
  have HC := hide (dCheck_c none 0 0 [] w (Rd.nil _ _ _ _ (by omega)) (by omega) (by simp))
  have HK := hide (fun W => kindOK_c k W h1 h2)
  have HB := hide (fun W => between_c (m : Int) 0 65536 W (by omega) (by omega))
  go_enter Try.func9, Try.ntmps9
  go_upto_region 4 with (go_at_call 27; refine HC.out.mono ?_; rintro e w1 ⟨rfl, hb1⟩)
  go_upto_region 8 with (first | (go_at_call 28; refine (HK.out _).mono ?_; rintro e w2 ⟨rfl, hq⟩; rw [← hq]; clear hq) | (go_at_call 29; refine (HB.out _).mono ?_; rintro e w3 ⟨rfl, hq⟩; rw [← hq]; clear hq))
  obtain ⟨i, hi, hz, hz1, hz2⟩ := info_parts info_itm
  go_upto_region 9 with (first | (at_make; refine wpList_make_own _ rfl _ _ _ rfl w1.heap.size 103 i (.agg #[.int .i64 0, .int .i64 0]) 2 Try.underlying36 hi hz hz1 .i64 .i64 1 1 rfl rfl rfl (by rw [hz2]; omega) (by simp [maxLen]) (Nat.le_refl _) ?_; intro w7 r7 hg7; have o7 : Ow eItm w7 w1.heap.size 103 (some ⟨w1.heap.size, 0, none⟩) 0 1 [] := ⟨rfl, r7⟩; clear r7) | (at_builtin; refine wl_app eItm _ rfl _ _ _ rfl w1.heap.size 103 (.agg #[.int .i64 0, .int .i64 0]) 16 Try.underlying36 info_itm rfl (by omega) _ _ _ _ (by rfl) o7 none 0 0 [] (by rfl) w7.heap.size (Rd.nil _ _ _ _ (by omega)) (by omega) hg7.size ?_; intro A8 c8 w8 o8 hg8 hA8))
  have b8 : Below w1.heap.size w1 w8 := by
    have b7 : Below w1.heap.size w1 w7 := ⟨hg7.os, hg7.tape, hg7.output, hg7.size, fun i hi => hg7.block i hi (by simp)⟩
    exact below_app b7 o7 hg8 (Nat.le_refl _) (Nat.le_refl _)
  have H8 := hide (And.intro o8 (And.intro b8 hb1))
  clear o7 hg7 hg8 b8 hb1
  go_wp2_with (at_builtin; refine wl_app eItm _ rfl _ _ _ rfl w1.heap.size 103 (.agg #[.int .i64 0, .int .i64 0]) 16 Try.underlying36 info_itm rfl (by omega) _ _ _ _ (by rfl) (H8.out.1.alloc _) _ 1 1 [(k, m)] (by rfl) _ (Rd.newAt (e := eItm) w8 103 (k, m) #[.int .i64 (k : Int), .int .i64 (m : Int)] rfl w8.heap.size rfl) (by omega) (by have := H8.out.2.1.size; simp; omega) ?_; intro A9 c9 w9 o9 hg9 hA9)
  go_ret2
  have b9 := below_app (H8.out.2.1.alloc H8.out.2.1.size _) (H8.out.1.alloc _) hg9 (Nat.le_refl _) (Nat.le_refl _)
  exact ⟨A9, c9, rfl, o9.mono H8.out.2.2.size, below_on H8.out.2.2 b9⟩
end Go.Proofs.Ytchhkokpjdkkiaa
