/- A region that draws its order: the load of a whole block may be taken first; '!=' of a string and itself. -/
import Derived.Test.YthdidjnhfkeokaaDoorQc
import Derived.Deep.RegionHeld3
namespace Go.Proofs.YthdidjnhfkeokaaDoor
open Go.RowKit

variable {P : Program}
theorem yieldsIf_load_blk {ops : Array Oper} {S : World → Prop} {op : Oper} {a : Act} (hw : Region.wanted op (yielded ops a.tmps) = true) (ty : TypeId) (x : Operand) (ho : op.op = .load ty x)
    (g : Nat) (hx : a.eval x = .pointer (some ⟨g, 0, none⟩)) (t : TypeId) (cs : Array Value) (d : TypeDesc) (hS : ∀ w, S w → Blk w g t cs)
    (hu : P.underlying ty = some d) (hd : (match d with | .struct _ | .array _ _ => true | _ => false) = true) (hi : (P.info? ty).map (·.size) = some cs.size) : YieldsIf P ops S op (.agg cs) a :=
  .inl ⟨hw, fun w hw' => by
    unfold execOp
    simp only [ho, hx, Instr.loadAt, Instr.sureAddr, Sem.run_bind, Sem.run_pure, Result.andThen_ok, run_loadVar_row w g t ty cs (0, 0) d (hS w hw') hu hd hi]⟩
theorem yieldsIf_neq_str {ops : Array Oper} {S : World → Prop} {op : Oper} {a : Act} (hw : Region.wanted op (yielded ops a.tmps) = true) (t z : TypeId) (x y : Operand) (ho : op.op = .binOp .neq t x y z)
    (T : ByteArray) (hx : a.eval x = .string T) (hy : a.eval y = .string T) : YieldsIf P ops S op (.bool false) a :=
  .inl ⟨hw, fun w _ => by
    unfold execOp
    simp only [ho, hx, hy]
    simp [eqGuard, binOp, Op.stringOp]⟩
theorem yieldsIf_neq_int {ops : Array Oper} {S : World → Prop} {op : Oper} {a : Act} (hw : Region.wanted op (yielded ops a.tmps) = true) (t z : TypeId) (x y : Operand) (ho : op.op = .binOp .neq t x y z)
    (k : IntKind) (n : Int) (hx : a.eval x = .int k n) (hy : a.eval y = .int k n) : YieldsIf P ops S op (.bool false) a :=
  .inl ⟨hw, fun w _ => by
    unfold execOp
    simp only [ho, hx, hy]
    simp [eqGuard, binOp, Op.intCmp]⟩
theorem yieldsIf_eql_int {ops : Array Oper} {S : World → Prop} {op : Oper} {a : Act} (hw : Region.wanted op (yielded ops a.tmps) = true) (t z : TypeId) (x y : Operand) (ho : op.op = .binOp .eql t x y z)
    (k : IntKind) (n m : Int) (hx : a.eval x = .int k n) (hy : a.eval y = .int k m) : YieldsIf P ops S op (.bool (n == m)) a :=
  .inl ⟨hw, fun w _ => by
    unfold execOp
    simp only [ho, hx, hy]
    simp [eqGuard, binOp, Op.intCmp]⟩
theorem yieldsIf_load1 {ops : Array Oper} {S : World → Prop} {op : Oper} {a : Act} (hw : Region.wanted op (yielded ops a.tmps) = true) (ty : TypeId) (x : Operand) (ho : op.op = .load ty x)
    (p : Addr) (hx : a.eval x = .pointer (some p)) (v : Value) (hna : ∀ w, (isAgg ty).run P w = .ok false w) (hS : ∀ w, S w → w.cell? p = some v) : YieldsIf P ops S op v a :=
  .inl ⟨hw, fun w hw' => by
    unfold execOp
    simp only [ho, hx]
    simp [Instr.loadAt, Instr.sureAddr, loadVar, hna, run_load, hS w hw']⟩
theorem yieldsIf_indexAddr {ops : Array Oper} {S : World → Prop} {op : Oper} {a : Act} (hw : Region.wanted op (yielded ops a.tmps) = true) (ty : TypeId) (x y : Operand) (ho : op.op = .indexAddr ty x y)
    (e : TypeId) (hu : P.underlying ty = some (.slice e)) (hc : ∀ w, (Go.sizeOf e).run P w = .ok 1 w) (b off m c i : Nat) (z : Int) (hx : a.eval x = .slice (some ⟨b, off, none⟩) m c) (hy : a.eval y = .int .i64 z) (hz : z = (i : Int)) (hi : i < m) : YieldsIf P ops S op (.pointer (some ⟨b, off + i, none⟩)) a :=
  .inl ⟨hw, fun w hw' => by
    subst hz
    unfold execOp
    simp only [ho, hx, hy]
    simp [Instr.indexAt, asIntOf, run_underlying hu, hc, hi, Addr.add]⟩
theorem yieldsIf_move {ops : Array Oper} {S : World → Prop} {op : Oper} {a : Act} (hw : Region.wanted op (yielded ops a.tmps) = true) (x : Operand) (ho : op.op = .move x ∨ op.op = .assign x)
    (v : Value) (hx : a.eval x = v) : YieldsIf P ops S op v a :=
  .inl ⟨hw, fun w _ => by
    unfold execOp
    rcases ho with ho | ho <;> simp only [ho, hx] <;> rfl⟩
theorem yieldsIf_pick_false {ops : Array Oper} {S : World → Prop} {op : Oper} {a : Act} (hw : Region.wanted op (yielded ops a.tmps) = true) (c x y : Operand) (ho : op.op = .pick c x y)
    (hc : a.eval c = .bool false) (v : Value) (hy : a.eval y = v) : YieldsIf P ops S op v a :=
  .inl ⟨hw, fun w _ => by
    unfold execOp
    simp only [ho, hc, hy]
    simp [asBool]⟩
theorem yieldsIf_pick_true {ops : Array Oper} {S : World → Prop} {op : Oper} {a : Act} (hw : Region.wanted op (yielded ops a.tmps) = true) (c x y : Operand) (ho : op.op = .pick c x y)
    (hc : a.eval c = .bool true) (v : Value) (hx : a.eval x = v) : YieldsIf P ops S op v a :=
  .inl ⟨hw, fun w _ => by
    unfold execOp
    simp only [ho, hc, hx]
    simp [asBool]⟩
theorem yieldsIf_op {ops : Array Oper} {S : World → Prop} {op : Oper} {a : Act} (hw : Region.wanted op (yielded ops a.tmps) = true) (v : Value) (hc : ∀ w, (execOp a.eval op).run P w = .ok (.value v) w) : YieldsIf P ops S op v a := .inl ⟨hw, fun w _ => hc w⟩
theorem yieldsIf_convert {ops : Array Oper} {S : World → Prop} {op : Oper} {a : Act} (hw : Region.wanted op (yielded ops a.tmps) = true) (s d : TypeId) (x : Operand) (ho : op.op = .convert s d x)
    (v v' : Value) (hx : a.eval x = v) (hc : ∀ w, (convert s d v).run P w = .ok v' w) : YieldsIf P ops S op v' a :=
  .inl ⟨hw, fun w _ => by
    unfold execOp
    simp only [ho, hx]
    simp [hc]⟩
theorem yieldsIf_build {ops : Array Oper} {S : World → Prop} {op : Oper} {a : Act} (hw : Region.wanted op (yielded ops a.tmps) = true) (t : TypeId) (ps : Array (Nat × Operand)) (ho : op.op = .build t ps)
    (vs : Array (Nat × Value)) (hx : (ps.map fun (i, x) => (i, a.eval x)) = vs) (v : Value) (hc : ∀ w, (Instr.build t vs).run P w = .ok v w) : YieldsIf P ops S op v a :=
  .inl ⟨hw, fun w _ => by
    unfold execOp
    simp only [ho, hx]
    simp [hc]⟩
theorem yieldsIf_extract {ops : Array Oper} {S : World → Prop} {op : Oper} {a : Act} (hw : Region.wanted op (yielded ops a.tmps) = true) (x : Operand) (ix : Nat) (ho : op.op = .extract x ix)
    (vs : Array Value) (hx : a.eval x = .tuple vs) (v : Value) (hv : ∀ w, (Instr.extract (.tuple vs) ix).run P w = .ok v w) : YieldsIf P ops S op v a :=
  .inl ⟨hw, fun w _ => by
    unfold execOp
    simp only [ho, hx]
    simp [hv]⟩
/-- A whole struct stored at a step of a region that draws its order. -/
theorem step_store {ops : Array Oper} {o : Oper} {a : Act} {w : World} {Q : Exit → Act → World → Prop} {K : Act → World → Prop} {E' : Prop} (hgd : o.guard = none) (ty : TypeId) (x y : Operand) (ho : o.op = .store ty x y) (g : Nat) (cells : Array Value) (hx : a.eval x = .pointer (some ⟨g, 0, none⟩)) (hy : a.eval y = .agg cells)
    (t : TypeId) (old : Array Value) (hg : Blk w g t old) (hi : (P.info? ty).map (·.size) = some cells.size) (hold : old.size = cells.size) (h1 : cells.all (·.oneCell') = true)
    (h : ∀ w', Blk w' g t cells → w.grownBy w' (some g) → K (a.put o.dst undef) w') : if Region.wanted o (yielded ops a.tmps) = true then Oper.wp P o a w K Q else E' := by
  have hwd : Region.wanted o (yielded ops a.tmps) = true := by simp [Region.wanted, hgd]
  rw [if_pos hwd]
  exact wp_store_row ty x y ho g cells hx hy t old hg hi hold h1 (h _ (hg.setRow _) (grownBy_setRow _ _ _))
/-- A whole struct or array read by a guarded load whose guard holds. -/
theorem wl_loadG {ops : Array Oper} {rest : List Oper} {o : Oper} {a : Act} {w : World} {Q : Exit → Act → World → Prop} (hwd : Region.wanted o (yielded ops a.tmps) = true) (ty : TypeId) (x : Operand) (ho : o.op = .load ty x) (g : Nat) (hx : a.eval x = .pointer (some ⟨g, 0, none⟩)) (t : TypeId) (cs : Array Value) (d : TypeDesc) (hg : Blk w g t cs)
    (hu : P.underlying ty = some d) (hd : (match d with | .struct _ | .array _ _ => true | _ => false) = true) (hi : (P.info? ty).map (·.size) = some cs.size)
    (h : wpList P ops Q rest (a.put o.dst (.agg cs)) w) : wpList P ops Q (o :: rest) a w := by
  unfold wpList
  rw [if_pos hwd]
  exact .inl (wp_load_row ty x ho g hx t cs (0, 0) d hg hu hd hi h)
end Go.Proofs.YthdidjnhfkeokaaDoor
