/- The small example's fractions: contracts of exact.Of, the law's frac and sift.Rate at small numbers (the Top seat; in the namespace of the Exact texts). A region that draws its order: the load of a whole block may be taken first; '!=' of a string and itself. Contracts of algebra.Count, Parity, and of the small example of the layers up to 4 (the Top seat). -/
import Derived.Test.YtchhkokpjdkkiaaTopSiftsa26
import Derived.Test.YtchhkokpjdkkiaaTopSiftsa30
import Derived.Test.YtchhkokpjdkkiaaTopSiftsa31
import Derived.Test.YtchhkokpjdkkiaaTopSiftsa02
import Derived.Deep.RegionHeld3
import Derived.Deep.DeepCutAuto
namespace Go.Proofs.Ytchhkokpjdkkiaa.Ex
open Go.RowKit

theorem ofs_c (x : Nat) (h0 : 0 < x) (h : x < 4294967296) (w : World) : Calls Try.prog 49 #[.int .u64 (x : Int)] w fun e w' => ∃ g c, e = .returned (.slice (some ⟨g, 0, none⟩) 1 c) ∧ Sl w' w'.heap.size .u32 (some ⟨g, 0, none⟩) 1 c [x] ∧ Below w.heap.size w w' :=
  (of_c x w (by omega)).mono fun e w' ⟨g, n, c, l, he, o, hn, hb⟩ => by
    obtain rfl : l = [x] := hn.uniq (num_one _ x h0 h) (by omega)
    obtain rfl : 1 = n := o.len
    exact ⟨g, c, he, o.sl, hb⟩
theorem val1 (x : Nat) : val 4294967296 [x] = x := by simp [val]
theorem err1 {f : FA} {y : Nat} (hn : f.n = 1) (hn' : f.n' = 1) (hl : f.l' = [y]) (hy : 0 < y) : FA.long f = false ∧ FA.zero f = false := by
  constructor
  · simp [FA.long, hn, hn']
  · unfold FA.zero; rw [hl, val1]; simp; omega
theorem cmps_c (x y : Nat) (hx' : x < 4294967296) (hy : 0 < y) (hy' : y < 4294967296) (A A' C C' : Option Addr) (c c' d d' : Nat) (w : World) (s1 : Sl w w.heap.size .u32 A 1 c [x]) (s2 : Sl w w.heap.size .u32 A' 1 c' [y]) (s3 : Sl w w.heap.size .u32 C 1 d [x]) (s4 : Sl w w.heap.size .u32 C' 1 d' [y]) :
    Calls Try.prog 87 #[.agg #[.slice A 1 c, .slice A' 1 c'], .agg #[.slice C 1 d, .slice C' 1 d']] w fun e w' => e = .returned (.tuple #[.int .i64 0, .int .i64 0]) ∧ Below w.heap.size w w' := by
  refine (xfcompare_c ⟨A, 1, c, [x], A', 1, c', [y]⟩ ⟨C, 1, d, [x], C', 1, d', [y]⟩ w w.heap.size ⟨s1, s2, Digs.one hx', Digs.one hy'⟩ ⟨s3, s4, Digs.one hx', Digs.one hy'⟩ (Nat.le_refl _)).mono ?_
  rintro e w' ⟨rfl, hb⟩
  refine ⟨?_, hb⟩
  obtain ⟨e1, e2⟩ := err1 (f := ⟨A, 1, c, [x], A', 1, c', [y]⟩) rfl rfl rfl hy
  obtain ⟨e3, e4⟩ := err1 (f := ⟨C, 1, d, [x], C', 1, d', [y]⟩) rfl rfl rfl hy
  have he : errV [⟨A, 1, c, [x], A', 1, c', [y]⟩, ⟨C, 1, d, [x], C', 1, d', [y]⟩] = 0 := by unfold errV; simp [e1, e2, e3, e4]
  unfold fcmpV
  rw [he, if_pos rfl, ordI_eq rfl]
end Go.Proofs.Ytchhkokpjdkkiaa.Ex
namespace Go.Proofs.Ytchhkokpjdkkiaa
open Go.RowKit
set_option maxRecDepth 100000 in
set_option maxHeartbeats 3200000 in
theorem frac1_c (x y : Nat) (hx : 0 < x) (hx' : x < 4294967296) (hy : 0 < y) (hy' : y < 4294967296) (A A' : Option Addr) (c c' : Nat) (w : World) (s1 : Ex.Sl w w.heap.size .u32 A 1 c [x]) (s2 : Ex.Sl w w.heap.size .u32 A' 1 c' [y]) :
    Calls Try.prog 50 #[.agg #[.slice A 1 c, .slice A' 1 c'], .int .u64 (x : Int), .int .u64 (y : Int)] w fun e w' => e = .returned (.bool true) ∧ Below w.heap.size w w' := by
  have hB := Blk.newAt w 131 #[.slice A 1 c, .slice A' 1 c'] w.heap.size rfl
  have hb0 := (Below.refl w.heap.size w).alloc (Nat.le_refl _) (.cells #[.slice A 1 c, .slice A' 1 c'] 131)
  have H1 := hide (fun W => Ex.ofs_c x hx hx' W)
  have H2 := hide (fun W => Ex.ofs_c y hy hy' W)
  go_enter Try.func50, Try.ntmps50
  go_upto_region 1 with fail
  obtain ⟨wA, hwA⟩ : ∃ q, q = w.alloc (.cells #[.slice A 1 c, .slice A' 1 c'] 131) := ⟨_, rfl⟩
  rw [← hwA] at hB hb0 ⊢
  have t1 := (s1.below hb0).mono hb0.size
  have t2 := (s2.below hb0).mono hb0.size
  obtain ⟨gF, hgF⟩ : ∃ q, q = w.heap.size := ⟨_, rfl⟩
  rw [← hgF] at hB ⊢
  clear hwA hgF s1 s2
  have HK := hide (fun W (h : Below wA.heap.size wA W) => (show W.cell? ⟨gF, 0, none⟩ = some (.slice A 1 c) ∧ W.cell? ⟨gF, 1, none⟩ = some (.slice A' 1 c') from ⟨(hB.keep h).cell 0, (hB.keep h).cell 1⟩))
  have HD := hide (show Below wA.heap.size wA wA.drew from below_drewN (Below.refl _ _) 1)
  have HC := hide (fun W g1 c1 g2 c2 (h : Below wA.heap.size wA W) (s3 : Ex.Sl W W.heap.size .u32 (some ⟨g1, 0, none⟩) 1 c1 [x]) (s4 : Ex.Sl W W.heap.size .u32 (some ⟨g2, 0, none⟩) 1 c2 [y]) => Ex.cmps_c x y hx' hy hy' A A' _ _ c c' c1 c2 W ((t1.below h).mono h.size) ((t2.below h).mono h.size) s3 s4)
  have k0 := hB.cell 0
  have k1 := hB.cell 1
  simp only [List.getElem?_toArray, List.getElem?_cons_zero, List.getElem?_cons_succ] at k0 k1
  clear t1 t2
  go_region_held3 (fun W => W.cell? ⟨gF, 0, none⟩ = some (.slice A 1 c) ∧ W.cell? ⟨gF, 1, none⟩ = some (.slice A' 1 c')) (first | exact HK.out _ (Below.refl _ _) | exact HK.out _ HD.out | exact HK.out _ (below_on HD.out hb1) | exact HK.out _ (below_on (below_on HD.out hb1) hb2) | exact HK.out _ (below_on (below_on (below_on HD.out hb1) hb2) hb3)) (first | (go_at_call 49; (first | (with_reducible refine (H1.out _).mono ?_; rintro e w1 ⟨g1, c1, rfl, s3, hb1⟩) | (with_reducible refine (H2.out _).mono ?_; rintro e w2 ⟨g2, c2, rfl, s4, hb2⟩))) | (go_at_call 87; refine (HC.out _ _ _ _ _ (below_on (below_on HD.out hb1) hb2) ((s3.below hb2).mono hb2.size) s4).mono ?_; rintro e w3 ⟨rfl, hb3⟩))
  have hbz := below_on (below_on (below_on HD.out hb1) hb2) hb3
  have z1 := (hB.keep hbz).cell 1
  simp only [List.getElem?_toArray, List.getElem?_cons_zero, List.getElem?_cons_succ] at z1
  clear hb1 hb2 hb3 s3 s4 HC HK HD k0 k1 H1 H2
  go_wp2
  go_ret
  exact ⟨rfl, below_on hb0 hbz⟩
theorem bound_small {A A' : Option Addr} {c c' : Nat} {b err : Int} (h : Ex.SBound 4 2 0 ⟨A, 1, c, [1], A', 1, c', [6]⟩ b err) : b = 1 ∧ err = 0 := by
  obtain ⟨e1, e2⟩ := Ex.err1 (f := ⟨A, 1, c, [1], A', 1, c', [6]⟩) rfl rfl rfl (show 0 < 6 by omega)
  have he : Ex.errV [⟨A, 1, c, [1], A', 1, c', [6]⟩] = 0 := by unfold Ex.errV; simp [e1, e2]
  rcases h with ⟨h1, _⟩ | ⟨_, h2, _⟩ | ⟨_, _, h3, _⟩ | ⟨_, _, _, h4, h5⟩
  · exact absurd he h1
  · exact absurd ⟨by decide, by omega, by omega⟩ h2
  · rw [Ex.val1, Ex.val1] at h3; omega
  · refine ⟨?_, h5⟩
    rw [h4, Ex.val1, Ex.val1]
    show ((Ex.bsN (Ex.possN 4 2 0 1 6) 0 4 : Nat) : Int) = 1
    rw [Ex.bsN_down (by omega) (by decide), Ex.bsN_up (by omega) (by decide), Ex.bsN_end (by omega)]
    rfl
set_option maxRecDepth 100000 in
set_option maxHeartbeats 3200000 in
theorem rate_c (A A' : Option Addr) (c c' : Nat) (w : World) (s1 : Ex.Sl w w.heap.size .u32 A 1 c [1]) (s2 : Ex.Sl w w.heap.size .u32 A' 1 c' [6]) :
    Calls Try.prog 48 #[.int .i64 4, .int .i64 2, .int .i64 0, .agg #[.slice A 1 c, .slice A' 1 c']] w fun e w' => e = .returned (.tuple #[.agg #[.int .i64 4, .int .i64 2, .int .i64 0, .int .i64 1, .int .i64 1], .int .i64 0]) ∧ Below w.heap.size w w' := by
  have hB := Blk.newAt w 131 #[.slice A 1 c, .slice A' 1 c'] w.heap.size rfl
  have hb0 := (Below.refl w.heap.size w).alloc (Nat.le_refl _) (.cells #[.slice A 1 c, .slice A' 1 c'] 131)
  have hE := Blk.newAt (w.alloc (.cells #[.slice A 1 c, .slice A' 1 c'] 131)) 135 #[.int .i64 0, .int .i64 0, .int .i64 0, .int .i64 0, .int .i64 0] (w.heap.size + 1) (by simp)
  have hB := hB.alloc (.cells #[.int .i64 0, .int .i64 0, .int .i64 0, .int .i64 0, .int .i64 0] 135)
  have hb0 := hb0.alloc hb0.size (.cells #[.int .i64 0, .int .i64 0, .int .i64 0, .int .i64 0, .int .i64 0] 135)
  go_enter Try.func48, Try.ntmps48
  go_upto_region 1 with fail
  obtain ⟨wA, hwA⟩ : ∃ q, q = (w.alloc (.cells #[.slice A 1 c, .slice A' 1 c'] 131)).alloc (.cells #[.int .i64 0, .int .i64 0, .int .i64 0, .int .i64 0, .int .i64 0] 135) := ⟨_, rfl⟩
  rw [← hwA] at hB hb0 hE ⊢
  have t1 := (s1.below hb0).mono hb0.size
  have t2 := (s2.below hb0).mono hb0.size
  have HG := hide (show w.heap.size ≤ w.heap.size + 1 by omega)
  obtain ⟨gE, hgE⟩ : ∃ q, q = w.heap.size + 1 := ⟨_, rfl⟩
  rw [← hgE] at hE HG ⊢
  obtain ⟨gF, hgF⟩ : ∃ q, q = w.heap.size := ⟨_, rfl⟩
  rw [← hgF] at hB ⊢
  clear hwA hgF hgE s1 s2
  have HC := hide ((Ex.xbound_c 4 2 0 ⟨A, 1, c, [1], A', 1, c', [6]⟩ wA wA.heap.size ⟨t1, t2, Ex.Digs.one (by omega), Ex.Digs.one (by omega)⟩ (Nat.le_refl _)).mono fun e w' h => (by
    obtain ⟨b, err, he, hS, hb⟩ := h
    obtain ⟨rfl, rfl⟩ := bound_small hS
    exact ⟨he, hb⟩ : e = .returned (.tuple #[.int .i64 1, .int .i64 0]) ∧ Below wA.heap.size wA w'))
  clear t1 t2
  go_upto_region 4 with (first | (refine wl_load (o := ⟨some 16, _, _, _, _, _⟩) rfl 131 _ rfl gF rfl 131 #[.slice A 1 c, .slice A' 1 c'] _ hB Try.underlying131 rfl (by kernel_rfl) ?_) | (go_at_call 85; refine HC.out.mono ?_; rintro e w1 ⟨rfl, hb1⟩))
  have hE1 := hE.keep hb1
  go_wp2_with (refine wl_store (o := ⟨none, _, _, _, _, _⟩) rfl 135 _ _ rfl gE #[.int .i64 4, .int .i64 2, .int .i64 0, .int .i64 1, .int .i64 1] rfl rfl 135 #[.int .i64 0, .int .i64 0, .int .i64 0, .int .i64 0, .int .i64 0] hE1 (by kernel_rfl) rfl (by simp [Value.oneCell']) ?_; intro w5 hO5 hg5)
  exact bodyPost_ret (results_row_tmp rfl _ _ gE _ _ _ rfl hO5 Try.underlying135 rfl (by kernel_rfl)) rfl ⟨rfl, below_grown (hb0.trans (hb1.mono hb0.size)) hg5 HG.out (Nat.le_refl _)⟩
end Go.Proofs.Ytchhkokpjdkkiaa

namespace Go.Proofs.Ytchhkokpjdkkiaa
open Go.RowKit

variable {P : Program}
theorem yieldsIf_load_blk {ops : Array Oper} {S : World → Prop} {op : Oper} {a : Act} (hw : Region.wanted op (yielded ops a.tmps) = true) (ty : TypeId) (x : Operand) (ho : op.op = .load ty x)
    (g : Nat) (hx : a.eval x = .pointer (some ⟨g, 0, none⟩)) (t : TypeId) (cs : Array Value) (d : TypeDesc) (hS : ∀ w, S w → Blk w g t cs)
    (hu : P.underlying ty = some d) (hd : (match d with | .struct _ | .array _ _ => true | _ => false) = true) (hi : (P.info? ty).map (·.size) = some cs.size) : YieldsIf P ops S op (.agg cs) a :=
  .inl ⟨hw, fun w hw' => by
    unfold execOp
    simp only [ho, hx, Instr.loadAt, Instr.sureAddr, Sem.run_bind, Sem.run_pure, Result.andThen_ok, run_loadVar_row w g t ty cs (0, 0) d (hS w hw') hu hd hi]⟩
theorem yieldsIf_neq_str {ops : Array Oper} {S : World → Prop} {op : Oper} {a : Act} (hw : Region.wanted op (yielded ops a.tmps) = true) (t z : TypeId) (x y : Operand) (ho : op.op = .binOp .neq t x y z)
    (T : ByteArray) (hx : a.eval x = .string T) (hy : a.eval y = .string T) : YieldsIf P ops S op (.bool false) a :=
  .inl ⟨hw, fun w _ => by
    unfold execOp
    simp only [ho, hx, hy]
    simp [eqGuard, binOp, Op.stringOp]⟩
theorem yieldsIf_neq_int {ops : Array Oper} {S : World → Prop} {op : Oper} {a : Act} (hw : Region.wanted op (yielded ops a.tmps) = true) (t z : TypeId) (x y : Operand) (ho : op.op = .binOp .neq t x y z)
    (k : IntKind) (n : Int) (hx : a.eval x = .int k n) (hy : a.eval y = .int k n) : YieldsIf P ops S op (.bool false) a :=
  .inl ⟨hw, fun w _ => by
    unfold execOp
    simp only [ho, hx, hy]
    simp [eqGuard, binOp, Op.intCmp]⟩
theorem yieldsIf_eql_int {ops : Array Oper} {S : World → Prop} {op : Oper} {a : Act} (hw : Region.wanted op (yielded ops a.tmps) = true) (t z : TypeId) (x y : Operand) (ho : op.op = .binOp .eql t x y z)
    (k : IntKind) (n m : Int) (hx : a.eval x = .int k n) (hy : a.eval y = .int k m) : YieldsIf P ops S op (.bool (n == m)) a :=
  .inl ⟨hw, fun w _ => by
    unfold execOp
    simp only [ho, hx, hy]
    simp [eqGuard, binOp, Op.intCmp]⟩
theorem yieldsIf_load1 {ops : Array Oper} {S : World → Prop} {op : Oper} {a : Act} (hw : Region.wanted op (yielded ops a.tmps) = true) (ty : TypeId) (x : Operand) (ho : op.op = .load ty x)
    (p : Addr) (hx : a.eval x = .pointer (some p)) (v : Value) (hna : ∀ w, (isAgg ty).run P w = .ok false w) (hS : ∀ w, S w → w.cell? p = some v) : YieldsIf P ops S op v a :=
  .inl ⟨hw, fun w hw' => by
    unfold execOp
    simp only [ho, hx]
    simp [Instr.loadAt, Instr.sureAddr, loadVar, hna, run_load, hS w hw']⟩
theorem yieldsIf_indexAddr {ops : Array Oper} {S : World → Prop} {op : Oper} {a : Act} (hw : Region.wanted op (yielded ops a.tmps) = true) (ty : TypeId) (x y : Operand) (ho : op.op = .indexAddr ty x y)
    (e : TypeId) (hu : P.underlying ty = some (.slice e)) (hc : ∀ w, (Go.sizeOf e).run P w = .ok 1 w) (b off m c i : Nat) (z : Int) (hx : a.eval x = .slice (some ⟨b, off, none⟩) m c) (hy : a.eval y = .int .i64 z) (hz : z = (i : Int)) (hi : i < m) : YieldsIf P ops S op (.pointer (some ⟨b, off + i, none⟩)) a :=
  .inl ⟨hw, fun w hw' => by
    subst hz
    unfold execOp
    simp only [ho, hx, hy]
    simp [Instr.indexAt, asIntOf, run_underlying hu, hc, hi, Addr.add]⟩
theorem yieldsIf_move {ops : Array Oper} {S : World → Prop} {op : Oper} {a : Act} (hw : Region.wanted op (yielded ops a.tmps) = true) (x : Operand) (ho : op.op = .move x ∨ op.op = .assign x)
    (v : Value) (hx : a.eval x = v) : YieldsIf P ops S op v a :=
  .inl ⟨hw, fun w _ => by
    unfold execOp
    rcases ho with ho | ho <;> simp only [ho, hx] <;> rfl⟩
theorem yieldsIf_pick_false {ops : Array Oper} {S : World → Prop} {op : Oper} {a : Act} (hw : Region.wanted op (yielded ops a.tmps) = true) (c x y : Operand) (ho : op.op = .pick c x y)
    (hc : a.eval c = .bool false) (v : Value) (hy : a.eval y = v) : YieldsIf P ops S op v a :=
  .inl ⟨hw, fun w _ => by
    unfold execOp
    simp only [ho, hc, hy]
    simp [asBool]⟩
theorem yieldsIf_pick_true {ops : Array Oper} {S : World → Prop} {op : Oper} {a : Act} (hw : Region.wanted op (yielded ops a.tmps) = true) (c x y : Operand) (ho : op.op = .pick c x y)
    (hc : a.eval c = .bool true) (v : Value) (hx : a.eval x = v) : YieldsIf P ops S op v a :=
  .inl ⟨hw, fun w _ => by
    unfold execOp
    simp only [ho, hc, hx]
    simp [asBool]⟩
theorem yieldsIf_op {ops : Array Oper} {S : World → Prop} {op : Oper} {a : Act} (hw : Region.wanted op (yielded ops a.tmps) = true) (v : Value) (hc : ∀ w, (execOp a.eval op).run P w = .ok (.value v) w) : YieldsIf P ops S op v a := .inl ⟨hw, fun w _ => hc w⟩
theorem yieldsIf_convert {ops : Array Oper} {S : World → Prop} {op : Oper} {a : Act} (hw : Region.wanted op (yielded ops a.tmps) = true) (s d : TypeId) (x : Operand) (ho : op.op = .convert s d x)
    (v v' : Value) (hx : a.eval x = v) (hc : ∀ w, (convert s d v).run P w = .ok v' w) : YieldsIf P ops S op v' a :=
  .inl ⟨hw, fun w _ => by
    unfold execOp
    simp only [ho, hx]
    simp [hc]⟩
theorem yieldsIf_build {ops : Array Oper} {S : World → Prop} {op : Oper} {a : Act} (hw : Region.wanted op (yielded ops a.tmps) = true) (t : TypeId) (ps : Array (Nat × Operand)) (ho : op.op = .build t ps)
    (vs : Array (Nat × Value)) (hx : (ps.map fun (i, x) => (i, a.eval x)) = vs) (v : Value) (hc : ∀ w, (Instr.build t vs).run P w = .ok v w) : YieldsIf P ops S op v a :=
  .inl ⟨hw, fun w _ => by
    unfold execOp
    simp only [ho, hx]
    simp [hc]⟩
theorem yieldsIf_extract {ops : Array Oper} {S : World → Prop} {op : Oper} {a : Act} (hw : Region.wanted op (yielded ops a.tmps) = true) (x : Operand) (ix : Nat) (ho : op.op = .extract x ix)
    (vs : Array Value) (hx : a.eval x = .tuple vs) (v : Value) (hv : ∀ w, (Instr.extract (.tuple vs) ix).run P w = .ok v w) : YieldsIf P ops S op v a :=
  .inl ⟨hw, fun w _ => by
    unfold execOp
    simp only [ho, hx]
    simp [hv]⟩
/-- A whole struct stored at a step of a region that draws its order. -/
theorem step_store {ops : Array Oper} {o : Oper} {a : Act} {w : World} {Q : Exit → Act → World → Prop} {K : Act → World → Prop} {E' : Prop} (hgd : o.guard = none) (ty : TypeId) (x y : Operand) (ho : o.op = .store ty x y) (g : Nat) (cells : Array Value) (hx : a.eval x = .pointer (some ⟨g, 0, none⟩)) (hy : a.eval y = .agg cells)
    (t : TypeId) (old : Array Value) (hg : Blk w g t old) (hi : (P.info? ty).map (·.size) = some cells.size) (hold : old.size = cells.size) (h1 : cells.all (·.oneCell') = true)
    (h : ∀ w', Blk w' g t cells → w.grownBy w' (some g) → K (a.put o.dst undef) w') : if Region.wanted o (yielded ops a.tmps) = true then Oper.wp P o a w K Q else E' := by
  have hwd : Region.wanted o (yielded ops a.tmps) = true := by simp [Region.wanted, hgd]
  rw [if_pos hwd]
  exact wp_store_row ty x y ho g cells hx hy t old hg hi hold h1 (h _ (hg.setRow _) (grownBy_setRow _ _ _))
/-- A whole struct or array read by a guarded load whose guard holds. -/
theorem wl_loadG {ops : Array Oper} {rest : List Oper} {o : Oper} {a : Act} {w : World} {Q : Exit → Act → World → Prop} (hwd : Region.wanted o (yielded ops a.tmps) = true) (ty : TypeId) (x : Operand) (ho : o.op = .load ty x) (g : Nat) (hx : a.eval x = .pointer (some ⟨g, 0, none⟩)) (t : TypeId) (cs : Array Value) (d : TypeDesc) (hg : Blk w g t cs)
    (hu : P.underlying ty = some d) (hd : (match d with | .struct _ | .array _ _ => true | _ => false) = true) (hi : (P.info? ty).map (·.size) = some cs.size)
    (h : wpList P ops Q rest (a.put o.dst (.agg cs)) w) : wpList P ops Q (o :: rest) a w := by
  unfold wpList
  rw [if_pos hwd]
  exact .inl (wp_load_row ty x ho g hx t cs (0, 0) d hg hu hd hi h)
end Go.Proofs.Ytchhkokpjdkkiaa

namespace Go.Proofs.Ytchhkokpjdkkiaa
open Go.RowKit

def onesL (L : List Bool) : Nat := (L.filter id).length
theorem onesL_le (L : List Bool) : onesL L ≤ L.length := List.length_filter_le _ _
theorem onesL_yes {L : List Bool} {k : Nat} (h : L[k]? = some true) : onesL (L.take (k + 1)) = onesL (L.take k) + 1 := by
  unfold onesL; rw [List.take_add_one, h, List.filter_append, List.length_append]; simp
theorem onesL_no {L : List Bool} {k : Nat} (h : L[k]? = some false) : onesL (L.take (k + 1)) = onesL (L.take k) := by
  unfold onesL; rw [List.take_add_one, h, List.filter_append, List.length_append]; simp
set_option maxRecDepth 100000 in
set_option maxHeartbeats 1600000 in
theorem acount_c (A : Option Addr) (n c : Nat) (L : List Bool) (w : World) (r : Rd eBool w w.heap.size A n c L) : Calls Try.prog 88 #[.slice A n c] w fun e w' => e = .returned (.int .i64 (onesL L : Nat)) ∧ w' = w := by
  have hm := r.max
  have hcap := r.cap
  have HL := hide r.len
  go_enter Try.func88, Try.ntmps88
  go_wp2
  go_loopw [7, 2] (fun iv ov wr => ∃ k : Nat, k ≤ n ∧ iv = .int .i64 k ∧ ov = .int .i64 (onesL (L.take k) : Nat) ∧ wr = w) (fun iv _ _ => n - (intOf iv).toNat)
  case atStart => exact ⟨0, Nat.zero_le _, rfl, rfl, rfl⟩
  case round =>
    obtain ⟨k, hk, rfl, rfl, hwr⟩ := hrel
    rw [hwr]
    clear hwr
    have hcn := onesL_le (L.take k)
    rw [List.length_take] at hcn
    obtain ⟨cn, hcn'⟩ : ∃ q, q = onesL (L.take k) := ⟨_, rfl⟩
    rw [← hcn'] at hcn ⊢
    have HCN := hide hcn'
    clear hcn'
    by_cases hlt : k < n
    · obtain ⟨b, off, x, rfl, hb, hx, hc⟩ := r.get hlt
      have c0 := hc 0 _ rfl
      simp only [eBool, Nat.add_zero, Nat.mul_one] at c0
      have HX := hide hx
      clear hc hx hb
      cases x
      · go_wp2
        go_roundw
        case rel => exact ⟨k + 1, by omega, by go_num, by rw [onesL_no HX.out, HCN.out], trivial⟩
        case measure => simp [intOf] <;> omega
      · go_wp2
        go_roundw
        case rel => exact ⟨k + 1, by omega, by go_num, by rw [onesL_yes HX.out, HCN.out]; go_num, trivial⟩
        case measure => simp [intOf] <;> omega
    · have HR := hide (show cn = onesL L by rw [HCN.out, List.take_of_length_le (by have := HL.out; omega)])
      go_wp2
      go_ret
      exact ⟨by rw [HR.out]; rfl, rfl⟩
set_option maxRecDepth 100000 in
theorem tparity1_c (A : Option Addr) (w : World) (r : Rd eBool w w.heap.size A 1 1 [true]) : Calls Try.prog 51 #[.slice A 1 1] w fun e w' => e = .returned (.bool true) ∧ w' = w := by
  have HC := hide (show Calls Try.prog 88 #[.slice A 1 1] w fun e w' => e = .returned (.int .i64 1) ∧ w' = w from acount_c A 1 1 [true] w r)
  go_enter Try.func51, Try.ntmps51
  go_wp2_with (go_at_call 88; refine HC.out.mono ?_; rintro e w1 ⟨rfl, hq⟩; rw [hq]; clear hq)
  go_ret
  exact ⟨rfl, rfl⟩
theorem of1_c (w : World) : Calls Try.prog 49 #[.int .u64 1] w fun e w' => ∃ g c, e = .returned (.slice (some ⟨g, 0, none⟩) 1 c) ∧ Ex.Sl w' w'.heap.size .u32 (some ⟨g, 0, none⟩) 1 c [1] ∧ Below w.heap.size w w' := Ex.ofs_c 1 (by omega) (by omega) w
theorem of6_c (w : World) : Calls Try.prog 49 #[.int .u64 6] w fun e w' => ∃ g c, e = .returned (.slice (some ⟨g, 0, none⟩) 1 c) ∧ Ex.Sl w' w'.heap.size .u32 (some ⟨g, 0, none⟩) 1 c [6] ∧ Below w.heap.size w w' := Ex.ofs_c 6 (by omega) (by omega) w
set_option maxRecDepth 100000 in
set_option maxHeartbeats 3200000 in
theorem works04_c (w : World) : Calls Try.prog 21 #[] w fun e w' => e = .returned (.bool true) ∧ Below w.heap.size w w' := by
  have HT := hide (fun W => (Ex.tail_c 4 1 2 0 W (by omega) (by omega)).mono fun e w' h => (by
    obtain ⟨A, n, c, l, A', n', c', l', err, he, s1, s2, hS, hb⟩ := h
    obtain ⟨rfl, rfl, rfl⟩ := Ex.tail_small hS
    obtain rfl : 1 = n := s1.len
    obtain rfl : 1 = n' := s2.len
    exact ⟨A, c, A', c', he, s1, s2, hb⟩ : ∃ A c A' c', e = .returned (.tuple #[.agg #[.slice A 1 c, .slice A' 1 c'], .int .i64 0]) ∧ Ex.Sl w' w'.heap.size .u32 A 1 c [1] ∧ Ex.Sl w' w'.heap.size .u32 A' 1 c' [2] ∧ Below W.heap.size W w'))
  have HO1 := hide of1_c
  have HO6 := hide of6_c
  go_enter Try.func21, Try.ntmps21
  go_upto_region 2 with (go_at_call 47; refine (HT.out _).mono ?_; rintro e w1 ⟨A, c, A', c', rfl, s1, s2, hb1⟩)
  have hB := Blk.newAt w1 131 #[.slice A 1 c, .slice A' 1 c'] w1.heap.size rfl
  have hbA := below_alloc w1 (.cells #[.slice A 1 c, .slice A' 1 c'] 131)
  obtain ⟨wA, hwA⟩ : ∃ q, q = w1.alloc (.cells #[.slice A 1 c, .slice A' 1 c'] 131) := ⟨_, rfl⟩
  rw [← hwA] at hB hbA ⊢
  have t1 := (s1.below hbA).mono hbA.size
  have t2 := (s2.below hbA).mono hbA.size
  obtain ⟨gF, hgF⟩ : ∃ q, q = w1.heap.size := ⟨_, rfl⟩
  rw [← hgF] at hB ⊢
  have hbw := below_on hb1 hbA
  clear hwA hgF s1 s2 hb1 hbA HT
  go_upto_region 3 with (first | (go_at_call 49; (first | (with_reducible refine (HO1.out _).mono ?_; rintro e w2 ⟨g1, c1, rfl, s3, hb2⟩) | (with_reducible refine (HO6.out _).mono ?_; rintro e w3 ⟨g2, c2, rfl, s4, hb3⟩))) | (go_at_call 48; refine (rate_c _ _ _ _ _ ((s3.below hb3).mono hb3.size) s4).mono ?_; rintro e w4 ⟨rfl, hb4⟩))
  have hb14 := below_on (below_on hb2 hb3) hb4
  have hB4 := hB.keep hb14
  have t1 := (t1.below hb14).mono hb14.size
  have t2 := (t2.below hb14).mono hb14.size
  have hbw := below_on hbw hb14
  clear hb14 hb2 hb3 hb4 s3 s4 HO1 HO6 hB
  have hE := Blk.newAt w4 135 #[.int .i64 4, .int .i64 2, .int .i64 0, .int .i64 1, .int .i64 1] w4.heap.size rfl
  have hbE := below_alloc w4 (.cells #[.int .i64 4, .int .i64 2, .int .i64 0, .int .i64 1, .int .i64 1] 135)
  obtain ⟨w5, hw5⟩ : ∃ q, q = w4.alloc (.cells #[.int .i64 4, .int .i64 2, .int .i64 0, .int .i64 1, .int .i64 1] 135) := ⟨_, rfl⟩
  rw [← hw5] at hE hbE ⊢
  obtain ⟨gE, hgE⟩ : ∃ q, q = w4.heap.size := ⟨_, rfl⟩
  rw [← hgE] at hE ⊢
  have hB5 := hB4.keep hbE
  have t1 := (t1.below hbE).mono hbE.size
  have t2 := (t2.below hbE).mono hbE.size
  have hbw := below_on hbw hbE
  clear hw5 hgE hbE hB4
  have HF := hide (show Calls Try.prog 50 #[.agg #[.slice A 1 c, .slice A' 1 c'], .int .u64 1, .int .u64 2] w5 fun e w' => e = .returned (.bool true) ∧ Below w5.heap.size w5 w' from frac1_c 1 2 (by omega) (by omega) (by omega) (by omega) A A' c c' w5 t1 t2)
  clear t1 t2
  go_wp2_with (first | (refine wl_loadG (o := ⟨some 19, _, _, _, _, _⟩) (by rfl) 131 _ rfl gF rfl 131 #[.slice A 1 c, .slice A' 1 c'] _ hB5 Try.underlying131 rfl (by kernel_rfl) ?_) | (go_at_call 50; refine HF.out.mono ?_; rintro e w6 ⟨rfl, hb6⟩; have e3 := (hE.keep hb6).cell 3; simp only [List.getElem?_toArray, List.getElem?_cons_zero, List.getElem?_cons_succ] at e3) | (go_at_call 51; refine (tparity1_c _ _ (Rd.newAt (e := eBool) w6 4 true #[.bool true] rfl w6.heap.size rfl)).mono ?_; rintro e w7 ⟨rfl, hq⟩; rw [hq]; clear hq))
  go_ret
  exact ⟨rfl, below_on (below_on hbw hb6) (below_alloc _ _)⟩
end Go.Proofs.Ytchhkokpjdkkiaa
