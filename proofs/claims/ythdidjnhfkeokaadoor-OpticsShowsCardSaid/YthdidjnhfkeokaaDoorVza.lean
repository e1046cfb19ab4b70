/- The iterator of optics.slots, inside the wide fence; an append on a list of the call's own, inside a fence. -/
import Derived.Test.YthdidjnhfkeokaaDoorVz
namespace Go.Proofs.YthdidjnhfkeokaaDoor
open Go.RowKit Go.Shelf
attribute [local go_sem] Oper.semAt_some

/-- Cells of other types than pulses and lists of pulses stay as they are. -/
structure KC (W W' : World) : Prop where
  size : W.heap.size ≤ W'.heap.size
  cells : ∀ r t cs, t ≠ 55 → t ≠ 38 → Blk W r t cs → Blk W' r t cs
theorem KC.refl (W : World) : KC W W := ⟨Nat.le_refl _, fun _ _ _ _ _ h => h⟩
theorem KC.trans {A B C : World} (h : KC A B) (k : KC B C) : KC A C := ⟨Nat.le_trans h.size k.size, fun r t cs h1 h2 hb => k.cells r t cs h1 h2 (h.cells r t cs h1 h2 hb)⟩
theorem KC.grown {W W' : World} {row : Option Nat} (h : W.grownBy W' row) (hr : ∀ r, row = some r → ∀ t cs, t ≠ 55 → t ≠ 38 → ¬ Blk W r t cs) : KC W W' :=
  ⟨h.size, fun r t cs h1 h2 hb => hb.grown h (fun e => hr r e.symm t cs h1 h2 hb)⟩
theorem KC.putObj (W : World) (l : Nat) (o o' : Obj) (hl : W.heap[l]? = some o) (ho : o.isCells = false) : KC W (W.putObj l o') :=
  KC.grown (grownBy_putObj' W l o') (fun r e t cs _ _ hb => by cases e; unfold Blk at hb; rw [hl] at hb; cases hb; cases ho)
section
variable {F : Fence} {n : Nat} {P : Program} {ops : Array Oper} {rest : List Oper} {o : Oper} {a : Act} {w : World} {Q : Exit → Act → World → Prop}
theorem wlIn_load (hgd : o.guard = none) (ty : TypeId) (x : Operand) (ho : o.op = .load ty x) (g : Nat) (hx : a.eval x = .pointer (some ⟨g, 0, none⟩)) (t : TypeId) (cs : Array Value) (d : TypeDesc) (hg : Blk w g t cs)
    (hu : P.underlying ty = some d) (hd : (match d with | .struct _ | .array _ _ => true | _ => false) = true) (hi : (P.info? ty).map (·.size) = some cs.size)
    (h : wpListIn F n P ops Q rest (a.put o.dst (.agg cs)) w) : wpListIn F n P ops Q (o :: rest) a w := by
  refine wpListIn_plain hgd fun K hK' => ?_
  have hrun := run_loadVar_row (P := P) w g t ty cs (0, 0) d hg hu hd hi
  unfold Oper.wpIn
  refine ⟨?_, ?_⟩
  · simp [Oper.about, ho]
  · rw [Oper.semAt_plain F _ _ (by rw [ho]; intro c hc'; cases hc')]
    simp [execOp, ho, hx, Instr.loadAt, Instr.sureAddr, hrun, Result.andThen]
    exact hK' _ _ h
theorem wlIn_app {α : Type} (e : Enc α) (w : World) (hg : o.guard = none) (s x : Operand) (t : TypeId) (ho : o.op = .call { callee := .builtin .append, args := #[s, x], argTypes := #[t, t] })
    (base : Nat) (E : TypeId) (z : Value) (bytes : Nat) (hu : P.underlying t = some (.slice E)) (hinfo : (P.info? E).map (fun i => (i.zero, i.size, i.bytes)) = some (some z, e.nf, bytes)) (hzc : z.cells.size = e.nf) (hby : bytes ≤ 128)
    (A : Option Addr) (m1 c : Nat) (L : List α) (hs : a.eval s = .slice A m1 c) (hown : Ow e w base E A m1 c L)
    (D : Option Addr) (m d : Nat) (news : List α) (hx : a.eval x = .slice D m d) (B : Nat) (hsl : Rd e w B D m d news)
    (hsz : m1 + m ≤ 1099511627776) (hbase : base ≤ w.heap.size)
    (hK : ∀ A' c' w', Ow e w' base E A' (m1 + m) c' (L ++ news) → w.grownBy w' (A.map (·.block)) → (A' = A ∨ ∃ g, A' = some ⟨g, 0, none⟩ ∧ w.heap.size ≤ g) → wpListIn F n P ops Q rest (a.put o.dst (.slice A' (m1 + m) c')) w') :
    wpListIn F n P ops Q (o :: rest) a w := by
  refine wpListIn_plain hg fun K hKK => ?_
  obtain ⟨A', c', w', hrun, r1, r2, r3⟩ := run_app (P := P) e w t o.type base E z bytes hu hinfo hzc hby A m1 c L hown D m d news B hsl hsz hbase
  unfold Oper.wpIn
  refine ⟨?_, ?_⟩
  · simp [Oper.about, ho, resolve, Target.leads, Sem.run_pure]
  · rw [Oper.semAt_plain F _ _ (by rw [ho]; intro c hc'; cases hc')]
    simp [execOp, ho, resolve, invoke, builtin, hs, hx, hrun, Result.andThen]
    exact hKK _ _ (hK A' c' w' r1 r2 r3)
end
theorem emiF_succ' {f : Nat → Int} {s i t : Nat} {xs : List Pu} (h : emiF f s i = (xs, t)) {p : Pu} {t2 : Nat} (h2 : pulF f t = (p, t2)) : emiF f s (i + 1) = (xs ++ [p], t2) := by rw [emiF, h]; simp only [h2]
def Nxt (f : Nat → Int) (s N : Nat) (pre : List Pu) (x : Pu) : Prop := ∃ i, i < N ∧ pre = (emiF f s i).1 ∧ x = (pulF f (emiF f s i).2).1

set_option maxRecDepth 100000 in
set_option maxHeartbeats 3200000 in
theorem slots_in (f : Nat → Int) (hok : checkErr f = 0) (N s gS gN gO l k : Nat) (hk : 1 ≤ k) (hN2 : N ≤ 4096) (J : List Pu → World → Prop) (W : World) (hS : Blk W gS 37 #[.int .u64 (s : Int)]) (hN : Blk W gN 3 #[.int .i64 (N : Int)]) (hO : Blk W gO 26 (cells18 f))
    (hJ : OwnAbd 161 W.heap.size J)
    (hY : ∀ pre x W1, J pre W1 → Nxt f s N pre x → YieldAt Fence.wide (k - 1) Tryd.prog l #[.agg (puC x)] W1 fun e W' => e = .returned (.bool true) ∧ J (pre ++ [x]) W' ∧ KC W1 W') (h0 : J [] W) :
    CallsIn Fence.wide k Tryd.prog 90 #[.func (.yield l) #[] #[], .pointer (some ⟨gS, 0, none⟩), .pointer (some ⟨gN, 0, none⟩), .pointer (some ⟨gO, 0, none⟩)] W fun e W' => (∃ v, e = .returned v) ∧ J (emiF f s N).1 W' := by
  have s0 := hS.cell 0
  have n0 := hN.cell 0
  simp only [List.getElem?_toArray, List.getElem?_cons_zero] at s0 n0
  have hltO := hO.lt
  have hltN := hN.lt
  refine callsIn_of_wp Tryd.func90 rfl trivial ?_ rfl
  simp only [Tryd.ntmps90, List.size_toArray, List.length_cons, List.length_nil, Nat.reduceAdd, Nat.reduceSub, Array.replicate_succ, Array.replicate_zero, List.push_toArray, List.append_toArray, List.nil_append, List.cons_append]
  gi_wp2_with (first | (refine ⟨trivial, ?_⟩; gi_at_call 77; refine (callsIn_wide.2 (new_c s _)).mono ?_; rintro e w1 ⟨rfl, hD, hw1⟩; have hN1 : Blk w1 gN 3 #[.int .i64 (N : Int)] := (by rw [hw1]; exact hN.alloc _); have n1 := hN1.cell 0; simp only [List.getElem?_toArray, List.getElem?_cons_zero] at n1; have HW1 := hide hw1; clear hw1))
  obtain ⟨D, hDe⟩ : ∃ d, d = W.heap.size := ⟨_, rfl⟩
  have hJ1 : J [] w1 := hJ [] W w1 none h0 (by rw [HW1.out]; exact World.grownBy_alloc _ _ _) (fun r e => by cases e)
  have hO1 : Blk w1 gO 26 (cells18 f) := by rw [HW1.out]; exact hO.alloc _
  rw [← hDe] at hD ⊢
  have hOD : gO ≠ D := by omega
  have HDE := hide hDe
  clear hDe HW1 s0 n0
  gi_loopw [9] (fun iv wr => ∃ i : Nat, i ≤ N ∧ iv = .int .i64 i ∧ J (emiF f s i).1 wr ∧ Dr wr D (emiF f s i).2 ∧ Blk wr gO 26 (cells18 f)) (fun iv _ => N - (intOf iv).toNat)
  case atStart => exact ⟨0, by omega, rfl, hJ1, hD, hO1⟩
  case round =>
    clear hJ1 hD hO1
    obtain ⟨i, hi, rfl, hJs, hD, hO1⟩ := hrel
    by_cases hlt : i < N
    · obtain ⟨xs, t, het⟩ : ∃ a b, emiF f s i = (a, b) := ⟨_, _, rfl⟩
      obtain ⟨x, t2, hpt⟩ : ∃ a b, pulF f t = (a, b) := ⟨_, _, rfl⟩
      have HEM := hide (emiF_succ' het hpt)
      have HNX := hide (show Nxt f s N xs x from ⟨i, hlt, by rw [het], by rw [het]; simp only [hpt]⟩)
      rw [het] at hJs hD
      simp only at hJs hD
      have hp := pulse_c f hok D t wr hD
      have hp2 := hp.mono (R' := fun e w' => e = .returned (.agg (puC x)) ∧ Dr w' D t2 ∧ wr.grownBy w' (some D)) (fun e w' h => by unfold SPul at h; rw [hpt] at h; exact h)
      have HP := hide hp2
      have HYY := hide (fun (w2 : World) (hd2 : Dr w2 D t2) (hg2 : wr.grownBy w2 (some D)) => hY xs x w2 (hJ xs wr w2 (some D) hJs hg2 (fun r e => by cases e; exact ⟨by have := HDE.out; omega, _, hD⟩)) HNX.out)
      clear het hpt hp hp2
      gi_wp2_with (first | (refine wlIn_load (o := ⟨some 12, _, _, _, _, _⟩) rfl 26 _ rfl gO rfl 26 (cells18 f) _ hO1 Tryd.underlying26 rfl (by kernel_rfl) ?_) | (refine ⟨trivial, ?_⟩; gi_at_call 91; refine (callsIn_wide.2 HP.out).mono ?_; rintro e w2 ⟨rfl, hD2, hg2⟩; obtain ⟨fn, tmps, assign, body, hy, hR⟩ := HYY.out w2 hD2 hg2))
      refine hR.mono ?_
      rintro e W3 ⟨rfl, hJ3, hk3⟩
      have hO2 := hO1.grown hg2 (by simpa using hOD)
      gi_wp2
      go_roundw
      case rel => exact ⟨i + 1, by omega, by go_num, by rw [HEM.out]; exact hJ3, by rw [HEM.out]; exact hk3.cells _ _ _ (by decide) (by decide) hD2, hk3.cells _ _ _ (by decide) (by decide) hO2⟩
      case measure => simp [intOf] <;> omega
    · obtain rfl : i = N := by omega
      gi_wp2
      go_end0
      exact ⟨⟨_, rfl⟩, hJs⟩
end Go.Proofs.YthdidjnhfkeokaaDoor
