/- The iterator of optics.slots, inside the wide fence; an append on a list of the call's own, inside a fence. Contracts of the reference's kind, detect. Contract of the reference's weighed. Contract of the reference's row and Check. Contract of the reference's Check. Which blocks a call may turn ('Fr'); the eavesdropper's book; the contract of its hear. Contract of the reference's Emit. -/
import Derived.Test.YtchhkokpjdkkiaaTopSiftsa05
import Derived.Test.YtchhkokpjdkkiaaTopSiftsa04
import Derived.Test.YtchhkokpjdkkiaaTopSiftsa03
import Derived.Test.YtchhkokpjdkkiaaTopSiftsa02
import Derived.Deep.RegionHeld3
import Derived.Deep.DrawnRows
import Derived.Deep.RegionLaw
namespace Go.Proofs.Ytchhkokpjdkkiaa
open Go.RowKit Go.Shelf
attribute [local go_sem] Oper.semAt_some

/-- Cells of other types than pulses and lists of pulses stay as they are. -/
structure KC (W W' : World) : Prop where
  size : W.heap.size ≤ W'.heap.size
  cells : ∀ r t cs, t ≠ 79 → t ≠ 62 → Blk W r t cs → Blk W' r t cs
theorem KC.refl (W : World) : KC W W := ⟨Nat.le_refl _, fun _ _ _ _ _ h => h⟩
theorem KC.trans {A B C : World} (h : KC A B) (k : KC B C) : KC A C := ⟨Nat.le_trans h.size k.size, fun r t cs h1 h2 hb => k.cells r t cs h1 h2 (h.cells r t cs h1 h2 hb)⟩
theorem KC.grown {W W' : World} {row : Option Nat} (h : W.grownBy W' row) (hr : ∀ r, row = some r → ∀ t cs, t ≠ 79 → t ≠ 62 → ¬ Blk W r t cs) : KC W W' :=
  ⟨h.size, fun r t cs h1 h2 hb => hb.grown h (fun e => hr r e.symm t cs h1 h2 hb)⟩
theorem KC.putObj (W : World) (l : Nat) (o o' : Obj) (hl : W.heap[l]? = some o) (ho : o.isCells = false) : KC W (W.putObj l o') :=
  KC.grown (grownBy_putObj' W l o') (fun r e t cs _ _ hb => by cases e; unfold Blk at hb; rw [hl] at hb; cases hb; cases ho)
section
variable {F : Fence} {n : Nat} {P : Program} {ops : Array Oper} {rest : List Oper} {o : Oper} {a : Act} {w : World} {Q : Exit → Act → World → Prop}
theorem wlIn_load (hgd : o.guard = none) (ty : TypeId) (x : Operand) (ho : o.op = .load ty x) (g : Nat) (hx : a.eval x = .pointer (some ⟨g, 0, none⟩)) (t : TypeId) (cs : Array Value) (d : TypeDesc) (hg : Blk w g t cs)
    (hu : P.underlying ty = some d) (hd : (match d with | .struct _ | .array _ _ => true | _ => false) = true) (hi : (P.info? ty).map (·.size) = some cs.size)
    (h : wpListIn F n P ops Q rest (a.put o.dst (.agg cs)) w) : wpListIn F n P ops Q (o :: rest) a w := by
  refine wpListIn_plain hgd fun K hK' => ?_
  have hrun := run_loadVar_row (P := P) w g t ty cs (0, 0) d hg hu hd hi
  unfold Oper.wpIn
  refine ⟨?_, ?_⟩
  · simp [Oper.about, ho]
  · rw [Oper.semAt_plain F _ _ (by rw [ho]; intro c hc'; cases hc')]
    simp [execOp, ho, hx, Instr.loadAt, Instr.sureAddr, hrun, Result.andThen]
    exact hK' _ _ h
theorem wlIn_app {α : Type} (e : Enc α) (w : World) (hg : o.guard = none) (s x : Operand) (t : TypeId) (ho : o.op = .call { callee := .builtin .append, args := #[s, x], argTypes := #[t, t] })
    (base : Nat) (E : TypeId) (z : Value) (bytes : Nat) (hu : P.underlying t = some (.slice E)) (hinfo : (P.info? E).map (fun i => (i.zero, i.size, i.bytes)) = some (some z, e.nf, bytes)) (hzc : z.cells.size = e.nf) (hby : bytes ≤ 128)
    (A : Option Addr) (m1 c : Nat) (L : List α) (hs : a.eval s = .slice A m1 c) (hown : Ow e w base E A m1 c L)
    (D : Option Addr) (m d : Nat) (news : List α) (hx : a.eval x = .slice D m d) (B : Nat) (hsl : Rd e w B D m d news)
    (hsz : m1 + m ≤ 1099511627776) (hbase : base ≤ w.heap.size)
    (hK : ∀ A' c' w', Ow e w' base E A' (m1 + m) c' (L ++ news) → w.grownBy w' (A.map (·.block)) → (A' = A ∨ ∃ g, A' = some ⟨g, 0, none⟩ ∧ w.heap.size ≤ g) → wpListIn F n P ops Q rest (a.put o.dst (.slice A' (m1 + m) c')) w') :
    wpListIn F n P ops Q (o :: rest) a w := by
  refine wpListIn_plain hg fun K hKK => ?_
  obtain ⟨A', c', w', hrun, r1, r2, r3⟩ := run_app (P := P) e w t o.type base E z bytes hu hinfo hzc hby A m1 c L hown D m d news B hsl hsz hbase
  unfold Oper.wpIn
  refine ⟨?_, ?_⟩
  · simp [Oper.about, ho, resolve, Target.leads, Sem.run_pure]
  · rw [Oper.semAt_plain F _ _ (by rw [ho]; intro c hc'; cases hc')]
    simp [execOp, ho, resolve, invoke, builtin, hs, hx, hrun, Result.andThen]
    exact hKK _ _ (hK A' c' w' r1 r2 r3)
end
theorem emiF_succ' {f : Nat → Int} {s i t : Nat} {xs : List Pu} (h : emiF f s i = (xs, t)) {p : Pu} {t2 : Nat} (h2 : pulF f t = (p, t2)) : emiF f s (i + 1) = (xs ++ [p], t2) := by rw [emiF, h]; simp only [h2]
def Nxt (f : Nat → Int) (s N : Nat) (pre : List Pu) (x : Pu) : Prop := ∃ i, i < N ∧ pre = (emiF f s i).1 ∧ x = (pulF f (emiF f s i).2).1

set_option maxRecDepth 100000 in
set_option maxHeartbeats 3200000 in
theorem slots_in (f : Nat → Int) (hok : checkErr f = 0) (N s gS gN gO l k : Nat) (hk : 1 ≤ k) (hN2 : N ≤ 4096) (J : List Pu → World → Prop) (W : World) (hS : Blk W gS 24 #[.int .u64 (s : Int)]) (hN : Blk W gN 3 #[.int .i64 (N : Int)]) (hO : Blk W gO 57 (cells18 f))
    (hJ : OwnAbd 195 W.heap.size J)
    (hY : ∀ pre x W1, J pre W1 → Nxt f s N pre x → YieldAt Fence.wide (k - 1) Try.prog l #[.agg (puC x)] W1 fun e W' => e = .returned (.bool true) ∧ J (pre ++ [x]) W' ∧ KC W1 W') (h0 : J [] W) :
    CallsIn Fence.wide k Try.prog 94 #[.func (.yield l) #[] #[], .pointer (some ⟨gS, 0, none⟩), .pointer (some ⟨gN, 0, none⟩), .pointer (some ⟨gO, 0, none⟩)] W fun e W' => (∃ v, e = .returned v) ∧ J (emiF f s N).1 W' := by
  have s0 := hS.cell 0
  have n0 := hN.cell 0
  simp only [List.getElem?_toArray, List.getElem?_cons_zero] at s0 n0
  have hltO := hO.lt
  have hltN := hN.lt
  refine callsIn_of_wp Try.func94 rfl trivial ?_ rfl
  simp only [Try.ntmps94, List.size_toArray, List.length_cons, List.length_nil, Nat.reduceAdd, Nat.reduceSub, Array.replicate_succ, Array.replicate_zero, List.push_toArray, List.append_toArray, List.nil_append, List.cons_append]
  gi_wp2_with (first | (refine ⟨trivial, ?_⟩; gi_at_call 67; refine (callsIn_wide.2 (new_c s _)).mono ?_; rintro e w1 ⟨rfl, hD, hw1⟩; have hN1 : Blk w1 gN 3 #[.int .i64 (N : Int)] := (by rw [hw1]; exact hN.alloc _); have n1 := hN1.cell 0; simp only [List.getElem?_toArray, List.getElem?_cons_zero] at n1; have HW1 := hide hw1; clear hw1))
  obtain ⟨D, hDe⟩ : ∃ d, d = W.heap.size := ⟨_, rfl⟩
  have hJ1 : J [] w1 := hJ [] W w1 none h0 (by rw [HW1.out]; exact World.grownBy_alloc _ _ _) (fun r e => by cases e)
  have hO1 : Blk w1 gO 57 (cells18 f) := by rw [HW1.out]; exact hO.alloc _
  rw [← hDe] at hD ⊢
  have hOD : gO ≠ D := by omega
  have HDE := hide hDe
  clear hDe HW1 s0 n0
  gi_loopw [9] (fun iv wr => ∃ i : Nat, i ≤ N ∧ iv = .int .i64 i ∧ J (emiF f s i).1 wr ∧ Dr wr D (emiF f s i).2 ∧ Blk wr gO 57 (cells18 f)) (fun iv _ => N - (intOf iv).toNat)
  case atStart => exact ⟨0, by omega, rfl, hJ1, hD, hO1⟩
  case round =>
    clear hJ1 hD hO1
    obtain ⟨i, hi, rfl, hJs, hD, hO1⟩ := hrel
    by_cases hlt : i < N
    · obtain ⟨xs, t, het⟩ : ∃ a b, emiF f s i = (a, b) := ⟨_, _, rfl⟩
      obtain ⟨x, t2, hpt⟩ : ∃ a b, pulF f t = (a, b) := ⟨_, _, rfl⟩
      have HEM := hide (emiF_succ' het hpt)
      have HNX := hide (show Nxt f s N xs x from ⟨i, hlt, by rw [het], by rw [het]; simp only [hpt]⟩)
      rw [het] at hJs hD
      simp only at hJs hD
      have hp := pulse_c f hok D t wr hD
      have hp2 := hp.mono (R' := fun e w' => e = .returned (.agg (puC x)) ∧ Dr w' D t2 ∧ wr.grownBy w' (some D)) (fun e w' h => by unfold SPul at h; rw [hpt] at h; exact h)
      have HP := hide hp2
      have HYY := hide (fun (w2 : World) (hd2 : Dr w2 D t2) (hg2 : wr.grownBy w2 (some D)) => hY xs x w2 (hJ xs wr w2 (some D) hJs hg2 (fun r e => by cases e; exact ⟨by have := HDE.out; omega, _, hD⟩)) HNX.out)
      clear het hpt hp hp2
      gi_wp2_with (first | (refine wlIn_load (o := ⟨some 12, _, _, _, _, _⟩) rfl 57 _ rfl gO rfl 57 (cells18 f) _ hO1 Try.underlying57 rfl (by kernel_rfl) ?_) | (refine ⟨trivial, ?_⟩; gi_at_call 95; refine (callsIn_wide.2 HP.out).mono ?_; rintro e w2 ⟨rfl, hD2, hg2⟩; obtain ⟨fn, tmps, assign, body, hy, hR⟩ := HYY.out w2 hD2 hg2))
      refine hR.mono ?_
      rintro e W3 ⟨rfl, hJ3, hk3⟩
      have hO2 := hO1.grown hg2 (by simpa using hOD)
      gi_wp2
      go_roundw
      case rel => exact ⟨i + 1, by omega, by go_num, by rw [HEM.out]; exact hJ3, by rw [HEM.out]; exact hk3.cells _ _ _ (by decide) (by decide) hD2, hk3.cells _ _ _ (by decide) (by decide) hO2⟩
      case measure => simp [intOf] <;> omega
    · obtain rfl : i = N := by omega
      gi_wp2
      go_end0
      exact ⟨⟨_, rfl⟩, hJs⟩
end Go.Proofs.Ytchhkokpjdkkiaa

namespace Go.Proofs.Ytchhkokpjdkkiaa
open Go.RowKit

end Go.Proofs.Ytchhkokpjdkkiaa

namespace Go.Proofs.Ytchhkokpjdkkiaa
open Go.RowKit

end Go.Proofs.Ytchhkokpjdkkiaa

namespace Go.Proofs.Ytchhkokpjdkkiaa
open Go.RowKit

theorem wts_first {a b c d : Int} (h : wts [a, b, c, d] = true) (ha : a = 256) : b = 0 ∧ c = 0 ∧ d = 0 := by
  simp only [wts, List.all_cons, List.all_nil, Bool.and_true, Bool.and_eq_true] at h
  obtain ⟨⟨h1, h2, h3, h4⟩, h5⟩ := h
  have h5 := of_decide_eq_true h5
  simp only [List.sum_cons, List.sum_nil] at h5
  have := (part_iff _).1 h1; have := (part_iff _).1 h2; have := (part_iff _).1 h3; have := (part_iff _).1 h4
  omega
theorem wts_last {a b c : Int} (h : wts [a, b, c] = true) (hc : c = 256) : a = 0 ∧ b = 0 := by
  simp only [wts, List.all_cons, List.all_nil, Bool.and_true, Bool.and_eq_true] at h
  obtain ⟨⟨h1, h2, h3⟩, h5⟩ := h
  have h5 := of_decide_eq_true h5
  simp only [List.sum_cons, List.sum_nil] at h5
  have := (part_iff _).1 h1; have := (part_iff _).1 h2; have := (part_iff _).1 h3
  omega
/-- What the reference asks: the first weights alone. -/
theorem okO_iff {f : Nat → Int} (hA : okA f = true) (hr : rowsOk f 3 = true) : okO f = (decide (f 4 = 256) && (decide (f 0 = 1) || (decide (f 3 = 256) && decide (f 8 = 256)))) := by
  have hA2 := hA
  simp only [okA, Bool.and_eq_true] at hA2
  have r0 : wts (rowL f 0) = true := List.all_eq_true.1 hr 0 (by simp)
  have r1 : wts (rowL f 1) = true := List.all_eq_true.1 hr 1 (by simp)
  have e1 : f 4 = 256 → f 5 = 0 ∧ f 6 = 0 ∧ f 7 = 0 := fun h => wts_first r0 h
  have e2 : f 8 = 256 → f 9 = 0 ∧ f 10 = 0 ∧ f 11 = 0 := fun h => wts_first r1 h
  have e3 : f 3 = 256 → f 1 = 0 ∧ f 2 = 0 := fun h => wts_last hA2.1.1.2 h
  unfold okO
  rw [hA, hr, Bool.eq_iff_iff]
  simp only [okB, okC, Bool.true_and, Bool.and_eq_true, Bool.or_eq_true, decide_eq_true_eq]
  omega
end Go.Proofs.Ytchhkokpjdkkiaa

namespace Go.Proofs.Ytchhkokpjdkkiaa
open Go.RowKit

theorem checkErr_A {f : Nat → Int} (h : okA f = false) : checkErr f = 2 := by unfold checkErr okO; rw [h]; rfl
theorem checkErr_R {f : Nat → Int} {k : Nat} (hk : k < 3) (h : wts (rowL f k) = false) : checkErr f = 2 := by
  have : rowsOk f 3 = false := by
    cases hr : rowsOk f 3
    · rfl
    · have := List.all_eq_true.1 hr k (by simp; omega)
      rw [h] at this; exact this.symm
  unfold checkErr okO; rw [this, Bool.and_false]; rfl
theorem checkErr_Z {f : Nat → Int} (hA : okA f = true) (hr : rowsOk f 3 = true) : checkErr f = if (decide (f 4 = 256) && (decide (f 0 = 1) || (decide (f 3 = 256) && decide (f 8 = 256)))) then 0 else 2 := by
  unfold checkErr; rw [okO_iff hA hr]

end Go.Proofs.Ytchhkokpjdkkiaa

namespace Go.Proofs.Ytchhkokpjdkkiaa
open Go.RowKit

/-- Blocks in T aside, what was there is as it was. -/
structure Fr (T : Nat → Prop) (w w' : World) : Prop where
  os : w'.os = w.os
  tape : w'.tape = w.tape
  output : w'.output = w.output
  size : w.heap.size ≤ w'.heap.size
  block : ∀ k, k < w.heap.size → ¬ T k → w'.heap[k]? = w.heap[k]?
section
variable {T T' : Nat → Prop} {w w1 w2 : World}
theorem Fr.refl (T : Nat → Prop) (w : World) : Fr T w w := ⟨rfl, rfl, rfl, Nat.le_refl _, fun _ _ _ => rfl⟩
theorem Fr.trans (h : Fr T w w1) (k : Fr T' w1 w2) (ht : ∀ i, i < w.heap.size → T' i → T i) : Fr T w w2 :=
  ⟨k.os.trans h.os, k.tape.trans h.tape, k.output.trans h.output, Nat.le_trans h.size k.size, fun i hi hn => (k.block i (Nat.lt_of_lt_of_le hi h.size) (fun c => hn (ht i hi c))).trans (h.block i hi hn)⟩
theorem Fr.of_grown {row : Option Nat} (h : w.grownBy w1 row) (ht : ∀ k, row = some k → T k) : Fr T w w1 :=
  ⟨h.os, h.tape, h.output, h.size, fun i hi hn => h.block i hi (fun e => hn (ht i e.symm))⟩
theorem Fr.of_below (h : Below w.heap.size w w1) : Fr T w w1 := ⟨h.os, h.tape, h.output, h.size, fun i hi _ => h.block i hi⟩
theorem Fr.alloc (h : Fr T w w1) (o : Obj) : Fr T w (w1.alloc o) := h.trans (Fr.of_below (T := fun _ => False) (below_alloc _ _)) (fun _ _ c => c.elim)
theorem Fr.drewN (h : Fr T w w1) (n : Nat) : Fr T w (w1.drewN n) := ⟨h.os, h.tape, h.output, h.size, h.block⟩
theorem Fr.drew (h : Fr T w w1) : Fr T w w1.drew := ⟨h.os, h.tape, h.output, h.size, h.block⟩
theorem Fr.setCell (h : Fr T w w1) {p : Addr} (hp : p.block < w.heap.size → T p.block) (u : Value) : Fr T w (w1.setCell p u) :=
  h.trans (T' := fun i => i = p.block) ⟨rfl, rfl, rfl, by simp [World.setCell], fun k _ hk => Below.heap_setCell _ _ _ _ hk⟩ (fun i hi e => by subst e; exact hp hi)
theorem Fr.imp (h : Fr T w w1) (ht : ∀ i, i < w.heap.size → T i → T' i) : Fr T' w w1 := ⟨h.os, h.tape, h.output, h.size, fun i hi hn => h.block i hi (fun c => hn (ht i hi c))⟩
theorem Fr.below (h : Fr T w w1) {B : Nat} (hB : ∀ i, T i → B ≤ i) (hz : B ≤ w.heap.size) : Below B w w1 :=
  ⟨h.os, h.tape, h.output, h.size, fun i hi => h.block i (by omega) (fun c => by have := hB i c; omega)⟩
theorem Blk.fr {g : Nat} {t : TypeId} {cs : Array Value} (b : Blk w g t cs) (h : Fr T w w1) (hg : ¬ T g) : Blk w1 g t cs := (h.block g b.lt hg).trans b
theorem Ow.fr {α : Type} {e : Enc α} {base n c : Nat} {E : TypeId} {A : Option Addr} {L : List α} (o : Ow e w base E A n c L) (h : Fr T w w1) (hA : ∀ g, A = some ⟨g, 0, none⟩ → ¬ T g) : Ow e w1 base E A n c L :=
  o.keep fun g ea => h.block g (o.lt ea).2 (hA g ea)
theorem Rd.fr {α : Type} {e : Enc α} {n c : Nat} {A : Option Addr} {B : Nat} {L : List α} (r : Rd e w B A n c L) (h : Fr T w w1) (hT : ∀ i, i < B → ¬ T i) (hB : B ≤ w.heap.size) : Rd e w1 B A n c L :=
  r.keep fun p hp => by
    have hb := h.block p.block (by omega) (hT _ hp)
    unfold World.cell?
    rw [hb]
end

def Bk (w : World) (E base : Nat) (A : Option Addr) (N : List No) : Prop :=
  ∃ n c, Blk w E 159 #[.slice A n c] ∧ Ow eNo w base 86 A n c N ∧ A.map (·.block) ≠ some E
theorem info_no : (Try.prog.info? 86).map (fun i => (i.zero, i.size, i.bytes)) = some (some (.agg #[.int .i64 0, .int .i64 0, .int .i64 0, .bool false]), 4, 32) := by kernel_rfl
def SHear (E base : Nat) (A : Option Addr) (N : List No) (w : World) (e : Ending) (w' : World) : Prop :=
  e = .returned (.tuple #[]) ∧ ∃ A', Bk w' E base A' N ∧ (A' = A ∨ ∃ g, A' = some ⟨g, 0, none⟩ ∧ w.heap.size ≤ g) ∧ Fr (fun i => i = E ∨ A.map (·.block) = some i) w w'

theorem cell_far (w : World) {p q : Addr} (h : q.block ≠ p.block) (v : Value) : (w.setCell p v).cell? q = w.cell? q := by
  unfold World.cell?; rw [Below.heap_setCell _ _ _ _ h]
theorem grow_at (A : Option Addr) : ∀ k, A.map (·.block) = some k → A.map (·.block) = some k := fun _ h => h
set_option maxRecDepth 100000 in
set_option maxHeartbeats 1600000 in
theorem hear_c (E base : Nat) (A : Option Addr) (N : List No) (y : No) (w : World) (h : Bk w E base A N) (hN : N.length ≤ 1000000) (hbase : base ≤ w.heap.size) :
    Calls Try.prog 152 #[.pointer (some ⟨E, 0, none⟩), .agg #[.int .i64 y.slot, .int .i64 y.how, .int .i64 y.b, .bool y.bit]] w (SHear E base A (N ++ [y]) w) := by
  obtain ⟨n, c, hE, hO, hA⟩ := h
  have hlt := hE.lt
  have hn := hO.len
  have hn2 : n ≤ 1000000 := by omega
  clear hN hn
  obtain ⟨ys, yh, yb, yt⟩ := y
  go_enter Try.func152, Try.ntmps152
  go_upto_region 1 with fail
  have hY := Blk.newAt w 86 #[.int .i64 ys, .int .i64 yh, .int .i64 yb, .bool yt] w.heap.size rfl
  have hE1 := hE.alloc (.cells #[.int .i64 ys, .int .i64 yh, .int .i64 yb, .bool yt] 86)
  have hO1 := hO.alloc (.cells #[.int .i64 ys, .int .i64 yh, .int .i64 yb, .bool yt] 86)
  have hf1 := (Fr.refl (fun i => i = E ∨ A.map (·.block) = some i) w).alloc (.cells #[.int .i64 ys, .int .i64 yh, .int .i64 yb, .bool yt] 86)
  have hz1 : (w.alloc (.cells #[.int .i64 ys, .int .i64 yh, .int .i64 yb, .bool yt] 86)).heap.size = w.heap.size + 1 := by simp
  obtain ⟨W, hW⟩ : ∃ W, W = w.alloc (.cells #[.int .i64 ys, .int .i64 yh, .int .i64 yb, .bool yt] 86) := ⟨_, rfl⟩
  rw [← hW] at hY hE1 hO1 hf1 hz1 ⊢
  clear hW
  obtain ⟨gY, hgY⟩ : ∃ g, g = w.heap.size := ⟨_, rfl⟩
  rw [← hgY] at hY ⊢
  have hne : E ≠ gY := by omega
  have hnA : A.map (·.block) ≠ some gY := fun ea => by have := (hO.block _ ea).2; omega
  have hK : ∀ w', Fr (fun i => A.map (·.block) = some i) W w' → w'.cell? ⟨E, 0, none⟩ = some (.slice A n c) ∧ w'.frozen? ⟨E, 0, none⟩ = false ∧ w'.cell? ⟨gY, 0, none⟩ = some (.int .i64 ys) ∧ w'.cell? ⟨gY, 1, none⟩ = some (.int .i64 yh) ∧ w'.cell? ⟨gY, 2, none⟩ = some (.int .i64 yb) ∧ w'.cell? ⟨gY, 3, none⟩ = some (.bool yt) := fun w' hw => by
    have a1 := hE1.fr hw hA
    have a2 := hY.fr hw hnA
    exact ⟨by simpa using a1.cell 0, a1.frozen 0, by simpa using a2.cell 0, by simpa using a2.cell 1, by simpa using a2.cell 2, by simpa using a2.cell 3⟩
  have HK := hide hK
  clear hK
  have oW := (hO1.alloc (.cells #[.int .i64 ys, .int .i64 yh, .int .i64 yb, .bool yt] 86)).drew
  have hf2 := (hf1.alloc (.cells #[.int .i64 ys, .int .i64 yh, .int .i64 yb, .bool yt] 86)).drew
  have hF := ((Fr.refl (fun i => A.map (·.block) = some i) W).alloc (.cells #[.int .i64 ys, .int .i64 yh, .int .i64 yb, .bool yt] 86)).drew
  have hR := (Rd.newAt (e := eNo) W 86 (⟨ys, yh, yb, yt⟩ : No) #[.int .i64 ys, .int .i64 yh, .int .i64 yb, .bool yt] rfl W.heap.size rfl).drew
  have HG := hide hgY
  have HZ := hide hz1
  clear hgY hz1
  have e0 := (HK.out W (Fr.refl _ _)).1
  have e1 := (HK.out _ hF).1
  obtain ⟨y0, y1, y2, y3⟩ := (HK.out W (Fr.refl _ _)).2.2
  go_region_law ((refine step_app eNo _ (by rfl) (.tmp 8) (.tmp 10) _ (by rfl) base 86 (.agg #[.int .i64 0, .int .i64 0, .int .i64 0, .bool false]) 32 Try.underlying64 info_no rfl (by omega) _ _ _ _ (by rfl) oW _ 1 1 [⟨ys, yh, yb, yt⟩] (by rfl) _ hR (by omega) (by have := HZ.out; simp; omega) ?_; intro A3 c3 w3 o3 hg3 hA3; have e3 := (HK.out _ (hF.trans (Fr.of_grown hg3 (grow_at A)) (fun _ _ c => c))).1; have f3 := (HK.out _ (hF.trans (Fr.of_grown hg3 (grow_at A)) (fun _ _ c => c))).2.1; have hG3 := hide hg3))
  all_goals
    have hA3' := hide hA3
    clear hA3
    go_end0
    have b3 := hE1.fr (hF.trans (Fr.of_grown hG3.out (grow_at A)) (fun _ _ c => c)) hA
    have hA2 : A3.map (·.block) ≠ some E := by
      rcases hA3'.out with h | ⟨g, h, hg⟩
      · rw [h]; exact hA
      · rw [h]; have := hf1.size; simp at hg ⊢; omega
    refine ⟨rfl, A3, ⟨_, _, by simpa using b3.set_ 0 (.slice A3 (n + 1) c3), o3.far (fun g eg => by rw [eg] at hA2; simpa using hA2) _, hA2⟩, ?_, ?_⟩
    · rcases hA3'.out with h | ⟨g, h, hg⟩
      · exact .inl h
      · exact .inr ⟨g, h, by have := hf1.size; simp at hg ⊢; omega⟩
    · exact (hf2.trans (Fr.of_grown hG3.out (grow_at A)) (fun i _ c => Or.inr c)).setCell (fun _ => Or.inl rfl) _
end Go.Proofs.Ytchhkokpjdkkiaa

namespace Go.Proofs.Ytchhkokpjdkkiaa
open Go.RowKit

def emitErr (f : Nat → Int) (n : Int) : Int := if checkErr f ≠ 0 then checkErr f else if n < 0 ∨ 4096 < n then 3 else 0
def emitL (f : Nat → Int) (n : Int) (s : Nat) : List Pu := if emitErr f n = 0 then (emiF f s n.toNat).1 else []
def SEm (f : Nat → Int) (n : Int) (s : Nat) (w : World) (e : Ending) (w' : World) : Prop :=
  ∃ A k c, e = .returned (.tuple #[.slice A k c, .int .i64 (emitErr f n)]) ∧ Rd ePu w' w'.heap.size A k c (emitL f n s) ∧ Below w.heap.size w w'
theorem SEm.err {f : Nat → Int} {n : Int} {s : Nat} {w w' : World} {x : Int} (h : emitErr f n = x) (hx : x ≠ 0) (hb : Below w.heap.size w w') : SEm f n s w (.returned (.tuple #[.slice none 0 0, .int .i64 x])) w' := by
  refine ⟨none, 0, 0, by rw [h], ?_, hb⟩
  unfold emitL; rw [if_neg (by omega)]; exact Rd.nil _ _ _ _ (by omega)
theorem SEm.ok {f : Nat → Int} {n : Nat} {s : Nat} {w w' : World} {A : Option Addr} {c : Nat} (h : emitErr f n = 0) (hb : Below w.heap.size w w') (hr : Rd ePu w' w'.heap.size A n c (emiF f s n).1) : SEm f n s w (.returned (.tuple #[.slice A n c, .int .i64 0])) w' := by
  refine ⟨A, n, c, by rw [h], ?_, hb⟩
  unfold emitL; rw [if_pos h, Int.toNat_natCast]; exact hr
theorem emitErr_check {f : Nat → Int} {n : Int} (h : checkErr f = 2) : emitErr f n = 2 := by unfold emitErr; rw [h]; rfl
theorem emitErr_range {f : Nat → Int} {n : Int} (h : checkErr f = 0) (hn : n < 0 ∨ 4096 < n) : emitErr f n = 3 := by unfold emitErr; rw [if_neg (by omega), if_pos hn]
theorem emitErr_ok {f : Nat → Int} {n : Int} (h : checkErr f = 0) (hn : ¬ (n < 0 ∨ 4096 < n)) : emitErr f n = 0 := by unfold emitErr; rw [if_neg (by omega), if_neg hn]
theorem check_two {f : Nat → Int} (h : checkErr f ≠ 0) : checkErr f = 2 := by
  unfold checkErr at *; split at h
  · exact absurd rfl h
  · rename_i hn; rw [if_neg hn]
theorem info_pu : (Try.prog.info? 79).map (fun i => (i.zero, i.size, i.bytes)) = some (some (.agg #[.int .i64 0, .bool false, .int .i64 0, .int .i64 0, .bool false]), 5, 40) := by kernel_rfl
theorem emiF_succ {f : Nat → Int} {s i t : Nat} {xs : List Pu} (h : emiF f s i = (xs, t)) {p : Pu} {t2 : Nat} (h2 : pulF f t = (p, t2)) : emiF f s (i + 1) = (xs ++ [p], t2) := by rw [emiF, h]; simp only [h2]

structure PQ (w : World) (gO gP D : Nat) : Prop where
  o : gO < w.heap.size
  p : w.heap.size ≤ gP
  d : D < w.heap.size
  od : gO ≠ D
section
variable {w W W' : World} {gO gP D s s' : Nat} {f : Nat → Int} {p p' : Pu}
end

end Go.Proofs.Ytchhkokpjdkkiaa
