/- The plain model of rules, of Carry and of Emit. Plain Lean; no program. The laws of append, make and of stores in the words of Qa; the facts of the types that the walks append to. Plain lemmas. -/
import Derived.Test.YtchhkokpjdkkiaaTopSiftsa01
import Derived.Test.YtchhkokpjdkkiaaProg
import Derived.Laws.Tables
import Derived.Laws.StructEq
import Derived.ChangeKeysEq
namespace Go.Proofs.Ytchhkokpjdkkiaa

/-! ### Rules -/
def okSpan (r : Ru) : Bool := decide (0 ≤ r.fr ∧ r.fr ≤ r.to ∧ r.to < 4096)
def okRu (r : Ru) : Bool :=
  if r.k = 1 ∨ r.k = 2 then decide (r.fr = 0 ∧ r.to = 0 ∧ r.b = 0 ∧ 0 ≤ r.a ∧ r.a ≤ 256)
  else if r.k = 3 then decide (r.fr = 0 ∧ r.to = 0 ∧ (r.b = 0 ∨ r.b = 1) ∧ r.b ≤ r.a ∧ r.a ≤ 16)
  else if r.k = 4 ∨ r.k = 6 then okSpan r && decide (r.b = 0 ∧ 0 ≤ r.a ∧ r.a ≤ 256)
  else if r.k = 5 then okSpan r && decide (r.a = 0 ∧ r.b = 0)
  else if r.k = 7 then okSpan r && decide (0 ≤ r.a ∧ r.a ≤ 1 ∧ 0 ≤ r.b ∧ r.b ≤ 1)
  else false
def isSh (r : Ru) : Bool := decide (r.k = 3)
def shifts (L : List Ru) : Nat := (L.filter isSh).length
def rulesErr (L : List Ru) : Int := if 32 < L.length then 5 else if L.all okRu then (if 1 < shifts L then 10 else 0) else 2
def shiftOf (L : List Ru) : Int := match L.find? isSh with
  | some r => r.a * (1 - 2 * r.b)
  | none => 0
def shiftErr (L : List Ru) : Int := if rulesErr L = 0 then shiftOf L else 0
theorem shifts_le (L : List Ru) : shifts L ≤ L.length := List.length_filter_le _ _
theorem shifts_snoc {L : List Ru} {k : Nat} {r : Ru} (h : L[k]? = some r) : shifts (L.take (k + 1)) = shifts (L.take k) + if r.k = 3 then 1 else 0 := by
  unfold shifts; rw [List.take_add_one, h, List.filter_append, List.length_append]
  by_cases hr : r.k = 3 <;> simp [isSh, hr]
theorem okRu_kind {r : Ru} (h : okRu r = true) : 1 ≤ r.k ∧ r.k ≤ 7 := by
  unfold okRu at h
  split at h
  · omega
  split at h
  · omega
  split at h
  · omega
  split at h
  · omega
  split at h
  · omega
  · cases h

/-! ### Carry -/
def hit (a : Int) (s : Nat) : Bool := decide ((bel s 256 : Int) < a)
/-- How many of k photons are lost, and the state of the draws. -/
def lossF (a : Int) (s : Nat) : Nat → Nat × Nat
  | 0 => (0, s)
  | k + 1 => ((lossF a s k).1 + (if hit a (lossF a s k).2 then 1 else 0), nx (lossF a s k).2)
theorem lossF_le (a : Int) (s k : Nat) : (lossF a s k).1 ≤ k := by
  induction k with
  | zero => simp [lossF]
  | succ k ih => rw [lossF]; split <;> simp <;> omega
def covers (r : Ru) (i : Nat) : Bool := decide (r.k < 4 ∨ (r.fr ≤ i ∧ (i : Int) ≤ r.to))
/-- What a rule that holds does with the light of slot i: the light, the notes, the state. -/
def actF (r : Ru) (i : Nat) (x : Li) (s : Nat) : Li × List No × Nat :=
  if r.k = 7 then (⟨0, r.a, decide (r.b = 1), true⟩, [⟨i, 3, r.a, decide (r.b = 1)⟩], s)
  else if x.bright then (x, [], s)
  else if r.k = 1 then (⟨x.ph - ((lossF r.a s x.ph.toNat).1 : Nat), x.b, x.bit, false⟩, [], (lossF r.a s x.ph.toNat).2)
  else if r.k = 2 then (if 0 < x.ph then (if hit r.a s then ⟨x.ph, x.b, !x.bit, false⟩ else x, [], nx s) else (x, [], s))
  else if r.k = 6 then (if x.ph = 1 then (if hit r.a s then ⟨0, x.b, x.bit, false⟩ else x, [], nx s) else (x, [], s))
  else if r.k = 5 then (if 2 ≤ x.ph then (⟨x.ph - 1, x.b, x.bit, false⟩, [⟨i, 2, x.b, x.bit⟩], s) else (x, [], s))
  else if r.k = 4 then (if x.ph = 0 then (x, [], s) else if hit r.a s then
      (if (bel (nx s) 2 : Int) = x.b then (⟨1, (bel (nx s) 2 : Int), x.bit, false⟩, [⟨i, 1, (bel (nx s) 2 : Int), x.bit⟩], nx (nx s))
       else (⟨1, (bel (nx s) 2 : Int), decide (bel (nx (nx s)) 2 = 1), false⟩, [⟨i, 1, (bel (nx s) 2 : Int), decide (bel (nx (nx s)) 2 = 1)⟩], nx (nx (nx s))))
    else (x, [], nx s))
  else (x, [], s)
def stepF (i : Nat) (t : Li × List No × Nat) (r : Ru) : Li × List No × Nat :=
  if covers r i then ((actF r i t.1 t.2.2).1, t.2.1 ++ (actF r i t.1 t.2.2).2.1, (actF r i t.1 t.2.2).2.2) else t
def slotF (L : List Ru) (i : Nat) (t : Li × List No × Nat) : Li × List No × Nat := L.foldl (stepF i) t
theorem slotF_snoc {L : List Ru} {k : Nat} {r : Ru} (h : L[k]? = some r) (i : Nat) (t : Li × List No × Nat) : slotF (L.take (k + 1)) i t = stepF i (slotF (L.take k) i t) r := by
  unfold slotF; rw [List.take_add_one, h, List.foldl_append]; rfl
def li0 : Li := ⟨0, 0, false, false⟩
def liOf (p : Pu) : Li := ⟨p.ph, p.b, p.bit, false⟩
def normL (x : Li) : Li := if 0 < x.ph ∨ x.bright = true then x else li0
/-- The light, the notes and the state behind k slots. -/
def carrF (L : List Ru) (P : List Pu) (s : Nat) : Nat → List Li × List No × Nat
  | 0 => ([], [], s)
  | k + 1 => match P[k]? with
    | some p => ((carrF L P s k).1 ++ [normL (slotF L k (liOf p, (carrF L P s k).2)).1], (slotF L k (liOf p, (carrF L P s k).2)).2)
    | none => carrF L P s k
theorem carrF_succ {L : List Ru} {P : List Pu} {s k : Nat} {p : Pu} (h : P[k]? = some p) : carrF L P s (k + 1) = ((carrF L P s k).1 ++ [normL (slotF L k (liOf p, (carrF L P s k).2)).1], (slotF L k (liOf p, (carrF L P s k).2)).2) := by
  rw [carrF, h]
theorem carrF_len (L : List Ru) (P : List Pu) (s : Nat) : ∀ k, k ≤ P.length → (carrF L P s k).1.length = k
  | 0, _ => rfl
  | k + 1, h => by
    have hk : k < P.length := h
    rw [carrF_succ (List.getElem?_eq_getElem hk), List.length_append, carrF_len L P s k (by omega)]; rfl
theorem actF_notes (r : Ru) (i : Nat) (x : Li) (s : Nat) : (actF r i x s).2.1.length ≤ 1 := by
  unfold actF; (repeat' split) <;> simp
theorem stepF_notes (i : Nat) (t : Li × List No × Nat) (r : Ru) : (stepF i t r).2.1.length ≤ t.2.1.length + 1 := by
  have := actF_notes r i t.1 t.2.2
  unfold stepF; split
  · simp; omega
  · omega
theorem slotF_notes (i : Nat) : ∀ (L : List Ru) (t : Li × List No × Nat), (slotF L i t).2.1.length ≤ t.2.1.length + L.length
  | [], t => by simp [slotF]
  | r :: L, t => by
    have h1 := slotF_notes i L (stepF i t r)
    have h2 := stepF_notes i t r
    show (slotF L i (stepF i t r)).2.1.length ≤ _
    rw [List.length_cons]; omega
theorem carrF_notes (L : List Ru) (P : List Pu) (s : Nat) : ∀ k, (carrF L P s k).2.1.length ≤ k * L.length
  | 0 => by simp [carrF]
  | k + 1 => by
    have ih := carrF_notes L P s k
    rw [carrF]
    rw [Nat.add_mul, Nat.one_mul]
    split
    · rename_i p _
      have := slotF_notes k L (liOf p, (carrF L P s k).2)
      simp only at this ⊢; omega
    · omega
/-- Light of at most three photons. -/
def okPh (x : Li) : Prop := 0 ≤ x.ph ∧ x.ph ≤ 3
theorem actF_ph {r : Ru} {i : Nat} {x : Li} {s : Nat} (h : okPh x) : okPh (actF r i x s).1 := by
  have hl := lossF_le r.a s x.ph.toNat
  unfold okPh at *
  unfold actF; (repeat' split) <;> simp only <;> omega
theorem stepF_ph {i : Nat} {t : Li × List No × Nat} {r : Ru} (h : okPh t.1) : okPh (stepF i t r).1 := by
  unfold stepF; split
  · exact actF_ph h
  · exact h
theorem slotF_ph (i : Nat) : ∀ (L : List Ru) (t : Li × List No × Nat), okPh t.1 → okPh (slotF L i t).1
  | [], _, h => h
  | r :: L, t, h => slotF_ph i L (stepF i t r) (stepF_ph h)
def carryErr (L : List Ru) (P : List Pu) : Int := if rulesErr L = 0 then pulsesErr P else rulesErr L
def carryX (L : List Ru) (P : List Pu) (s : Nat) : List Li := if carryErr L P = 0 then (carrF L P s P.length).1 else []
def carryN (L : List Ru) (P : List Pu) (s : Nat) : List No := if carryErr L P = 0 then (carrF L P s P.length).2.1 else []

/-! ### Emit -/
def sumK (ws : List Int) (i : Nat) : Int := (ws.take i).sum
theorem sumK_succ {ws : List Int} {i : Nat} {x : Int} (h : ws[i]? = some x) : sumK ws (i + 1) = sumK ws i + x := by
  unfold sumK; rw [List.take_add_one, h, List.sum_append]; simp
def wgt (ws : List Int) (k : Int) : Nat := ((List.range ws.length).find? fun i => decide (k < sumK ws (i + 1))).getD (ws.length - 1)
theorem wgt_at {ws : List Int} {k : Int} {i : Nat} (hi : i < ws.length) (hb : ∀ j, j < i → ¬ k < sumK ws (j + 1)) (h : k < sumK ws (i + 1)) : wgt ws k = i := by
  unfold wgt
  have : (List.range ws.length).find? (fun i => decide (k < sumK ws (i + 1))) = some i := by
    rw [List.find?_range_eq_some]
    exact ⟨by simpa using h, by simpa using hi, fun j hj => by simpa using hb j hj⟩
  rw [this]; rfl
theorem wgt_none {ws : List Int} {k : Int} (hb : ∀ j, j < ws.length → ¬ k < sumK ws (j + 1)) : wgt ws k = ws.length - 1 := by
  unfold wgt
  have : (List.range ws.length).find? (fun i => decide (k < sumK ws (i + 1))) = none := by
    rw [List.find?_range_eq_none]; intro j hj; simpa using hb j hj
  rw [this]; rfl
theorem wgt_lt {ws : List Int} (k : Int) (h : 0 < ws.length) : wgt ws k < ws.length := by
  unfold wgt
  cases hf : (List.range ws.length).find? (fun i => decide (k < sumK ws (i + 1))) with
  | none => simp; omega
  | some i => have := List.mem_of_find?_eq_some hf; simpa using this
def rowOf (f : Nat → Int) (c : Nat) : List Int := [f (4 + 4 * c), f (5 + 4 * c), f (6 + 4 * c), f (7 + 4 * c)]
def clsOf (f : Nat → Int) : List Int := [f 1, f 2, f 3]
/-- Whether one of k photons is seen, and the state. -/
def seenF (eta : Int) (s : Nat) : Nat → Bool × Nat
  | 0 => (false, s)
  | k + 1 => ((seenF eta s k).1 || hit eta (seenF eta s k).2, nx (seenF eta s k).2)
def clsF (f : Nat → Int) (s : Nat) : Nat × Nat := if f 0 = 1 then (wgt (clsOf f) (bel s 256), nx s) else (2, s)
def phF (f : Nat → Int) (c : Nat) (s : Nat) : Nat := wgt (rowOf f c) (bel s 256)
/-- A pulse, and the state behind it. -/
def pulF (f : Nat → Int) (s : Nat) : Pu × Nat :=
  (⟨(bel s 2 : Nat), decide (bel (nx s) 2 = 1), ((clsF f (nx (nx s))).1 : Nat), (phF f (clsF f (nx (nx s))).1 (clsF f (nx (nx s))).2 : Nat),
     if f 0 = 2 then (seenF (f 16) (nx (clsF f (nx (nx s))).2) (phF f (clsF f (nx (nx s))).1 (clsF f (nx (nx s))).2)).1 else true⟩,
   if f 0 = 2 then (seenF (f 16) (nx (clsF f (nx (nx s))).2) (phF f (clsF f (nx (nx s))).1 (clsF f (nx (nx s))).2)).2 else nx (clsF f (nx (nx s))).2)
def emiF (f : Nat → Int) (s : Nat) : Nat → List Pu × Nat
  | 0 => ([], s)
  | k + 1 => ((emiF f s k).1 ++ [(pulF f (emiF f s k).2).1], (pulF f (emiF f s k).2).2)
theorem emiF_len (f : Nat → Int) (s k : Nat) : (emiF f s k).1.length = k := by
  induction k with
  | zero => rfl
  | succ k ih => simp [emiF, ih]
theorem clsF_lt (f : Nat → Int) (s : Nat) : (clsF f s).1 ≤ 2 := by
  unfold clsF; split
  · have := wgt_lt (ws := clsOf f) (bel s 256) (by simp [clsOf]); simp [clsOf] at this; simp [clsOf]; omega
  · simp
theorem phF_lt (f : Nat → Int) (c s : Nat) : phF f c s ≤ 3 := by
  unfold phF
  have := wgt_lt (ws := rowOf f c) (bel s 256) (by simp [rowOf]); simp [rowOf] at this; simp [rowOf]; omega
theorem pulF_ok (f : Nat → Int) (s : Nat) : okPu (pulF f s).1 = true := by
  have h1 := Nat.mod_lt (ny s) (show 0 < 2 by omega)
  have h2 := clsF_lt f (nx (nx s))
  have h3 := phF_lt f (clsF f (nx (nx s))).1 (clsF f (nx (nx s))).2
  unfold okPu pulF
  simp only [decide_eq_true_eq]
  unfold bel
  omega
theorem emiF_ok (f : Nat → Int) (s k : Nat) : (emiF f s k).1.all okPu = true := by
  induction k with
  | zero => rfl
  | succ k ih => rw [emiF, List.all_append, ih]; simp [pulF_ok]
end Go.Proofs.Ytchhkokpjdkkiaa

namespace Go.Proofs.Ytchhkokpjdkkiaa
open Go.RowKit

theorem ret_b {a b : Bool} (h : a = b) : Ending.returned (.bool a) = .returned (.bool b) := by rw [h]
theorem ret_i {k : IntKind} {a b : Int} (h : a = b) : Ending.returned (.int k a) = .returned (.int k b) := by rw [h]
theorem all_take_succ {α : Type} {f : α → Bool} {L : List α} {k : Nat} {x : α} (h : (L.take k).all f = true) (hx : L[k]? = some x) (hf : f x = true) : (L.take (k + 1)).all f = true := by
  rw [List.take_add_one, hx, List.all_append, h]; simp [hf]
theorem all_false {α : Type} {f : α → Bool} {L : List α} {k : Nat} {x : α} (hx : L[k]? = some x) (hf : f x = false) : L.all f = false := by
  rw [List.all_eq_false]
  exact ⟨x, List.mem_of_getElem? hx, by simp [hf]⟩
theorem all_whole {α : Type} {f : α → Bool} {L : List α} {k n : Nat} (h : (L.take k).all f = true) (hl : L.length = n) (hk : ¬ k < n) : L.all f = true := by
  rwa [List.take_of_length_le (by omega)] at h
theorem below_app {α : Type} {e : Enc α} {B base : Nat} {w0 w w' : World} {E : TypeId} {A : Option Addr} {n c : Nat} {L : List α} (h : Below B w0 w) (ho : Ow e w base E A n c L) (hg : w.grownBy w' (A.map (·.block))) (hB : B ≤ base) (hz : B ≤ w0.heap.size) : Below B w0 w' :=
  ⟨hg.os.trans h.os, hg.tape.trans h.tape, hg.output.trans h.output, Nat.le_trans h.size hg.size, fun k hk =>
    (hg.block k (Nat.lt_of_lt_of_le hk (Nat.le_trans hz h.size)) (fun ea => by have := (ho.block k ea.symm).1; omega)).trans (h.block k hk)⟩
/-- Two lists lie in different blocks. -/
def Apart (A A' : Option Addr) : Prop := ∀ g, A.map (·.block) = some g → A'.map (·.block) ≠ some g
theorem Apart.symm {A A' : Option Addr} (h : Apart A A') : Apart A' A := fun g h1 h2 => h g h2 h1
theorem Apart.nil (A : Option Addr) : Apart none A := fun g h => by cases h
/-- Another list of the call's own, of other elements or not, stays as it was behind an append. -/
theorem Ow.app {α : Type} {e : Enc α} {w w' : World} {base : Nat} {E : TypeId} {A A' : Option Addr} {n c : Nat} {L : List α} (h : Ow e w base E A n c L)
    (hg : w.grownBy w' (A'.map (·.block))) (hne : Apart A A') : Ow e w' base E A n c L :=
  h.grown hg fun g ea hh => hne g (by rw [ea]; rfl) hh.symm
theorem Ow.not_new {α : Type} {e : Enc α} {w : World} {base : Nat} {E : TypeId} {A : Option Addr} {n c : Nat} {L : List α} (h : Ow e w base E A n c L) : some w.heap.size ≠ A.map (·.block) := by
  intro hh; have := (h.block _ hh.symm).2; omega
theorem Ow.new {α : Type} {e : Enc α} (w : World) (E : TypeId) (x : α) (cs : Array Value) (hcs : cs.toList = e.cells x) (base : Nat) (hb : base ≤ w.heap.size) (g : Nat) (hg : w.heap.size = g) : Ow e (w.alloc (.cells cs E)) base E (some ⟨g, 0, none⟩) 1 1 [x] := by
  subst hg
  have hs : cs.size = 1 * e.nf := by rw [← Array.length_toList, hcs, e.len, Nat.one_mul]
  have h := World.ownsRow_lit (base := base) (e := E) (size := e.nf) w cs 1 hb (by simp [maxLen]) hs
  refine ⟨rfl, ?_⟩
  rw [List.flatMap_singleton, ← hcs]
  exact h
theorem Apart.app {α : Type} {e : Enc α} {w : World} {base : Nat} {E : TypeId} {A A' A3 : Option Addr} {n c : Nat} {L : List α} (h : Apart A A') (h3 : A3 = A ∨ ∃ g, A3 = some ⟨g, 0, none⟩ ∧ w.heap.size ≤ g) (ho : Ow e w base E A' n c L) : Apart A3 A' := by
  rcases h3 with rfl | ⟨g, rfl, hg⟩
  · exact h
  · intro g' h1 h2
    have := (ho.block g' h2).2
    simp at h1
    omega

section
variable {P : Program} {α : Type} (e : Enc α) (w : World) {ops : Array Oper} {rest : List Oper} {o : Oper} {a : Act} {Q : Exit → Act → World → Prop}

/-- What 'append(out, xs...)' does, as a run. -/
theorem run_app (t ty : TypeId) (base : Nat) (E : TypeId) (z : Value) (bytes : Nat) (hu : P.underlying t = some (.slice E)) (hinfo : (P.info? E).map (fun i => (i.zero, i.size, i.bytes)) = some (some z, e.nf, bytes)) (hzc : z.cells.size = e.nf) (hby : bytes ≤ 128)
    (A : Option Addr) (n c : Nat) (L : List α) (hown : Ow e w base E A n c L) (D : Option Addr) (m d : Nat) (news : List α) (B : Nat) (hsl : Rd e w B D m d news) (hsz : n + m ≤ 1099511627776) (hbase : base ≤ w.heap.size) :
    ∃ A' c' w', (Builtin.append_ #[t, t] ty #[.slice A n c, .slice D m d]).run P w = .ok (.slice A' (n + m) c') w' ∧ Ow e w' base E A' (n + m) c' (L ++ news) ∧
      w.grownBy w' (A.map (·.block)) ∧ (A' = A ∨ ∃ g, A' = some ⟨g, 0, none⟩ ∧ w.heap.size ≤ g) := by
  obtain ⟨i, hi, hz, h1, h2⟩ := info_parts hinfo
  by_cases hm : m = 0
  · subst hm
    have hn : news = [] := List.eq_nil_of_length_eq_zero hsl.len
    subst hn
    refine ⟨A, c, w, ?_, by simpa using hown, World.grownBy.refl w _, .inl rfl⟩
    have hl : ∀ (x : Addr), (loadCells x 0).run P w = .ok #[] w := fun x => by simpa using run_loadCells_list (P := P) w x [] (by simp)
    rcases hown.form with ⟨rfl, rfl, rfl⟩ | ⟨g, cur, rfl, hb, hg, hh, h1', h2', h3', h4'⟩
    · cases D <;> simp [Builtin.append_, run_underlying hu, sizeOf, typeInfo, hi, Builtin.lenOf, Builtin.firstCells, hl]
    · cases D <;> simp [Builtin.append_, run_underlying hu, sizeOf, typeInfo, hi, Builtin.lenOf, Builtin.firstCells, h1', storeCells, hl]
  · obtain ⟨b, off, rfl, hb, hc⟩ := hsl.at_ (by omega)
    have hflen : (news.flatMap e.cells).length = m * e.nf := by rw [Enc.flat_len, hsl.len]
    obtain ⟨v', w', hrun, hown', hgr, _, hat⟩ := run_append_own_at (P := P) w base t ty E i z e.nf bytes hu hi hz h1 h2 hzc e.pos _ _ _ hown.row ⟨b, off, none⟩ m d (news.flatMap e.cells)
      hflen (fun j u hj => by
        have hjl : j < m * e.nf := by rw [← hflen]; exact (List.getElem?_eq_some_iff.1 hj).1
        have hq : j / e.nf < news.length := by rw [hsl.len]; exact Nat.div_lt_of_lt_mul (by rw [Nat.mul_comm]; exact hjl)
        have hr : j % e.nf < e.nf := Nat.mod_lt _ e.pos
        have hx : news[j / e.nf]? = some news[j / e.nf] := List.getElem?_eq_getElem hq
        have hr' : j % e.nf < (e.cells news[j / e.nf]).length := by rw [e.len]; exact hr
        have hv : (e.cells news[j / e.nf])[j % e.nf]? = some (e.cells news[j / e.nf])[j % e.nf] := List.getElem?_eq_getElem hr'
        have hj2 := Enc.flat_get hx hv
        have hdm : j / e.nf * e.nf + j % e.nf = j := by rw [Nat.mul_comm]; exact Nat.div_add_mod j e.nf
        rw [hdm, hj] at hj2
        have hc2 := hc _ _ hx _ _ hv
        rw [Nat.add_assoc, hdm] at hc2
        rw [addr_add, hc2, hj2]) (Enc.flat_one _) (by simp only [maxLen]; omega)
      (by have : (n + m) * bytes ≤ (n + m) * 128 := Nat.mul_le_mul_left _ hby
          omega) hbase
    have hb' : (Value.slice A n c).ownBlock = A.map (·.block) := by cases A <;> rfl
    rw [hb'] at hgr hat
    rcases hown'.2 with ⟨rfl, h0⟩ | ⟨g, cap, cur, rfl, hbg, hgg, h1', h2', h3', h4'⟩
    · omega
    · have hO : Ow e w' base E (some ⟨g, 0, none⟩) (n + m) cap (L ++ news) := by
        refine ⟨by rw [List.length_append, hown.len, hsl.len], ?_⟩
        rw [List.flatMap_append]; exact hown'
      refine ⟨_, _, w', hrun, hO, hgr, ?_⟩
      rcases hat with hat | hat
      · left
        rcases hown.form with ⟨rfl, hn0, hc0⟩ | ⟨g0, cur0, rfl, _⟩
        · simp [Value.ownBlock] at hat
        · simp [Value.ownBlock] at hat; rw [hat]
      · right
        simp [Value.ownBlock] at hat
        exact ⟨g, rfl, by omega⟩

/-- 'append(out, xs...)' on a list of the call's own; the source lies in memory. -/
theorem wl_app (hg : o.guard = none) (s x : Operand) (t : TypeId) (ho : o.op = .call { callee := .builtin .append, args := #[s, x], argTypes := #[t, t] })
    (base : Nat) (E : TypeId) (z : Value) (bytes : Nat) (hu : P.underlying t = some (.slice E)) (hinfo : (P.info? E).map (fun i => (i.zero, i.size, i.bytes)) = some (some z, e.nf, bytes)) (hzc : z.cells.size = e.nf) (hby : bytes ≤ 128)
    (A : Option Addr) (n c : Nat) (L : List α) (hs : a.eval s = .slice A n c) (hown : Ow e w base E A n c L)
    (D : Option Addr) (m d : Nat) (news : List α) (hx : a.eval x = .slice D m d) (B : Nat) (hsl : Rd e w B D m d news)
    (hsz : n + m ≤ 1099511627776) (hbase : base ≤ w.heap.size)
    (hK : ∀ A' c' w', Ow e w' base E A' (n + m) c' (L ++ news) → w.grownBy w' (A.map (·.block)) → (A' = A ∨ ∃ g, A' = some ⟨g, 0, none⟩ ∧ w.heap.size ≤ g) → wpList P ops Q rest (a.put o.dst (.slice A' (n + m) c')) w') :
    wpList P ops Q (o :: rest) a w := by
  refine wpList_plain hg fun K hKK => ?_
  obtain ⟨A', c', w', hrun, r1, r2, r3⟩ := run_app (P := P) e w t o.type base E z bytes hu hinfo hzc hby A n c L hown D m d news B hsl hsz hbase
  unfold Oper.wp execOp
  simp only [ho, resolve, invoke, builtin, Sem.run_bind, Sem.run_pure, Result.andThen_ok, List.map_toArray, List.map_cons, List.map_nil, hs, hx, hrun]
  exact hKK _ _ (hK A' c' w' r1 r2 r3)

/-- The same at a step of a region that draws its order. -/
theorem step_app {K : Act → World → Prop} {E' : Prop} (hgd : o.guard = none) (s x : Operand) (t : TypeId) (ho : o.op = .call { callee := .builtin .append, args := #[s, x], argTypes := #[t, t] })
    (base : Nat) (E : TypeId) (z : Value) (bytes : Nat) (hu : P.underlying t = some (.slice E)) (hinfo : (P.info? E).map (fun i => (i.zero, i.size, i.bytes)) = some (some z, e.nf, bytes)) (hzc : z.cells.size = e.nf) (hby : bytes ≤ 128)
    (A : Option Addr) (n c : Nat) (L : List α) (hs : a.eval s = .slice A n c) (hown : Ow e w base E A n c L)
    (D : Option Addr) (m d : Nat) (news : List α) (hx : a.eval x = .slice D m d) (B : Nat) (hsl : Rd e w B D m d news)
    (hsz : n + m ≤ 1099511627776) (hbase : base ≤ w.heap.size)
    (hK : ∀ A' c' w', Ow e w' base E A' (n + m) c' (L ++ news) → w.grownBy w' (A.map (·.block)) → (A' = A ∨ ∃ g, A' = some ⟨g, 0, none⟩ ∧ w.heap.size ≤ g) → K (a.put o.dst (.slice A' (n + m) c')) w') : if Region.wanted o (yielded ops a.tmps) = true then Oper.wp P o a w K Q else E' := by
  have hwd : Region.wanted o (yielded ops a.tmps) = true := by simp [Region.wanted, hgd]
  rw [if_pos hwd]
  obtain ⟨A', c', w', hrun, r1, r2, r3⟩ := run_app (P := P) e w t o.type base E z bytes hu hinfo hzc hby A n c L hown D m d news B hsl hsz hbase
  unfold Oper.wp execOp
  simp only [ho, resolve, invoke, builtin, Sem.run_bind, Sem.run_pure, Result.andThen_ok, List.map_toArray, List.map_cons, List.map_nil, hs, hx, hrun]
  exact hK A' c' w' r1 r2 r3

theorem madeCells_flat (z : Value) (x : α) (hz : z.cells.toList = e.cells x) (n : Nat) : (madeCells z.cells (n * e.nf)).toList = (List.replicate n x).flatMap e.cells := by
  have hzs : z.cells.size = e.nf := by rw [← Array.length_toList, hz, e.len]
  refine List.ext_getElem? fun k => ?_
  by_cases hk : k < n * e.nf
  · have hq : k / e.nf < n := Nat.div_lt_of_lt_mul (by rw [Nat.mul_comm]; exact hk)
    have hr : k % e.nf < e.nf := Nat.mod_lt _ e.pos
    have hx : (List.replicate n x)[k / e.nf]? = some x := by simp [hq]
    have hr' : k % e.nf < (e.cells x).length := by rw [e.len]; exact hr
    have hv : (e.cells x)[k % e.nf]? = some (e.cells x)[k % e.nf] := List.getElem?_eq_getElem hr'
    have h2 := Enc.flat_get hx hv
    have hdm : k / e.nf * e.nf + k % e.nf = k := by rw [Nat.mul_comm]; exact Nat.div_add_mod k e.nf
    rw [hdm] at h2
    rw [h2]
    have hkz : k % z.cells.size < z.cells.size := by rw [hzs]; exact hr
    have h3 : z.cells[k % z.cells.size]! = (e.cells x)[k % e.nf] := by
      rw [getElem!_pos z.cells _ hkz, ← Array.getElem_toList]
      simp only [hz, hzs]
    simp [madeCells, hk, h3]
  · rw [List.getElem?_eq_none (by simp [madeCells]; omega), List.getElem?_eq_none (by rw [Enc.flat_len, List.length_replicate]; omega)]

/-- 'make([]T, n)'. -/
theorem wl_mk (hg : o.guard = none) (l c : Operand) (t : TypeId) (hop : o.op = Op.makeSlice t l c) (E : TypeId) (z : Value) (bytes : Nat) (x : α)
    (hu : P.underlying t = some (.slice E)) (hinfo : (P.info? E).map (fun i => (i.zero, i.size, i.bytes)) = some (some z, e.nf, bytes)) (hzx : z.cells.toList = e.cells x) (hby : bytes ≤ 128)
    (Ln C : Int) (n : Nat) (hl : a.eval l = .int .i64 Ln) (hc : a.eval c = .int .i64 C) (hL : Ln = (n : Int)) (hC : C = (n : Int)) (hn : n ≤ 1099511627776)
    (hK : ∀ w', Ow e w' w.heap.size E (some ⟨w.heap.size, 0, none⟩) n n (List.replicate n x) → w.grownBy w' none → w.heap.size < w'.heap.size →
      wpList P ops Q rest (a.put o.dst (.slice (some ⟨w.heap.size, 0, none⟩) n n)) w') :
    wpList P ops Q (o :: rest) a w := by
  obtain ⟨i, hi, hz, h1, h2⟩ := info_parts hinfo
  refine wpList_make_full w hg l c t hop w.heap.size E i z e.nf hu hi hz h1 .i64 .i64 Ln C n hl hc hL hC ?_ (by simp only [maxLen]; omega) (Nat.le_refl _) ?_
  · rw [h2]
    have : bytes * n ≤ 128 * n := Nat.mul_le_mul_right _ hby
    omega
  · intro w' hown hgr
    have ho : Ow e w' w.heap.size E (some ⟨w.heap.size, 0, none⟩) n n (List.replicate n x) := by
      refine ⟨by simp, ?_⟩
      rw [← madeCells_flat e z x hzx n]; exact hown
    exact hK w' ho hgr (ho.lt rfl).2
end

section
variable {P : Program} {ops : Array Oper} {rest : List Oper} {o : Oper} {a : Act} {w w' : World} {Q : Exit → Act → World → Prop}
theorem Blk.newAt (w : World) (t : TypeId) (cs : Array Value) (g : Nat) (hg : w.heap.size = g) : Blk (w.alloc (.cells cs t)) g t cs := by subst hg; exact Blk.new w t cs
theorem Blk.setRow {g : Nat} {t : TypeId} {cs : Array Value} (h : Blk w g t cs) (cs' : Array Value) : Blk (w.setRow g cs') g t cs' := setRow_heap w g cs cs' t (0, 0) h
theorem grownBy_setRow (w : World) (g : Nat) (cs : Array Value) : w.grownBy (w.setRow g cs) (some g) :=
  ⟨rfl, rfl, rfl, by simp, fun k _ hne => setRow_other w g k cs (fun e => hne (by rw [e]))⟩
/-- A whole array or struct read out of a variable of its own. -/
theorem wl_load (hgd : o.guard = none) (ty : TypeId) (x : Operand) (ho : o.op = .load ty x) (g : Nat) (hx : a.eval x = .pointer (some ⟨g, 0, none⟩)) (t : TypeId) (cs : Array Value) (d : TypeDesc) (hg : Blk w g t cs)
    (hu : P.underlying ty = some d) (hd : (match d with | .struct _ | .array _ _ => true | _ => false) = true) (hi : (P.info? ty).map (·.size) = some cs.size)
    (h : wpList P ops Q rest (a.put o.dst (.agg cs)) w) : wpList P ops Q (o :: rest) a w :=
  wpList_load_row hgd ty x ho g hx t cs (0, 0) d hg hu hd hi h
/-- A whole array or struct stored into a variable of its own. -/
theorem wl_store (hgd : o.guard = none) (ty : TypeId) (x y : Operand) (ho : o.op = .store ty x y) (g : Nat) (cells : Array Value) (hx : a.eval x = .pointer (some ⟨g, 0, none⟩)) (hy : a.eval y = .agg cells)
    (t : TypeId) (old : Array Value) (hg : Blk w g t old) (hi : (P.info? ty).map (·.size) = some cells.size) (hold : old.size = cells.size) (h1 : cells.all (·.oneCell') = true)
    (h : ∀ w', Blk w' g t cells → w.grownBy w' (some g) → wpList P ops Q rest (a.put o.dst undef) w') : wpList P ops Q (o :: rest) a w :=
  wpList_store_row hgd ty x y ho g cells hx hy t old hg hi hold h1 (h _ (hg.setRow _) (grownBy_setRow _ _ _))
theorem results_row_tmp {fn : Func} {p u : Tmp} {ty : TypeId} (h : fn.results = #[.cell p ty, .tmp u]) (tmps : Array Value) (w : World) (g : Nat) (t : TypeId) (cs : Array Value) (d : TypeDesc)
    (hp : tmps.getD p undef = .pointer (some ⟨g, 0, none⟩)) (hg : Blk w g t cs)
    (hu : P.underlying ty = some d) (hd : (match d with | .struct _ | .array _ _ => true | _ => false) = true) (hi : (P.info? ty).map (·.size) = some cs.size) :
    (results fn tmps).run P w = .ok (.tuple #[.agg cs, tmps.getD u undef]) w := by
  have hp' : tmps[p]?.getD undef = .pointer (some ⟨g, 0, none⟩) := by simpa using hp
  simp [results, h, hp', asAddr, run_loadVar_row w g t ty cs (0, 0) d hg hu hd hi]
end

theorem info_int : (Try.prog.info? 3).map (fun i => (i.zero, i.size, i.bytes)) = some (some (.int .i64 0), 1, 8) := by kernel_rfl
theorem info_bool : (Try.prog.info? 4).map (fun i => (i.zero, i.size, i.bytes)) = some (some (.bool false), 1, 1) := by kernel_rfl

/-! ### Arrays of integers compared -/
section
variable {P : Program}
theorem run_part_int {e : TypeId} {xs : Array Value} {off : Nat} {v : Value} {k : IntKind} (he : P.underlying e = some (.int k)) (hx : xs[off]? = some v) (w : World) : (part e xs off).run P w = .ok v w := by
  simp [part, isAgg, run_underlying he, hx]
theorem eqItems_int (d : Nat) {e : TypeId} {k : IntKind} (he : P.underlying e = some (.int k)) (hc : P.cellsOf e = 1) (xs ys : Array Value) (f g : Nat → Int) (w : World) : ∀ (is : List Nat), (∀ i ∈ is, xs[i]? = some (.int k (f i)) ∧ ys[i]? = some (.int k (g i))) →
    (Op.eqItems (d + 1) e (P.cellsOf e) xs ys is).run P w = .ok (is.all fun i => f i == g i) w
  | [], _ => by simp [Op.eqItems]
  | i :: is, h => by
    obtain ⟨h1, h2⟩ := h i (by simp)
    have ih := eqItems_int d he hc xs ys f g w is (fun j hj => h j (by simp [hj]))
    simp only [Op.eqItems, Sem.run_bind]
    rw [show i * P.cellsOf e = i by rw [hc, Nat.mul_one], run_part_int he h1]
    simp only [Result.andThen_ok]
    rw [run_part_int he h2]
    simp only [Result.andThen_ok, run_equalIn_int w d e k k (f i) (g i) he]
    by_cases hfg : f i = g i
    · simp only [hfg, BEq.rfl, Bool.not_true, Bool.false_eq_true, if_false]
      rw [ih]; simp [hfg]
    · have hb : (f i == g i) = false := by simpa using hfg
      simp [hb]
/-- '==' on two arrays of integers. -/
theorem run_eql_ints {t e : TypeId} {n : Nat} {k : IntKind} {i : TypeInfo} (ht : P.underlying t = some (.array n e)) (he : P.underlying e = some (.int k)) (hi : P.info? e = some i) (hc : P.cellsOf e = 1) (xs ys : Array Value) (f g : Nat → Int)
    (h : ∀ j, j < n → xs[j]? = some (.int k (f j)) ∧ ys[j]? = some (.int k (g j))) (w : World) : (binOp .eql t (.agg xs) (.agg ys)).run P w = .ok (.bool ((List.range n).all fun i => f i == g i)) w := by
  rw [run_eql_struct, run_equalIn_array w 9999 xs ys ht hi, eqItems_int 9998 he hc xs ys f g w (List.range n) (fun j hj => h j (by simpa using hj))]
  rfl
end
theorem cells_int : Try.prog.cellsOf 3 = 1 := by kernel_rfl
theorem eql4 (a0 a1 a2 a3 b0 b1 b2 b3 : Int) (w : World) : (binOp .eql 54 (.agg #[.int .i64 a0, .int .i64 a1, .int .i64 a2, .int .i64 a3]) (.agg #[.int .i64 b0, .int .i64 b1, .int .i64 b2, .int .i64 b3])).run Try.prog w = .ok (.bool (decide (a0 = b0 ∧ a1 = b1 ∧ a2 = b2 ∧ a3 = b3))) w := by
  obtain ⟨i, hi⟩ : ∃ i, Try.prog.info? 3 = some i := by
    have := info_int
    cases h : Try.prog.info? 3 with
    | none => simp [h] at this
    | some i => exact ⟨i, rfl⟩
  have e : ((List.range 4).all fun i => (fun j => match j with | 0 => a0 | 1 => a1 | 2 => a2 | _ => a3 : Nat → Int) i == (fun j => match j with | 0 => b0 | 1 => b1 | 2 => b2 | _ => b3 : Nat → Int) i) = decide (a0 = b0 ∧ a1 = b1 ∧ a2 = b2 ∧ a3 = b3) := by
    rw [Bool.eq_iff_iff]; simp [List.range, List.range.loop]
  rw [run_eql_ints Try.underlying54 Try.underlying3 hi cells_int _ _ (fun j => match j with | 0 => a0 | 1 => a1 | 2 => a2 | _ => a3) (fun j => match j with | 0 => b0 | 1 => b1 | 2 => b2 | _ => b3) (fun j hj => by
    match j, hj with
    | 0, _ | 1, _ | 2, _ | 3, _ => exact ⟨rfl, rfl⟩), e]
theorem eql3 (a0 a1 a2 b0 b1 b2 : Int) (w : World) : (binOp .eql 53 (.agg #[.int .i64 a0, .int .i64 a1, .int .i64 a2]) (.agg #[.int .i64 b0, .int .i64 b1, .int .i64 b2])).run Try.prog w = .ok (.bool (decide (a0 = b0 ∧ a1 = b1 ∧ a2 = b2))) w := by
  obtain ⟨i, hi⟩ : ∃ i, Try.prog.info? 3 = some i := by
    have := info_int
    cases h : Try.prog.info? 3 with
    | none => simp [h] at this
    | some i => exact ⟨i, rfl⟩
  have e : ((List.range 3).all fun i => (fun j => match j with | 0 => a0 | 1 => a1 | _ => a2 : Nat → Int) i == (fun j => match j with | 0 => b0 | 1 => b1 | _ => b2 : Nat → Int) i) = decide (a0 = b0 ∧ a1 = b1 ∧ a2 = b2) := by
    rw [Bool.eq_iff_iff]; simp [List.range, List.range.loop]
  rw [run_eql_ints Try.underlying53 Try.underlying3 hi cells_int _ _ (fun j => match j with | 0 => a0 | 1 => a1 | _ => a2) (fun j => match j with | 0 => b0 | 1 => b1 | _ => b2) (fun j hj => by
    match j, hj with
    | 0, _ | 1, _ | 2, _ => exact ⟨rfl, rfl⟩), e]

/-! ### Stores into a list of the call's own, cell by cell -/
section
variable {α : Type} {e : Enc α} {w : World} {base g n c : Nat} {E : TypeId} {L : List α}
theorem take_set_drop {l : List Value} {i : Nat} (hi : i < l.length) (v : Value) : l.set i v = l.take i ++ [v] ++ l.drop (i + 1) := by
  rw [List.set_eq_take_append_cons_drop, if_pos hi]; simp
theorem Ow.store1 (h : Ow e w base E (some ⟨g, 0, none⟩) n c L) {i : Nat} (hi : i < n) (y : α) {v : Value} (hv : e.cells y = [v]) {p : Addr} (hp : p = ⟨g, i, none⟩) : Ow e (w.setCell p v) base E (some ⟨g, 0, none⟩) n c (L.set i y) := by
  subst hp
  have hnf : e.nf = 1 := by rw [← e.len y, hv]; rfl
  rcases h.form with ⟨h0, _⟩ | ⟨g', cur, ea, hb, hlt, hh, h1, h2, h3, h4⟩
  · cases h0
  injection ea with ea; injection ea with ea; subst ea
  refine h.put hi y ⟨cur, hh, ?_⟩
  have hin : i < cur.size := by rw [h3, hnf]; omega
  rw [heap_setCell_same w g i cur E v hh, hv, hnf, Nat.mul_one, ← take_set_drop (by simpa using hin)]
  congr 2
  apply Array.toList_inj.1
  simp
end
end Go.Proofs.Ytchhkokpjdkkiaa
