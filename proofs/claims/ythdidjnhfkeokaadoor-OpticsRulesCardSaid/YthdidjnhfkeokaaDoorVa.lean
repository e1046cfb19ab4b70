/- The plain model of rules, of Carry and of Emit. Plain Lean; no program. -/
import Derived.Test.YthdidjnhfkeokaaDoorQm
namespace Go.Proofs.YthdidjnhfkeokaaDoor

/-! ### Rules -/
def okSpan (r : Ru) : Bool := decide (0 ≤ r.fr ∧ r.fr ≤ r.to ∧ r.to < 4096)
def okRu (r : Ru) : Bool :=
  if r.k = 1 ∨ r.k = 2 then decide (r.fr = 0 ∧ r.to = 0 ∧ r.b = 0 ∧ 0 ≤ r.a ∧ r.a ≤ 256)
  else if r.k = 3 then decide (r.fr = 0 ∧ r.to = 0 ∧ (r.b = 0 ∨ r.b = 1) ∧ r.b ≤ r.a ∧ r.a ≤ 16)
  else if r.k = 4 ∨ r.k = 6 then okSpan r && decide (r.b = 0 ∧ 0 ≤ r.a ∧ r.a ≤ 256)
  else if r.k = 5 then okSpan r && decide (r.a = 0 ∧ r.b = 0)
  else if r.k = 7 then okSpan r && decide (0 ≤ r.a ∧ r.a ≤ 1 ∧ 0 ≤ r.b ∧ r.b ≤ 1)
  else false
def isSh (r : Ru) : Bool := decide (r.k = 3)
def shifts (L : List Ru) : Nat := (L.filter isSh).length
def rulesErr (L : List Ru) : Int := if 32 < L.length then 5 else if L.all okRu then (if 1 < shifts L then 10 else 0) else 2
def shiftOf (L : List Ru) : Int := match L.find? isSh with
  | some r => r.a * (1 - 2 * r.b)
  | none => 0
def shiftErr (L : List Ru) : Int := if rulesErr L = 0 then shiftOf L else 0
theorem shifts_le (L : List Ru) : shifts L ≤ L.length := List.length_filter_le _ _
theorem shifts_snoc {L : List Ru} {k : Nat} {r : Ru} (h : L[k]? = some r) : shifts (L.take (k + 1)) = shifts (L.take k) + if r.k = 3 then 1 else 0 := by
  unfold shifts; rw [List.take_add_one, h, List.filter_append, List.length_append]
  by_cases hr : r.k = 3 <;> simp [isSh, hr]
theorem okRu_kind {r : Ru} (h : okRu r = true) : 1 ≤ r.k ∧ r.k ≤ 7 := by
  unfold okRu at h
  split at h
  · omega
  split at h
  · omega
  split at h
  · omega
  split at h
  · omega
  split at h
  · omega
  · cases h

/-! ### Carry -/
def hit (a : Int) (s : Nat) : Bool := decide ((bel s 256 : Int) < a)
/-- How many of k photons are lost, and the state of the draws. -/
def lossF (a : Int) (s : Nat) : Nat → Nat × Nat
  | 0 => (0, s)
  | k + 1 => ((lossF a s k).1 + (if hit a (lossF a s k).2 then 1 else 0), nx (lossF a s k).2)
theorem lossF_le (a : Int) (s k : Nat) : (lossF a s k).1 ≤ k := by
  induction k with
  | zero => simp [lossF]
  | succ k ih => rw [lossF]; split <;> simp <;> omega
def covers (r : Ru) (i : Nat) : Bool := decide (r.k < 4 ∨ (r.fr ≤ i ∧ (i : Int) ≤ r.to))
/-- What a rule that holds does with the light of slot i: the light, the notes, the state. -/
def actF (r : Ru) (i : Nat) (x : Li) (s : Nat) : Li × List No × Nat :=
  if r.k = 7 then (⟨0, r.a, decide (r.b = 1), true⟩, [⟨i, 3, r.a, decide (r.b = 1)⟩], s)
  else if x.bright then (x, [], s)
  else if r.k = 1 then (⟨x.ph - ((lossF r.a s x.ph.toNat).1 : Nat), x.b, x.bit, false⟩, [], (lossF r.a s x.ph.toNat).2)
  else if r.k = 2 then (if 0 < x.ph then (if hit r.a s then ⟨x.ph, x.b, !x.bit, false⟩ else x, [], nx s) else (x, [], s))
  else if r.k = 6 then (if x.ph = 1 then (if hit r.a s then ⟨0, x.b, x.bit, false⟩ else x, [], nx s) else (x, [], s))
  else if r.k = 5 then (if 2 ≤ x.ph then (⟨x.ph - 1, x.b, x.bit, false⟩, [⟨i, 2, x.b, x.bit⟩], s) else (x, [], s))
  else if r.k = 4 then (if x.ph = 0 then (x, [], s) else if hit r.a s then
      (if (bel (nx s) 2 : Int) = x.b then (⟨1, (bel (nx s) 2 : Int), x.bit, false⟩, [⟨i, 1, (bel (nx s) 2 : Int), x.bit⟩], nx (nx s))
       else (⟨1, (bel (nx s) 2 : Int), decide (bel (nx (nx s)) 2 = 1), false⟩, [⟨i, 1, (bel (nx s) 2 : Int), decide (bel (nx (nx s)) 2 = 1)⟩], nx (nx (nx s))))
    else (x, [], nx s))
  else (x, [], s)
def stepF (i : Nat) (t : Li × List No × Nat) (r : Ru) : Li × List No × Nat :=
  if covers r i then ((actF r i t.1 t.2.2).1, t.2.1 ++ (actF r i t.1 t.2.2).2.1, (actF r i t.1 t.2.2).2.2) else t
def slotF (L : List Ru) (i : Nat) (t : Li × List No × Nat) : Li × List No × Nat := L.foldl (stepF i) t
theorem slotF_snoc {L : List Ru} {k : Nat} {r : Ru} (h : L[k]? = some r) (i : Nat) (t : Li × List No × Nat) : slotF (L.take (k + 1)) i t = stepF i (slotF (L.take k) i t) r := by
  unfold slotF; rw [List.take_add_one, h, List.foldl_append]; rfl
def li0 : Li := ⟨0, 0, false, false⟩
def liOf (p : Pu) : Li := ⟨p.ph, p.b, p.bit, false⟩
def normL (x : Li) : Li := if 0 < x.ph ∨ x.bright = true then x else li0
/-- The light, the notes and the state behind k slots. -/
def carrF (L : List Ru) (P : List Pu) (s : Nat) : Nat → List Li × List No × Nat
  | 0 => ([], [], s)
  | k + 1 => match P[k]? with
    | some p => ((carrF L P s k).1 ++ [normL (slotF L k (liOf p, (carrF L P s k).2)).1], (slotF L k (liOf p, (carrF L P s k).2)).2)
    | none => carrF L P s k
theorem carrF_succ {L : List Ru} {P : List Pu} {s k : Nat} {p : Pu} (h : P[k]? = some p) : carrF L P s (k + 1) = ((carrF L P s k).1 ++ [normL (slotF L k (liOf p, (carrF L P s k).2)).1], (slotF L k (liOf p, (carrF L P s k).2)).2) := by
  rw [carrF, h]
theorem carrF_len (L : List Ru) (P : List Pu) (s : Nat) : ∀ k, k ≤ P.length → (carrF L P s k).1.length = k
  | 0, _ => rfl
  | k + 1, h => by
    have hk : k < P.length := h
    rw [carrF_succ (List.getElem?_eq_getElem hk), List.length_append, carrF_len L P s k (by omega)]; rfl
theorem actF_notes (r : Ru) (i : Nat) (x : Li) (s : Nat) : (actF r i x s).2.1.length ≤ 1 := by
  unfold actF; (repeat' split) <;> simp
theorem stepF_notes (i : Nat) (t : Li × List No × Nat) (r : Ru) : (stepF i t r).2.1.length ≤ t.2.1.length + 1 := by
  have := actF_notes r i t.1 t.2.2
  unfold stepF; split
  · simp; omega
  · omega
theorem slotF_notes (i : Nat) : ∀ (L : List Ru) (t : Li × List No × Nat), (slotF L i t).2.1.length ≤ t.2.1.length + L.length
  | [], t => by simp [slotF]
  | r :: L, t => by
    have h1 := slotF_notes i L (stepF i t r)
    have h2 := stepF_notes i t r
    show (slotF L i (stepF i t r)).2.1.length ≤ _
    rw [List.length_cons]; omega
theorem carrF_notes (L : List Ru) (P : List Pu) (s : Nat) : ∀ k, (carrF L P s k).2.1.length ≤ k * L.length
  | 0 => by simp [carrF]
  | k + 1 => by
    have ih := carrF_notes L P s k
    rw [carrF]
    rw [Nat.add_mul, Nat.one_mul]
    split
    · rename_i p _
      have := slotF_notes k L (liOf p, (carrF L P s k).2)
      simp only at this ⊢; omega
    · omega
/-- Light of at most three photons. -/
def okPh (x : Li) : Prop := 0 ≤ x.ph ∧ x.ph ≤ 3
theorem actF_ph {r : Ru} {i : Nat} {x : Li} {s : Nat} (h : okPh x) : okPh (actF r i x s).1 := by
  have hl := lossF_le r.a s x.ph.toNat
  unfold okPh at *
  unfold actF; (repeat' split) <;> simp only <;> omega
theorem stepF_ph {i : Nat} {t : Li × List No × Nat} {r : Ru} (h : okPh t.1) : okPh (stepF i t r).1 := by
  unfold stepF; split
  · exact actF_ph h
  · exact h
theorem slotF_ph (i : Nat) : ∀ (L : List Ru) (t : Li × List No × Nat), okPh t.1 → okPh (slotF L i t).1
  | [], _, h => h
  | r :: L, t, h => slotF_ph i L (stepF i t r) (stepF_ph h)
def carryErr (L : List Ru) (P : List Pu) : Int := if rulesErr L = 0 then pulsesErr P else rulesErr L
def carryX (L : List Ru) (P : List Pu) (s : Nat) : List Li := if carryErr L P = 0 then (carrF L P s P.length).1 else []
def carryN (L : List Ru) (P : List Pu) (s : Nat) : List No := if carryErr L P = 0 then (carrF L P s P.length).2.1 else []

/-! ### Emit -/
def sumK (ws : List Int) (i : Nat) : Int := (ws.take i).sum
theorem sumK_succ {ws : List Int} {i : Nat} {x : Int} (h : ws[i]? = some x) : sumK ws (i + 1) = sumK ws i + x := by
  unfold sumK; rw [List.take_add_one, h, List.sum_append]; simp
def wgt (ws : List Int) (k : Int) : Nat := ((List.range ws.length).find? fun i => decide (k < sumK ws (i + 1))).getD (ws.length - 1)
theorem wgt_at {ws : List Int} {k : Int} {i : Nat} (hi : i < ws.length) (hb : ∀ j, j < i → ¬ k < sumK ws (j + 1)) (h : k < sumK ws (i + 1)) : wgt ws k = i := by
  unfold wgt
  have : (List.range ws.length).find? (fun i => decide (k < sumK ws (i + 1))) = some i := by
    rw [List.find?_range_eq_some]
    exact ⟨by simpa using h, by simpa using hi, fun j hj => by simpa using hb j hj⟩
  rw [this]; rfl
theorem wgt_none {ws : List Int} {k : Int} (hb : ∀ j, j < ws.length → ¬ k < sumK ws (j + 1)) : wgt ws k = ws.length - 1 := by
  unfold wgt
  have : (List.range ws.length).find? (fun i => decide (k < sumK ws (i + 1))) = none := by
    rw [List.find?_range_eq_none]; intro j hj; simpa using hb j hj
  rw [this]; rfl
theorem wgt_lt {ws : List Int} (k : Int) (h : 0 < ws.length) : wgt ws k < ws.length := by
  unfold wgt
  cases hf : (List.range ws.length).find? (fun i => decide (k < sumK ws (i + 1))) with
  | none => simp; omega
  | some i => have := List.mem_of_find?_eq_some hf; simpa using this
def rowOf (f : Nat → Int) (c : Nat) : List Int := [f (4 + 4 * c), f (5 + 4 * c), f (6 + 4 * c), f (7 + 4 * c)]
def clsOf (f : Nat → Int) : List Int := [f 1, f 2, f 3]
/-- Whether one of k photons is seen, and the state. -/
def seenF (eta : Int) (s : Nat) : Nat → Bool × Nat
  | 0 => (false, s)
  | k + 1 => ((seenF eta s k).1 || hit eta (seenF eta s k).2, nx (seenF eta s k).2)
def clsF (f : Nat → Int) (s : Nat) : Nat × Nat := if f 0 = 1 then (wgt (clsOf f) (bel s 256), nx s) else (2, s)
def phF (f : Nat → Int) (c : Nat) (s : Nat) : Nat := wgt (rowOf f c) (bel s 256)
/-- A pulse, and the state behind it. -/
def pulF (f : Nat → Int) (s : Nat) : Pu × Nat :=
  (⟨(bel s 2 : Nat), decide (bel (nx s) 2 = 1), ((clsF f (nx (nx s))).1 : Nat), (phF f (clsF f (nx (nx s))).1 (clsF f (nx (nx s))).2 : Nat),
     if f 0 = 2 then (seenF (f 16) (nx (clsF f (nx (nx s))).2) (phF f (clsF f (nx (nx s))).1 (clsF f (nx (nx s))).2)).1 else true⟩,
   if f 0 = 2 then (seenF (f 16) (nx (clsF f (nx (nx s))).2) (phF f (clsF f (nx (nx s))).1 (clsF f (nx (nx s))).2)).2 else nx (clsF f (nx (nx s))).2)
def emiF (f : Nat → Int) (s : Nat) : Nat → List Pu × Nat
  | 0 => ([], s)
  | k + 1 => ((emiF f s k).1 ++ [(pulF f (emiF f s k).2).1], (pulF f (emiF f s k).2).2)
theorem emiF_len (f : Nat → Int) (s k : Nat) : (emiF f s k).1.length = k := by
  induction k with
  | zero => rfl
  | succ k ih => simp [emiF, ih]
theorem clsF_lt (f : Nat → Int) (s : Nat) : (clsF f s).1 ≤ 2 := by
  unfold clsF; split
  · have := wgt_lt (ws := clsOf f) (bel s 256) (by simp [clsOf]); simp [clsOf] at this; simp [clsOf]; omega
  · simp
theorem phF_lt (f : Nat → Int) (c s : Nat) : phF f c s ≤ 3 := by
  unfold phF
  have := wgt_lt (ws := rowOf f c) (bel s 256) (by simp [rowOf]); simp [rowOf] at this; simp [rowOf]; omega
theorem pulF_ok (f : Nat → Int) (s : Nat) : okPu (pulF f s).1 = true := by
  have h1 := Nat.mod_lt (ny s) (show 0 < 2 by omega)
  have h2 := clsF_lt f (nx (nx s))
  have h3 := phF_lt f (clsF f (nx (nx s))).1 (clsF f (nx (nx s))).2
  unfold okPu pulF
  simp only [decide_eq_true_eq]
  unfold bel
  omega
theorem emiF_ok (f : Nat → Int) (s k : Nat) : (emiF f s k).1.all okPu = true := by
  induction k with
  | zero => rfl
  | succ k ih => rw [emiF, List.all_append, ih]; simp [pulF_ok]
end Go.Proofs.YthdidjnhfkeokaaDoor
