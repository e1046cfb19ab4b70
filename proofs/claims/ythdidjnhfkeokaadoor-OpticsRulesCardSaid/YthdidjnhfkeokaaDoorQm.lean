/- The plain model of layer 3: pulses, light, clicks, notes, rules as Lean values, and what the functions of optics return of them. Plain Lean; no program. -/
import Derived.Test.YthdidjnhfkeokaaDoorQa
namespace Go.Proofs.YthdidjnhfkeokaaDoor

structure Pu where
  b : Int
  bit : Bool
  cl : Int
  ph : Int
  seen : Bool
structure Li where
  ph : Int
  b : Int
  bit : Bool
  bright : Bool
structure Ck where
  b : Int
  k : Int
structure No where
  slot : Int
  how : Int
  b : Int
  bit : Bool
structure Ru where
  k : Int
  fr : Int
  to : Int
  a : Int
  b : Int
def ePu : Enc Pu := ⟨5, fun p => [.int .i64 p.b, .bool p.bit, .int .i64 p.cl, .int .i64 p.ph, .bool p.seen], fun _ => rfl, by simp [Value.oneCell'], by omega⟩
def eLi : Enc Li := ⟨4, fun p => [.int .i64 p.ph, .int .i64 p.b, .bool p.bit, .bool p.bright], fun _ => rfl, by simp [Value.oneCell'], by omega⟩
def eCk : Enc Ck := ⟨2, fun p => [.int .i64 p.b, .int .i64 p.k], fun _ => rfl, by simp [Value.oneCell'], by omega⟩
def eNo : Enc No := ⟨4, fun p => [.int .i64 p.slot, .int .i64 p.how, .int .i64 p.b, .bool p.bit], fun _ => rfl, by simp [Value.oneCell'], by omega⟩
def eRu : Enc Ru := ⟨5, fun p => [.int .i64 p.k, .int .i64 p.fr, .int .i64 p.to, .int .i64 p.a, .int .i64 p.b], fun _ => rfl, by simp [Value.oneCell'], by omega⟩

/-! ### Pulses -/
def okPu (p : Pu) : Bool := decide (0 ≤ p.b ∧ p.b ≤ 1 ∧ 0 ≤ p.cl ∧ p.cl ≤ 2 ∧ 0 ≤ p.ph ∧ p.ph ≤ 3)
def pulsesErr (L : List Pu) : Int := if 4096 < L.length then 5 else if L.all okPu then 0 else 2
def okCk (p : Ck) : Bool := decide (0 ≤ p.b ∧ p.b ≤ 1 ∧ 0 ≤ p.k ∧ p.k ≤ 3)
/-- Slot i of pulse p is a slot that agrees. -/
def agr (c : List Ck) (sh : Int) (i : Nat) (p : Pu) : Bool :=
  decide (0 ≤ (i : Int) + sh) && (match c[((i : Int) + sh).toNat]? with
    | some k => p.seen && decide (k.b = p.b) && decide (k.k = 1 ∨ k.k = 2)
    | none => false)
def dif (c : List Ck) (sh : Int) (i : Nat) (p : Pu) : Bool :=
  agr c sh i p && (match c[((i : Int) + sh).toNat]? with
    | some k => p.bit != decide (k.k = 2)
    | none => false)
def slotsOf (P : Nat → Pu → Bool) (L : List Pu) (m : Nat) : List Nat := (List.range m).filter fun i => match L[i]? with
  | some p => P i p
  | none => false
theorem slotsOf_zero (P : Nat → Pu → Bool) (L : List Pu) : slotsOf P L 0 = [] := rfl
theorem slotsOf_yes {P : Nat → Pu → Bool} {L : List Pu} {m : Nat} {p : Pu} (h : L[m]? = some p) (hp : P m p = true) : slotsOf P L (m + 1) = slotsOf P L m ++ [m] := by
  unfold slotsOf; rw [List.range_succ, List.filter_append]; simp [h, hp]
theorem slotsOf_no {P : Nat → Pu → Bool} {L : List Pu} {m : Nat} {p : Pu} (h : L[m]? = some p) (hp : P m p = false) : slotsOf P L (m + 1) = slotsOf P L m := by
  unfold slotsOf; rw [List.range_succ, List.filter_append]; simp [h, hp]
theorem slotsOf_len (P : Nat → Pu → Bool) (L : List Pu) (m : Nat) : (slotsOf P L m).length ≤ m := by
  unfold slotsOf
  have := List.length_filter_le (fun i => match L[i]? with | some p => P i p | none => false) (List.range m)
  simpa using this

/-- What Agree returns: the error, and without one the slots that agree and those that differ. -/
def agreeErr (L : List Pu) (C : List Ck) (sh : Int) : Int :=
  if sh < -16 ∨ 16 < sh then 3 else if 4096 < L.length ∨ 4096 < C.length then 5 else if L.all okPu then (if C.all okCk then 0 else 2) else 2
def agreeSame (L : List Pu) (C : List Ck) (sh : Int) : List Nat := if agreeErr L C sh = 0 then slotsOf (agr C sh) L L.length else []
def agreeWrong (L : List Pu) (C : List Ck) (sh : Int) : List Nat := if agreeErr L C sh = 0 then slotsOf (dif C sh) L L.length else []

/-! ### Notes -/
def okNo (x : No) : Bool := decide (1 ≤ x.how ∧ x.how ≤ 3 ∧ 0 ≤ x.b ∧ x.b ≤ 1)
def inNo (n : Nat) (x : No) : Bool := decide (0 ≤ x.slot ∧ x.slot < n)
def noteErr (n : Nat) : List No → Int
  | [] => 0
  | x :: r => if okNo x then (if inNo n x then noteErr n r else 3) else 2
theorem noteErr_ok {n : Nat} {N : List No} (h : N.all (fun x => okNo x && inNo n x) = true) : noteErr n N = 0 := by
  induction N with
  | nil => rfl
  | cons x N ih =>
    simp only [List.all_cons, Bool.and_eq_true] at h
    rw [noteErr, if_pos h.1.1, if_pos h.1.2, ih h.2]
theorem noteErr_at {n k : Nat} {N : List No} {x : No} (h : (N.take k).all (fun x => okNo x && inNo n x) = true) (hx : N[k]? = some x) : (okNo x = false → noteErr n N = 2) ∧ (okNo x = true → inNo n x = false → noteErr n N = 3) := by
  induction N generalizing k with
  | nil => simp at hx
  | cons y N ih =>
    cases k with
    | zero =>
      obtain rfl : y = x := by simpa using hx
      exact ⟨fun h1 => by rw [noteErr, if_neg (by simp [h1])], fun h1 h2 => by rw [noteErr, if_pos h1, if_neg (by simp [h2])]⟩
    | succ k =>
      simp only [List.take_succ_cons, List.all_cons, Bool.and_eq_true] at h
      rw [noteErr, if_pos h.1.1, if_pos h.1.2]
      exact ih h.2 (by simpa using hx)
/-- What a note marks. -/
def mark (L : List Pu) (K : List Bool) (x : No) : List Bool :=
  if decide (x.how = 2) || (match L[x.slot.toNat]? with
    | some p => decide (x.b = p.b)
    | none => false) then K.set x.slot.toNat true else K
def marks (L : List Pu) (N : List No) : List Bool := N.foldl (mark L) (List.replicate L.length false)
theorem marks_snoc {L : List Pu} {N : List No} {k : Nat} {x : No} (hx : N[k]? = some x) : marks L (N.take (k + 1)) = mark L (marks L (N.take k)) x := by
  unfold marks; rw [List.take_add_one, hx, List.foldl_append]; rfl
theorem mark_yes {L : List Pu} {K : List Bool} {x : No} {p : Pu} {q : Nat} (hq : x.slot = q) (hp : L[q]? = some p) (h : x.how = 2 ∨ x.b = p.b) : mark L K x = K.set q true := by
  unfold mark; rw [hq]; simp only [Int.toNat_natCast, hp]; rw [if_pos (by simpa using h)]
theorem mark_no {L : List Pu} {K : List Bool} {x : No} {p : Pu} {q : Nat} (hq : x.slot = q) (hp : L[q]? = some p) (h1 : ¬ x.how = 2) (h2 : ¬ x.b = p.b) : mark L K x = K := by
  unfold mark; rw [hq]; simp only [Int.toNat_natCast, hp]; rw [if_neg (by simp [h1, h2])]
def idx (K : List Bool) (m : Nat) : List Nat := (List.range m).filter fun i => K.getD i false
theorem idx_yes {K : List Bool} {m : Nat} (h : K[m]? = some true) : idx K (m + 1) = idx K m ++ [m] := by
  unfold idx; rw [List.range_succ, List.filter_append]; simp [h]
theorem idx_no {K : List Bool} {m : Nat} (h : K[m]? = some false) : idx K (m + 1) = idx K m := by
  unfold idx; rw [List.range_succ, List.filter_append]; simp [h]
theorem idx_len (K : List Bool) (m : Nat) : (idx K m).length ≤ m := by
  unfold idx
  have := List.length_filter_le (fun i => K.getD i false) (List.range m)
  simpa using this
def knowsErr (L : List Pu) (N : List No) : Int := if pulsesErr L ≠ 0 then pulsesErr L else if 131072 < N.length then 5 else noteErr L.length N
def knowsL (L : List Pu) (N : List No) : List Nat := if knowsErr L N = 0 then idx (marks L N) L.length else []

/-! ### Draws -/
def nx (s : Nat) : Nat := (4906513781625342421 * s + 1181783497276652981) % 18446744073709551616
def ny1 (t : Nat) : Nat := 7809847782465536323 * (t ^^^ t / 4294967296) % 18446744073709551616
def ny (s : Nat) : Nat := ny1 (nx s) ^^^ ny1 (nx s) / 536870912
theorem nx_lt (s : Nat) : nx s < 18446744073709551616 := Nat.mod_lt _ (by omega)
theorem ny1_lt (s : Nat) : ny1 s < 18446744073709551616 := Nat.mod_lt _ (by omega)
theorem ny_lt (s : Nat) : ny s < 18446744073709551616 :=
  Nat.xor_lt_two_pow (n := 64) (ny1_lt _) (Nat.lt_of_le_of_lt (Nat.div_le_self _ _) (ny1_lt _))
def bel (s n : Nat) : Nat := ny s % n
end Go.Proofs.YthdidjnhfkeokaaDoor
