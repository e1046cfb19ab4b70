/- The plain model of rules, of Carry and of Emit. Plain Lean; no program. Arrangements: the plain model of their validity; contracts of part, weights, row, Check of optics. -/
import Derived.Test.YtchhkokpjdkkiaaTopDisclosesa01
import Derived.Test.YtchhkokpjdkkiaaTopDisclosesa03
import Derived.Deep.DeepCutAuto
import Derived.Deep.MidRow
namespace Go.Proofs.Ytchhkokpjdkkiaa

/-! ### Rules -/
def okSpan (r : Ru) : Bool := decide (0 ≤ r.fr ∧ r.fr ≤ r.to ∧ r.to < 4096)
def okRu (r : Ru) : Bool :=
  if r.k = 1 ∨ r.k = 2 then decide (r.fr = 0 ∧ r.to = 0 ∧ r.b = 0 ∧ 0 ≤ r.a ∧ r.a ≤ 256)
  else if r.k = 3 then decide (r.fr = 0 ∧ r.to = 0 ∧ (r.b = 0 ∨ r.b = 1) ∧ r.b ≤ r.a ∧ r.a ≤ 16)
  else if r.k = 4 ∨ r.k = 6 then okSpan r && decide (r.b = 0 ∧ 0 ≤ r.a ∧ r.a ≤ 256)
  else if r.k = 5 then okSpan r && decide (r.a = 0 ∧ r.b = 0)
  else if r.k = 7 then okSpan r && decide (0 ≤ r.a ∧ r.a ≤ 1 ∧ 0 ≤ r.b ∧ r.b ≤ 1)
  else false
def isSh (r : Ru) : Bool := decide (r.k = 3)
def shifts (L : List Ru) : Nat := (L.filter isSh).length
def rulesErr (L : List Ru) : Int := if 32 < L.length then 5 else if L.all okRu then (if 1 < shifts L then 10 else 0) else 2
def shiftOf (L : List Ru) : Int := match L.find? isSh with
  | some r => r.a * (1 - 2 * r.b)
  | none => 0
def shiftErr (L : List Ru) : Int := if rulesErr L = 0 then shiftOf L else 0
theorem shifts_le (L : List Ru) : shifts L ≤ L.length := List.length_filter_le _ _
theorem shifts_snoc {L : List Ru} {k : Nat} {r : Ru} (h : L[k]? = some r) : shifts (L.take (k + 1)) = shifts (L.take k) + if r.k = 3 then 1 else 0 := by
  unfold shifts; rw [List.take_add_one, h, List.filter_append, List.length_append]
  by_cases hr : r.k = 3 <;> simp [isSh, hr]
theorem okRu_kind {r : Ru} (h : okRu r = true) : 1 ≤ r.k ∧ r.k ≤ 7 := by
  unfold okRu at h
  split at h
  · omega
  split at h
  · omega
  split at h
  · omega
  split at h
  · omega
  split at h
  · omega
  · cases h

/-! ### Carry -/
def hit (a : Int) (s : Nat) : Bool := decide ((bel s 256 : Int) < a)
/-- How many of k photons are lost, and the state of the draws. -/
def lossF (a : Int) (s : Nat) : Nat → Nat × Nat
  | 0 => (0, s)
  | k + 1 => ((lossF a s k).1 + (if hit a (lossF a s k).2 then 1 else 0), nx (lossF a s k).2)
theorem lossF_le (a : Int) (s k : Nat) : (lossF a s k).1 ≤ k := by
  induction k with
  | zero => simp [lossF]
  | succ k ih => rw [lossF]; split <;> simp <;> omega
def covers (r : Ru) (i : Nat) : Bool := decide (r.k < 4 ∨ (r.fr ≤ i ∧ (i : Int) ≤ r.to))
/-- What a rule that holds does with the light of slot i: the light, the notes, the state. -/
def actF (r : Ru) (i : Nat) (x : Li) (s : Nat) : Li × List No × Nat :=
  if r.k = 7 then (⟨0, r.a, decide (r.b = 1), true⟩, [⟨i, 3, r.a, decide (r.b = 1)⟩], s)
  else if x.bright then (x, [], s)
  else if r.k = 1 then (⟨x.ph - ((lossF r.a s x.ph.toNat).1 : Nat), x.b, x.bit, false⟩, [], (lossF r.a s x.ph.toNat).2)
  else if r.k = 2 then (if 0 < x.ph then (if hit r.a s then ⟨x.ph, x.b, !x.bit, false⟩ else x, [], nx s) else (x, [], s))
  else if r.k = 6 then (if x.ph = 1 then (if hit r.a s then ⟨0, x.b, x.bit, false⟩ else x, [], nx s) else (x, [], s))
  else if r.k = 5 then (if 2 ≤ x.ph then (⟨x.ph - 1, x.b, x.bit, false⟩, [⟨i, 2, x.b, x.bit⟩], s) else (x, [], s))
  else if r.k = 4 then (if x.ph = 0 then (x, [], s) else if hit r.a s then
      (if (bel (nx s) 2 : Int) = x.b then (⟨1, (bel (nx s) 2 : Int), x.bit, false⟩, [⟨i, 1, (bel (nx s) 2 : Int), x.bit⟩], nx (nx s))
       else (⟨1, (bel (nx s) 2 : Int), decide (bel (nx (nx s)) 2 = 1), false⟩, [⟨i, 1, (bel (nx s) 2 : Int), decide (bel (nx (nx s)) 2 = 1)⟩], nx (nx (nx s))))
    else (x, [], nx s))
  else (x, [], s)
def stepF (i : Nat) (t : Li × List No × Nat) (r : Ru) : Li × List No × Nat :=
  if covers r i then ((actF r i t.1 t.2.2).1, t.2.1 ++ (actF r i t.1 t.2.2).2.1, (actF r i t.1 t.2.2).2.2) else t
def slotF (L : List Ru) (i : Nat) (t : Li × List No × Nat) : Li × List No × Nat := L.foldl (stepF i) t
theorem slotF_snoc {L : List Ru} {k : Nat} {r : Ru} (h : L[k]? = some r) (i : Nat) (t : Li × List No × Nat) : slotF (L.take (k + 1)) i t = stepF i (slotF (L.take k) i t) r := by
  unfold slotF; rw [List.take_add_one, h, List.foldl_append]; rfl
def li0 : Li := ⟨0, 0, false, false⟩
def liOf (p : Pu) : Li := ⟨p.ph, p.b, p.bit, false⟩
def normL (x : Li) : Li := if 0 < x.ph ∨ x.bright = true then x else li0
/-- The light, the notes and the state behind k slots. -/
def carrF (L : List Ru) (P : List Pu) (s : Nat) : Nat → List Li × List No × Nat
  | 0 => ([], [], s)
  | k + 1 => match P[k]? with
    | some p => ((carrF L P s k).1 ++ [normL (slotF L k (liOf p, (carrF L P s k).2)).1], (slotF L k (liOf p, (carrF L P s k).2)).2)
    | none => carrF L P s k
theorem carrF_succ {L : List Ru} {P : List Pu} {s k : Nat} {p : Pu} (h : P[k]? = some p) : carrF L P s (k + 1) = ((carrF L P s k).1 ++ [normL (slotF L k (liOf p, (carrF L P s k).2)).1], (slotF L k (liOf p, (carrF L P s k).2)).2) := by
  rw [carrF, h]
theorem carrF_len (L : List Ru) (P : List Pu) (s : Nat) : ∀ k, k ≤ P.length → (carrF L P s k).1.length = k
  | 0, _ => rfl
  | k + 1, h => by
    have hk : k < P.length := h
    rw [carrF_succ (List.getElem?_eq_getElem hk), List.length_append, carrF_len L P s k (by omega)]; rfl
theorem actF_notes (r : Ru) (i : Nat) (x : Li) (s : Nat) : (actF r i x s).2.1.length ≤ 1 := by
  unfold actF; (repeat' split) <;> simp
theorem stepF_notes (i : Nat) (t : Li × List No × Nat) (r : Ru) : (stepF i t r).2.1.length ≤ t.2.1.length + 1 := by
  have := actF_notes r i t.1 t.2.2
  unfold stepF; split
  · simp; omega
  · omega
theorem slotF_notes (i : Nat) : ∀ (L : List Ru) (t : Li × List No × Nat), (slotF L i t).2.1.length ≤ t.2.1.length + L.length
  | [], t => by simp [slotF]
  | r :: L, t => by
    have h1 := slotF_notes i L (stepF i t r)
    have h2 := stepF_notes i t r
    show (slotF L i (stepF i t r)).2.1.length ≤ _
    rw [List.length_cons]; omega
theorem carrF_notes (L : List Ru) (P : List Pu) (s : Nat) : ∀ k, (carrF L P s k).2.1.length ≤ k * L.length
  | 0 => by simp [carrF]
  | k + 1 => by
    have ih := carrF_notes L P s k
    rw [carrF]
    rw [Nat.add_mul, Nat.one_mul]
    split
    · rename_i p _
      have := slotF_notes k L (liOf p, (carrF L P s k).2)
      simp only at this ⊢; omega
    · omega
/-- Light of at most three photons. -/
def okPh (x : Li) : Prop := 0 ≤ x.ph ∧ x.ph ≤ 3
theorem actF_ph {r : Ru} {i : Nat} {x : Li} {s : Nat} (h : okPh x) : okPh (actF r i x s).1 := by
  have hl := lossF_le r.a s x.ph.toNat
  unfold okPh at *
  unfold actF; (repeat' split) <;> simp only <;> omega
theorem stepF_ph {i : Nat} {t : Li × List No × Nat} {r : Ru} (h : okPh t.1) : okPh (stepF i t r).1 := by
  unfold stepF; split
  · exact actF_ph h
  · exact h
theorem slotF_ph (i : Nat) : ∀ (L : List Ru) (t : Li × List No × Nat), okPh t.1 → okPh (slotF L i t).1
  | [], _, h => h
  | r :: L, t, h => slotF_ph i L (stepF i t r) (stepF_ph h)
def carryErr (L : List Ru) (P : List Pu) : Int := if rulesErr L = 0 then pulsesErr P else rulesErr L
def carryX (L : List Ru) (P : List Pu) (s : Nat) : List Li := if carryErr L P = 0 then (carrF L P s P.length).1 else []
def carryN (L : List Ru) (P : List Pu) (s : Nat) : List No := if carryErr L P = 0 then (carrF L P s P.length).2.1 else []

/-! ### Emit -/
def sumK (ws : List Int) (i : Nat) : Int := (ws.take i).sum
theorem sumK_succ {ws : List Int} {i : Nat} {x : Int} (h : ws[i]? = some x) : sumK ws (i + 1) = sumK ws i + x := by
  unfold sumK; rw [List.take_add_one, h, List.sum_append]; simp
def wgt (ws : List Int) (k : Int) : Nat := ((List.range ws.length).find? fun i => decide (k < sumK ws (i + 1))).getD (ws.length - 1)
theorem wgt_at {ws : List Int} {k : Int} {i : Nat} (hi : i < ws.length) (hb : ∀ j, j < i → ¬ k < sumK ws (j + 1)) (h : k < sumK ws (i + 1)) : wgt ws k = i := by
  unfold wgt
  have : (List.range ws.length).find? (fun i => decide (k < sumK ws (i + 1))) = some i := by
    rw [List.find?_range_eq_some]
    exact ⟨by simpa using h, by simpa using hi, fun j hj => by simpa using hb j hj⟩
  rw [this]; rfl
theorem wgt_none {ws : List Int} {k : Int} (hb : ∀ j, j < ws.length → ¬ k < sumK ws (j + 1)) : wgt ws k = ws.length - 1 := by
  unfold wgt
  have : (List.range ws.length).find? (fun i => decide (k < sumK ws (i + 1))) = none := by
    rw [List.find?_range_eq_none]; intro j hj; simpa using hb j hj
  rw [this]; rfl
theorem wgt_lt {ws : List Int} (k : Int) (h : 0 < ws.length) : wgt ws k < ws.length := by
  unfold wgt
  cases hf : (List.range ws.length).find? (fun i => decide (k < sumK ws (i + 1))) with
  | none => simp; omega
  | some i => have := List.mem_of_find?_eq_some hf; simpa using this
def rowOf (f : Nat → Int) (c : Nat) : List Int := [f (4 + 4 * c), f (5 + 4 * c), f (6 + 4 * c), f (7 + 4 * c)]
def clsOf (f : Nat → Int) : List Int := [f 1, f 2, f 3]
/-- Whether one of k photons is seen, and the state. -/
def seenF (eta : Int) (s : Nat) : Nat → Bool × Nat
  | 0 => (false, s)
  | k + 1 => ((seenF eta s k).1 || hit eta (seenF eta s k).2, nx (seenF eta s k).2)
def clsF (f : Nat → Int) (s : Nat) : Nat × Nat := if f 0 = 1 then (wgt (clsOf f) (bel s 256), nx s) else (2, s)
def phF (f : Nat → Int) (c : Nat) (s : Nat) : Nat := wgt (rowOf f c) (bel s 256)
/-- A pulse, and the state behind it. -/
def pulF (f : Nat → Int) (s : Nat) : Pu × Nat :=
  (⟨(bel s 2 : Nat), decide (bel (nx s) 2 = 1), ((clsF f (nx (nx s))).1 : Nat), (phF f (clsF f (nx (nx s))).1 (clsF f (nx (nx s))).2 : Nat),
     if f 0 = 2 then (seenF (f 16) (nx (clsF f (nx (nx s))).2) (phF f (clsF f (nx (nx s))).1 (clsF f (nx (nx s))).2)).1 else true⟩,
   if f 0 = 2 then (seenF (f 16) (nx (clsF f (nx (nx s))).2) (phF f (clsF f (nx (nx s))).1 (clsF f (nx (nx s))).2)).2 else nx (clsF f (nx (nx s))).2)
def emiF (f : Nat → Int) (s : Nat) : Nat → List Pu × Nat
  | 0 => ([], s)
  | k + 1 => ((emiF f s k).1 ++ [(pulF f (emiF f s k).2).1], (pulF f (emiF f s k).2).2)
theorem emiF_len (f : Nat → Int) (s k : Nat) : (emiF f s k).1.length = k := by
  induction k with
  | zero => rfl
  | succ k ih => simp [emiF, ih]
theorem clsF_lt (f : Nat → Int) (s : Nat) : (clsF f s).1 ≤ 2 := by
  unfold clsF; split
  · have := wgt_lt (ws := clsOf f) (bel s 256) (by simp [clsOf]); simp [clsOf] at this; simp [clsOf]; omega
  · simp
theorem phF_lt (f : Nat → Int) (c s : Nat) : phF f c s ≤ 3 := by
  unfold phF
  have := wgt_lt (ws := rowOf f c) (bel s 256) (by simp [rowOf]); simp [rowOf] at this; simp [rowOf]; omega
theorem pulF_ok (f : Nat → Int) (s : Nat) : okPu (pulF f s).1 = true := by
  have h1 := Nat.mod_lt (ny s) (show 0 < 2 by omega)
  have h2 := clsF_lt f (nx (nx s))
  have h3 := phF_lt f (clsF f (nx (nx s))).1 (clsF f (nx (nx s))).2
  unfold okPu pulF
  simp only [decide_eq_true_eq]
  unfold bel
  omega
theorem emiF_ok (f : Nat → Int) (s k : Nat) : (emiF f s k).1.all okPu = true := by
  induction k with
  | zero => rfl
  | succ k ih => rw [emiF, List.all_append, ih]; simp [pulF_ok]
end Go.Proofs.Ytchhkokpjdkkiaa

namespace Go.Proofs.Ytchhkokpjdkkiaa
open Go.RowKit

/-- An arrangement's 18 numbers, in memory's order. -/
def cells18 (f : Nat → Int) : Array Value := #[.int .i64 (f 0), .int .i64 (f 1), .int .i64 (f 2), .int .i64 (f 3), .int .i64 (f 4), .int .i64 (f 5), .int .i64 (f 6), .int .i64 (f 7), .int .i64 (f 8), .int .i64 (f 9), .int .i64 (f 10), .int .i64 (f 11), .int .i64 (f 12), .int .i64 (f 13), .int .i64 (f 14), .int .i64 (f 15), .int .i64 (f 16), .int .i64 (f 17)]
theorem cells18_get (f : Nat → Int) {j : Nat} (hj : j < 18) : (cells18 f)[j]? = some (.int .i64 (f j)) := by
  match j, hj with
  | 0, _ | 1, _ | 2, _ | 3, _ | 4, _ | 5, _ | 6, _ | 7, _ | 8, _ | 9, _ | 10, _ | 11, _ | 12, _ | 13, _ | 14, _ | 15, _ | 16, _ | 17, _ => rfl
  | j + 18, h => omega
theorem cells18_one (f : Nat → Int) : (cells18 f).all (·.oneCell') = true := by simp [cells18, Value.oneCell']
def part (n : Int) : Bool := decide (0 ≤ n ∧ n ≤ 256)
def wts (l : List Int) : Bool := l.all part && decide (l.sum = 256)
def rowL (f : Nat → Int) (i : Nat) : List Int := [f (4 + 4 * i), f (5 + 4 * i), f (6 + 4 * i), f (7 + 4 * i)]
def rowsOk (f : Nat → Int) (k : Nat) : Bool := (List.range k).all fun i => wts (rowL f i)
def okA (f : Nat → Int) : Bool := decide (0 ≤ f 0 ∧ f 0 ≤ 2) && wts [f 1, f 2, f 3] && part (f 16) && part (f 17)
def okB (f : Nat → Int) : Bool := decide (f 4 = 256 ∧ f 5 = 0 ∧ f 6 = 0 ∧ f 7 = 0)
def okC (f : Nat → Int) : Bool := decide (f 0 = 1) || decide ((f 1 = 0 ∧ f 2 = 0 ∧ f 3 = 256) ∧ f 8 = 256 ∧ f 9 = 0 ∧ f 10 = 0 ∧ f 11 = 0)
/-- The arrangement is valid. -/
def okO (f : Nat → Int) : Bool := okA f && rowsOk f 3 && okB f && okC f
def checkErr (f : Nat → Int) : Int := if okO f then 0 else 2
theorem rowsOk_succ (f : Nat → Int) (k : Nat) : rowsOk f (k + 1) = (rowsOk f k && wts (rowL f k)) := by
  unfold rowsOk; rw [List.range_succ, List.all_append]; simp

theorem Rd.ofBlk {w : World} {g off n : Nat} {t : TypeId} {cs : Array Value} {L : List Int} (h : Blk w g t cs) (hl : L.length = n) (hn : n ≤ 9223372036854775807) (hc : ∀ (i : Nat) (x : Int), L[i]? = some x → cs[off + i]? = some (.int .i64 x)) : Rd eInt w w.heap.size (some ⟨g, off, none⟩) n n L :=
  ⟨hl, Nat.le_refl _, hn, fun _ => ⟨g, off, rfl, h.lt, fun i x hx j v hv => by
    have hj : j = 0 := by have := Enc.cell_lt hv; simp [eInt] at this; omega
    subst hj
    have hv' : Value.int .i64 x = v := by simpa [eInt] using hv
    subst hv'
    rw [show off + i * eInt.nf + 0 = off + i by simp [eInt], h.cell]
    exact hc i x hx⟩⟩

set_option maxRecDepth 100000 in
set_option maxHeartbeats 1600000 in
theorem part_c (n : Int) (w : World) : Calls Try.prog 63 #[.int .i64 n] w fun e w' => e = .returned (.bool (part n)) ∧ w = w' := by
  go_enter Try.func63, Try.ntmps63
  go_wp2
  all_goals
    go_ret
    refine ⟨ret_b ?_, rfl⟩
    unfold part
    first | (simp; done) | (simp; omega) | (rw [Bool.eq_iff_iff]; simp; done) | (rw [Bool.eq_iff_iff]; simp; omega)
theorem part_iff (n : Int) : part n = true ↔ 0 ≤ n ∧ n ≤ 256 := by unfold part; simp
theorem sum_take_succ {L : List Int} {k : Nat} {x : Int} (h : L[k]? = some x) : (L.take (k + 1)).sum = (L.take k).sum + x := by
  rw [List.take_add_one, h, List.sum_append]; simp
theorem sum_bd {L : List Int} (h : L.all part = true) : 0 ≤ L.sum ∧ L.sum ≤ 256 * L.length := by
  induction L with
  | nil => simp
  | cons x L ih =>
    simp only [List.all_cons, Bool.and_eq_true] at h
    have h1 := (part_iff x).1 h.1
    have h2 := ih h.2
    simp only [List.sum_cons, List.length_cons]
    omega

set_option maxRecDepth 100000 in
set_option maxHeartbeats 1600000 in
theorem weights_c (A : Option Addr) (n c : Nat) (L : List Int) (w : World) (B : Nat) (s : Rd eInt w B A n c L) (hn : n ≤ 1000) :
    Calls Try.prog 62 #[.slice A n c] w fun e w' => e = .returned (.bool (wts L)) ∧ w = w' := by
  have hl := s.len
  have hm := s.max
  have hcap := s.cap
  have HL := hide hl
  clear hl
  go_enter Try.func62, Try.ntmps62
  go_wp2
  go_loop [3, 8] (fun sv iv => ∃ k : Nat, k ≤ n ∧ iv = .int .i64 k ∧ sv = .int .i64 (L.take k).sum ∧ (L.take k).all part = true) (fun _ iv => n - (intOf iv).toNat)
  case atStart => exact ⟨0, by omega, rfl, by simp, by simp⟩
  case round =>
    obtain ⟨k, hk, rfl, rfl, hall⟩ := hrel
    have hbd := sum_bd hall
    rw [List.length_take] at hbd
    have HA := hide hall
    clear hall
    by_cases hlt : k < n
    · obtain ⟨b, off, x, rfl, hb, hx, hc⟩ := s.get hlt
      have c0 := hc 0 _ rfl
      simp only [eInt, Nat.add_zero, Nat.mul_one] at c0
      have HX := hide hx
      clear hc hx
      have hpc := part_c x
      obtain ⟨s0, hs0⟩ : ∃ s0, s0 = (L.take k).sum := ⟨_, rfl⟩
      rw [← hs0] at hbd ⊢
      have HS := hide hs0
      clear hs0
      have b1 : 0 ≤ s0 := by omega
      have b2 : s0 ≤ 256000 := by omega
      clear hbd
      by_cases hp : part x = true
      · have hpx := (part_iff x).1 hp
        obtain ⟨p1, p2⟩ := hpx
        rw [hp] at hpc
        have HP := hide hpc
        have HO := hide hp
        clear hpc hp
        go_wp2_with (go_at_call 63; refine (HP.out _).mono ?_; rintro e w' ⟨rfl, rfl⟩)
        go_round
        case rel => exact ⟨k + 1, by omega, by go_num, by rw [sum_take_succ HX.out, ← HS.out], all_take_succ HA.out HX.out HO.out⟩
        case measure => simp [intOf] <;> omega
      · have hp : part x = false := by simpa using hp
        rw [hp] at hpc
        have HP := hide hpc
        have HO := hide hp
        clear hpc hp
        go_wp2_with (go_at_call 63; refine (HP.out _).mono ?_; rintro e w' ⟨rfl, rfl⟩)
        go_ret
        refine ⟨ret_b ?_, rfl⟩
        unfold wts; rw [all_false HX.out HO.out]; rfl
    · have hall := all_whole HA.out HL.out hlt
      have hke : L.take k = L := List.take_of_length_le (by have := HL.out; omega)
      rw [hke]
      go_wp2
      go_ret
      refine ⟨ret_b ?_, rfl⟩
      unfold wts; rw [hall]; simp
      rw [Bool.eq_iff_iff]; simp

theorem cls_rd {w : World} {g : Nat} {t : TypeId} {f : Nat → Int} (h : Blk w g t (cells18 f)) : Rd eInt w w.heap.size (some ⟨g, 1, none⟩) 3 3 [f 1, f 2, f 3] :=
  Rd.ofBlk h rfl (by omega) fun i x hx => by
    match i, hx with
    | 0, hx | 1, hx | 2, hx => simp at hx; subst hx; exact cells18_get f (by omega)
    | i + 3, hx => simp at hx
theorem row_rd {w : World} {g : Nat} {t : TypeId} {f : Nat → Int} {k : Nat} (h : Blk w g t #[.int .i64 (f (4 + 4 * k)), .int .i64 (f (5 + 4 * k)), .int .i64 (f (6 + 4 * k)), .int .i64 (f (7 + 4 * k))]) : Rd eInt w w.heap.size (some ⟨g, 0, none⟩) 4 4 (rowL f k) :=
  Rd.ofBlk h rfl (by omega) fun i x hx => by
    match i, hx with
    | 0, hx | 1, hx | 2, hx | 3, hx => simp [rowL] at hx; subst hx; rfl
    | i + 4, hx => simp [rowL] at hx
theorem row_rd2 {w : World} {g : Nat} {t : TypeId} {f : Nat → Int} {k : Nat} (hk : k < 3) (h : Blk w g t (cells18 f)) : Rd eInt w w.heap.size (some ⟨g, 4 + 4 * k, none⟩) 4 4 (rowL f k) :=
  Rd.ofBlk h rfl (by omega) fun i x hx => by
    match i, hx with
    | 0, hx | 1, hx | 2, hx | 3, hx => simp [rowL] at hx; subst hx; rw [cells18_get f (by omega)]; congr 3 <;> omega
    | i + 4, hx => simp [rowL] at hx

set_option maxRecDepth 100000 in
set_option maxHeartbeats 6400000 in
theorem check_c (f : Nat → Int) (w : World) : Calls Try.prog 34 #[.agg (cells18 f)] w fun e w' => e = .returned (.int .i64 (checkErr f)) ∧ Below w.heap.size w w' := by
  unfold cells18
  go_enter Try.func34, Try.ntmps34
  go_upto_region 2 with fail
  have hO := (Blk.newAt w 57 (cells18 f) w.heap.size rfl).alloc (.cells #[.int .i64 256, .int .i64 0, .int .i64 0, .int .i64 0] 54)
  have hD := Blk.newAt (w.alloc (.cells (cells18 f) 57)) 54 #[.int .i64 256, .int .i64 0, .int .i64 0, .int .i64 0] (w.heap.size + 1) (by simp)
  have hb := below_on (below_alloc w (.cells (cells18 f) 57)) (below_alloc _ (.cells #[.int .i64 256, .int .i64 0, .int .i64 0, .int .i64 0] 54))
  unfold cells18 at hO hD hb
  obtain ⟨W, hW⟩ : ∃ W, W = (w.alloc (.cells #[.int .i64 (f 0), .int .i64 (f 1), .int .i64 (f 2), .int .i64 (f 3), .int .i64 (f 4), .int .i64 (f 5), .int .i64 (f 6), .int .i64 (f 7), .int .i64 (f 8), .int .i64 (f 9), .int .i64 (f 10), .int .i64 (f 11), .int .i64 (f 12), .int .i64 (f 13), .int .i64 (f 14), .int .i64 (f 15), .int .i64 (f 16), .int .i64 (f 17)] 57)).alloc (.cells #[.int .i64 256, .int .i64 0, .int .i64 0, .int .i64 0] 54) := ⟨_, rfl⟩
  rw [← hW] at hO hD hb ⊢
  clear hW
  have c0 := hO.cell 0
  have c16 := hO.cell 16
  have c17 := hO.cell 17
  simp at c0 c16 c17
  go_cut [4] (fun s4 wx => s4 = .bool (okA f) ∧ wx = W)
  case first =>
    go_wp2_with (first | (go_at_call 62; refine (weights_c _ _ _ _ W _ (cls_rd hO) (by omega)).mono ?_; rintro e w' ⟨rfl, rfl⟩) | (go_at_call 63; refine (part_c _ _).mono ?_; rintro e w' ⟨rfl, rfl⟩))
    all_goals
      go_meet
      refine ⟨congrArg Value.bool ?_, rfl⟩
      unfold okA
      first | (simp [*]; done) | (simp; omega)
  case rest =>
    obtain ⟨rfl, rfl⟩ := hcut
    clear c0 c16 c17
    have hr : wc.rangeAt w.heap.size 4 [.int .i64 (f 4), .int .i64 (f 5), .int .i64 (f 6), .int .i64 (f 7), .int .i64 (f 8), .int .i64 (f 9), .int .i64 (f 10), .int .i64 (f 11), .int .i64 (f 12), .int .i64 (f 13), .int .i64 (f 14), .int .i64 (f 15)] := by have h := World.rangeAt_of_block hO 4 12; simpa using h
    have i0 : ∀ W, (Instr.index 55 (.agg #[.int .i64 (f 4), .int .i64 (f 5), .int .i64 (f 6), .int .i64 (f 7), .int .i64 (f 8), .int .i64 (f 9), .int .i64 (f 10), .int .i64 (f 11), .int .i64 (f 12), .int .i64 (f 13), .int .i64 (f 14), .int .i64 (f 15)]) (.int .i64 0)).run Try.prog W = .ok (.agg #[.int .i64 (f 4), .int .i64 (f 5), .int .i64 (f 6), .int .i64 (f 7)]) W := fun _ => by kernel_rfl
    have i1 : ∀ W, (Instr.index 55 (.agg #[.int .i64 (f 4), .int .i64 (f 5), .int .i64 (f 6), .int .i64 (f 7), .int .i64 (f 8), .int .i64 (f 9), .int .i64 (f 10), .int .i64 (f 11), .int .i64 (f 12), .int .i64 (f 13), .int .i64 (f 14), .int .i64 (f 15)]) (.int .i64 1)).run Try.prog W = .ok (.agg #[.int .i64 (f 8), .int .i64 (f 9), .int .i64 (f 10), .int .i64 (f 11)]) W := fun _ => by kernel_rfl
    have i2 : ∀ W, (Instr.index 55 (.agg #[.int .i64 (f 4), .int .i64 (f 5), .int .i64 (f 6), .int .i64 (f 7), .int .i64 (f 8), .int .i64 (f 9), .int .i64 (f 10), .int .i64 (f 11), .int .i64 (f 12), .int .i64 (f 13), .int .i64 (f 14), .int .i64 (f 15)]) (.int .i64 2)).run Try.prog W = .ok (.agg #[.int .i64 (f 12), .int .i64 (f 13), .int .i64 (f 14), .int .i64 (f 15)]) W := fun _ => by kernel_rfl
    go_wp2_with (refine wpList_load_mid (op := ⟨some 32, _, _, _, _, _⟩) rfl 55 _ rfl w.heap.size 4 rfl _ _ hr Try.underlying55 rfl (by kernel_rfl) ?_)
    go_loopw [33, 4] (fun iv bv wr => ∃ k : Nat, k ≤ 3 ∧ iv = .int .i64 k ∧ bv = .bool (okA f && rowsOk f k) ∧ Blk wr w.heap.size 57 (cells18 f) ∧ Blk wr (w.heap.size + 1) 54 #[.int .i64 256, .int .i64 0, .int .i64 0, .int .i64 0] ∧ Below w.heap.size w wr) (fun iv _ _ => 3 - (intOf iv).toNat)
    case atStart => exact ⟨0, by omega, rfl, by simp [rowsOk], hO, hD, hb⟩
    case round =>
      clear hO hD hb hr
      obtain ⟨k, hk, rfl, rfl, hO, hD, hbw⟩ := hrel
      obtain ⟨bb, HB⟩ : ∃ bb, Hid ((okA f && rowsOk f k) = bb) := ⟨_, rfl⟩
      rw [HB.out]
      by_cases hlt : k < 3
      · have hk3 : k = 0 ∨ k = 1 ∨ k = 2 := by omega
        rcases hk3 with rfl | rfl | rfl
        · -- row 0
          cases bb
          · go_wp2
            go_roundw
            case rel => exact ⟨1, by omega, by go_num, by rw [rowsOk_succ, ← Bool.and_assoc, HB.out]; rfl, hO.alloc _, hD.alloc _, hbw.alloc hbw.size _⟩
            case measure => simp [intOf] <;> omega
          · have hr := row_rd (k := 0) (Blk.new wr 54 #[.int .i64 (f 4), .int .i64 (f 5), .int .i64 (f 6), .int .i64 (f 7)])
            go_wp2_with (go_at_call 62; refine (weights_c _ _ _ _ _ _ hr (by omega)).mono ?_; rintro e w' ⟨rfl, rfl⟩)
            go_roundw
            case rel => exact ⟨1, by omega, by go_num, by rw [rowsOk_succ, ← Bool.and_assoc, HB.out]; rfl, hO.alloc _, hD.alloc _, hbw.alloc hbw.size _⟩
            case measure => simp [intOf] <;> omega
        · -- row 1
          cases bb
          · go_wp2
            go_roundw
            case rel => exact ⟨2, by omega, by go_num, by rw [rowsOk_succ, ← Bool.and_assoc, HB.out]; rfl, hO.alloc _, hD.alloc _, hbw.alloc hbw.size _⟩
            case measure => simp [intOf] <;> omega
          · have hr := row_rd (k := 1) (Blk.new wr 54 #[.int .i64 (f 8), .int .i64 (f 9), .int .i64 (f 10), .int .i64 (f 11)])
            go_wp2_with (go_at_call 62; refine (weights_c _ _ _ _ _ _ hr (by omega)).mono ?_; rintro e w' ⟨rfl, rfl⟩)
            go_roundw
            case rel => exact ⟨2, by omega, by go_num, by rw [rowsOk_succ, ← Bool.and_assoc, HB.out]; rfl, hO.alloc _, hD.alloc _, hbw.alloc hbw.size _⟩
            case measure => simp [intOf] <;> omega
        · -- row 2
          cases bb
          · go_wp2
            go_roundw
            case rel => exact ⟨3, by omega, by go_num, by rw [rowsOk_succ, ← Bool.and_assoc, HB.out]; rfl, hO.alloc _, hD.alloc _, hbw.alloc hbw.size _⟩
            case measure => simp [intOf] <;> omega
          · have hr := row_rd (k := 2) (Blk.new wr 54 #[.int .i64 (f 12), .int .i64 (f 13), .int .i64 (f 14), .int .i64 (f 15)])
            go_wp2_with (go_at_call 62; refine (weights_c _ _ _ _ _ _ hr (by omega)).mono ?_; rintro e w' ⟨rfl, rfl⟩)
            go_roundw
            case rel => exact ⟨3, by omega, by go_num, by rw [rowsOk_succ, ← Bool.and_assoc, HB.out]; rfl, hO.alloc _, hD.alloc _, hbw.alloc hbw.size _⟩
            case measure => simp [intOf] <;> omega
      · obtain rfl : k = 3 := by omega
        unfold cells18 at hO
        clear i0 i1 i2
        have c0 := hO.cell 0
        have c1 := hO.cell 1
        have c2 := hO.cell 2
        have c3 := hO.cell 3
        have c4 := hO.cell 4
        have c5 := hO.cell 5
        have c6 := hO.cell 6
        have c7 := hO.cell 7
        have c8 := hO.cell 8
        have c9 := hO.cell 9
        have c10 := hO.cell 10
        have c11 := hO.cell 11
        have d0 := hD.cell 0
        have d1 := hD.cell 1
        have d2 := hD.cell 2
        have d3 := hD.cell 3
        simp at c0 c1 c2 c3 c4 c5 c6 c7 c8 c9 c10 c11 d0 d1 d2 d3
        clear hO hD
        cases bb
        · by_cases h1 : f 0 = 1
          · have hd : (f 0 != 1) = false := by simpa using h1
            have H1 := hide h1
            clear h1
            go_wp2
            go_ret
            exact ⟨ret_i (by unfold checkErr okO; rw [HB.out]; rfl), hbw⟩
          · have hd : (f 0 != 1) = true := by simpa using h1
            have H1 := hide h1
            clear h1
            go_wp2
            go_ret
            exact ⟨ret_i (by unfold checkErr okO; rw [HB.out]; rfl), hbw⟩
        · have e4 := eql4 (f 4) (f 5) (f 6) (f 7) 256 0 0 0
          have e8 := eql4 (f 8) (f 9) (f 10) (f 11) 256 0 0 0
          have e3 := eql3 (f 1) (f 2) (f 3) 0 0 256
          obtain ⟨b4, HB4⟩ : ∃ b4, Hid (decide (f 4 = 256 ∧ f 5 = 0 ∧ f 6 = 0 ∧ f 7 = 0) = b4) := ⟨_, rfl⟩
          obtain ⟨b3, HB3⟩ : ∃ b3, Hid (decide (f 1 = 0 ∧ f 2 = 0 ∧ f 3 = 256) = b3) := ⟨_, rfl⟩
          obtain ⟨b8, HB8⟩ : ∃ b8, Hid (decide (f 8 = 256 ∧ f 9 = 0 ∧ f 10 = 0 ∧ f 11 = 0) = b8) := ⟨_, rfl⟩
          rw [HB4.out] at e4
          rw [HB3.out] at e3
          rw [HB8.out] at e8
          by_cases h1 : f 0 = 1
          · have hd : (f 0 != 1) = false := by simpa using h1
            have hC : okC f = true := by unfold okC; rw [decide_eq_true h1]; rfl
            have HC := hide hC
            clear h1 hC
            cases b4
            · go_wp2
              go_ret
              exact ⟨ret_i (by unfold checkErr okO okB; rw [HB.out, HB4.out]; rfl), hbw⟩
            · go_wp2
              go_ret
              exact ⟨ret_i (by unfold checkErr okO okB; rw [HB.out, HB4.out, HC.out]; rfl), hbw⟩
          · have hd : (f 0 != 1) = true := by simpa using h1
            have hC : okC f = (b3 && b8) := by unfold okC; rw [decide_eq_false h1, ← HB3.out, ← HB8.out, Bool.false_or, Bool.decide_and]
            have HC := hide hC
            clear h1 hC
            cases b4
            · go_wp2
              go_ret
              exact ⟨ret_i (by unfold checkErr okO okB; rw [HB.out, HB4.out]; rfl), hbw⟩
            · cases b3
              · go_wp2
                go_ret
                exact ⟨ret_i (by unfold checkErr okO okB; rw [HB.out, HB4.out, HC.out]; rfl), hbw⟩
              · cases b8
                · go_wp2
                  go_ret
                  exact ⟨ret_i (by unfold checkErr okO okB; rw [HB.out, HB4.out, HC.out]; rfl), hbw⟩
                · go_wp2
                  go_ret
                  exact ⟨ret_i (by unfold checkErr okO okB; rw [HB.out, HB4.out, HC.out]; rfl), hbw⟩
end Go.Proofs.Ytchhkokpjdkkiaa
