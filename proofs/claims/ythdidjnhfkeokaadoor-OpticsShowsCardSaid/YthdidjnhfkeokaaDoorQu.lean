/- The plain model of Detect; a store of two cells. -/
import Derived.Test.YthdidjnhfkeokaaDoorQr
import Derived.Test.YthdidjnhfkeokaaDoorQt
namespace Go.Proofs.YthdidjnhfkeokaaDoor
open Go.RowKit

def okLi (x : Li) : Bool := decide (0 ≤ x.b ∧ x.b ≤ 1 ∧ 0 ≤ x.ph ∧ x.ph ≤ 3)
def liZ : Li := ⟨0, 0, false, false⟩
/-- What light is in slot i behind a shift. -/
def ltAt (L : List Li) (sh : Int) (i : Nat) : Li := if 0 ≤ (i : Int) - sh then (L[((i : Int) - sh).toNat]?).getD liZ else liZ
def dets (eta dark sh : Int) (L : List Li) (s : Nat) : Nat → List Ck × Nat
  | 0 => ([], s)
  | k + 1 => ((dets eta dark sh L s k).1 ++ [(detF eta dark (ltAt L sh k) (dets eta dark sh L s k).2).1], (detF eta dark (ltAt L sh k) (dets eta dark sh L s k).2).2)
theorem dets_len (eta dark sh : Int) (L : List Li) (s k : Nat) : (dets eta dark sh L s k).1.length = k := by
  induction k with
  | zero => rfl
  | succ k ih => simp [dets, ih]
def detErr (f : Nat → Int) (sh : Int) (L : List Li) : Int :=
  if checkErr f ≠ 0 then checkErr f else if ¬ (-16 ≤ sh ∧ sh ≤ 16) then 3 else if 4096 < L.length then 5 else if L.all okLi then 0 else 2
def detL (f : Nat → Int) (sh : Int) (L : List Li) (s : Nat) : List Ck := if detErr f sh L = 0 then (dets (f 16) (f 17) sh L s L.length).1 else []
def SDet (f : Nat → Int) (sh : Int) (L : List Li) (s : Nat) (w : World) (e : Ending) (w' : World) : Prop :=
  ∃ A n c, e = .returned (.tuple #[.slice A n c, .int .i64 (detErr f sh L)]) ∧ Rd eCk w' w'.heap.size A n c (detL f sh L s) ∧ Below w.heap.size w w'
theorem SDet.err {f : Nat → Int} {sh : Int} {L : List Li} {s : Nat} {w w' : World} {x : Int} (h : detErr f sh L = x) (hx : x ≠ 0) (hb : Below w.heap.size w w') :
    SDet f sh L s w (.returned (.tuple #[.slice none 0 0, .int .i64 x])) w' := by
  refine ⟨none, 0, 0, by rw [h], ?_, hb⟩
  unfold detL; rw [if_neg (by omega)]; exact Rd.nil _ _ _ _ (by omega)
theorem SDet.ok {f : Nat → Int} {sh : Int} {L : List Li} {s : Nat} {w w' : World} {A : Option Addr} {n c : Nat} {K : List Ck} (h : detErr f sh L = 0) (hb : Below w.heap.size w w') (hK : K = (dets (f 16) (f 17) sh L s L.length).1) (hr : Rd eCk w' w'.heap.size A n c K) :
    SDet f sh L s w (.returned (.tuple #[.slice A n c, .int .i64 0])) w' := by
  refine ⟨A, n, c, by rw [h], ?_, hb⟩
  unfold detL; rw [if_pos h, ← hK]; exact hr
theorem checkErr_two {f : Nat → Int} (h : checkErr f ≠ 0) : checkErr f = 2 := by
  unfold checkErr at *; split at h
  · exact absurd rfl h
  · rename_i hn; rw [if_neg hn]
theorem detErr_check {f : Nat → Int} {sh : Int} {L : List Li} (h : checkErr f = 2) : detErr f sh L = 2 := by unfold detErr; rw [h]; rfl
theorem detErr_shift {f : Nat → Int} {sh : Int} {L : List Li} (h : checkErr f = 0) (hs : ¬ (-16 ≤ sh ∧ sh ≤ 16)) : detErr f sh L = 3 := by unfold detErr; rw [if_neg (by omega), if_pos hs]
theorem detErr_long {f : Nat → Int} {sh : Int} {L : List Li} (h : checkErr f = 0) (hs : -16 ≤ sh ∧ sh ≤ 16) (hl : 4096 < L.length) : detErr f sh L = 5 := by unfold detErr; rw [if_neg (by omega), if_neg (by omega), if_pos hl]
theorem detErr_all {f : Nat → Int} {sh : Int} {L : List Li} (h : checkErr f = 0) (hs : -16 ≤ sh ∧ sh ≤ 16) (hl : ¬ 4096 < L.length) : detErr f sh L = if L.all okLi then 0 else 2 := by unfold detErr; rw [if_neg (by omega), if_neg (by omega), if_neg hl]
theorem okLi_iff (x : Li) : okLi x = true ↔ (0 ≤ x.b ∧ x.b ≤ 1 ∧ 0 ≤ x.ph ∧ x.ph ≤ 3) := by unfold okLi; simp
theorem ltAt_in {L : List Li} {sh : Int} {i j : Nat} {x : Li} (hj : (i : Int) - sh = j) (hx : L[j]? = some x) : ltAt L sh i = x := by
  unfold ltAt; rw [if_pos (by omega), hj, Int.toNat_natCast, hx]; rfl
theorem ltAt_neg {L : List Li} {sh : Int} {i : Nat} (h : (i : Int) - sh < 0) : ltAt L sh i = liZ := by unfold ltAt; rw [if_neg (by omega)]
theorem ltAt_over {L : List Li} {sh : Int} {i : Nat} (h : (L.length : Int) ≤ (i : Int) - sh) : ltAt L sh i = liZ := by
  unfold ltAt; split
  · rw [List.getElem?_eq_none (by omega)]; rfl
  · rfl
theorem info_ck : (Tryd.prog.info? 95).map (fun i => (i.zero, i.size, i.bytes)) = some (some (.agg #[.int .i64 0, .int .i64 0]), 2, 16) := by kernel_rfl

theorem set2 {α : Type} (a b : α) : ∀ (l : List α) (j : Nat), j + 1 < l.length → (l.set j a).set (j + 1) b = l.take j ++ [a, b] ++ l.drop (j + 2)
  | [], j, h => by simp at h
  | [_], j, h => by simp at h
  | x :: y :: l, 0, h => by simp
  | x :: y :: l, j + 1, h => by
    have ih := set2 a b (y :: l) j (by simpa using h)
    simpa using ih
theorem Ow.store2 {α : Type} {e : Enc α} {w : World} {base g n c : Nat} {E : TypeId} {L : List α} (h : Ow e w base E (some ⟨g, 0, none⟩) n c L) {i : Nat} (hi : i < n) (y : α) {v1 v2 : Value} (hv : e.cells y = [v1, v2]) {p q : Addr} (hp : p = ⟨g, i * 2, none⟩) (hq : q = ⟨g, i * 2 + 1, none⟩) :
    Ow e ((w.setCell p v1).setCell q v2) base E (some ⟨g, 0, none⟩) n c (L.set i y) := by
  subst hp
  subst hq
  have hnf : e.nf = 2 := by rw [← e.len y, hv]; rfl
  rcases h.form with ⟨h0, _⟩ | ⟨g', cur, ea, hb, hlt, hh, h1, h2, h3, h4⟩
  · cases h0
  injection ea with ea; injection ea with ea; subst ea
  refine h.put hi y ⟨cur, hh, ?_⟩
  have hin : i * 2 + 1 < cur.size := by rw [h3, hnf]; omega
  rw [heap_setCell_same _ g (i * 2 + 1) _ E v2 (heap_setCell_same w g (i * 2) cur E v1 hh), hv, hnf, ← set2 _ _ _ _ (by simpa using hin)]
  congr 2
  apply Array.toList_inj.1
  simp
theorem set_repl {K : List Ck} {k n : Nat} {z y : Ck} (hk : K.length = k) (hn : k < n) : (K ++ List.replicate (n - k) z).set k y = (K ++ [y]) ++ List.replicate (n - (k + 1)) z := by
  rw [List.set_append_right _ _ (by omega), hk, Nat.sub_self, show n - k = (n - (k + 1)) + 1 by omega, List.replicate_succ]
  simp
end Go.Proofs.YthdidjnhfkeokaaDoor
