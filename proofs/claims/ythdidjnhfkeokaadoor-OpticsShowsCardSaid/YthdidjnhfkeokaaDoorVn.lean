/- Plain lemmas for the walk of optics.Carry; a store of four cells. -/
import Derived.Test.YthdidjnhfkeokaaDoorVm
import Derived.Test.YthdidjnhfkeokaaDoorVd
import Derived.Test.YthdidjnhfkeokaaDoorQb
namespace Go.Proofs.YthdidjnhfkeokaaDoor
open Go.RowKit

theorem set4 {α : Type} (a b c d : α) : ∀ (l : List α) (j : Nat), j + 3 < l.length → (((l.set j a).set (j + 1) b).set (j + 2) c).set (j + 3) d = l.take j ++ [a, b, c, d] ++ l.drop (j + 4)
  | [], j, h => by simp at h
  | [_], j, h => by simp at h
  | [_, _], j, h => by simp only [List.length_cons, List.length_nil] at h; omega
  | [_, _, _], j, h => by simp only [List.length_cons, List.length_nil] at h; omega
  | x :: y :: z :: u :: l, 0, h => by simp
  | x :: y :: z :: u :: l, j + 1, h => by
    have ih := set4 a b c d (y :: z :: u :: l) j (by simpa using h)
    simpa using ih
theorem Ow.store4 {α : Type} {e : Enc α} {w : World} {base g n c : Nat} {E : TypeId} {L : List α} (h : Ow e w base E (some ⟨g, 0, none⟩) n c L) {i : Nat} (hi : i < n) (y : α) {v1 v2 v3 v4 : Value} (hv : e.cells y = [v1, v2, v3, v4]) {p q r s : Addr} (hp : p = ⟨g, i * 4, none⟩) (hq : q = ⟨g, i * 4 + 1, none⟩) (hr : r = ⟨g, i * 4 + 2, none⟩) (hs : s = ⟨g, i * 4 + 3, none⟩) :
    Ow e ((((w.setCell p v1).setCell q v2).setCell r v3).setCell s v4) base E (some ⟨g, 0, none⟩) n c (L.set i y) := by
  subst hp
  subst hq
  subst hr
  subst hs
  have hnf : e.nf = 4 := by rw [← e.len y, hv]; rfl
  rcases h.form with ⟨h0, _⟩ | ⟨g', cur, ea, hb, hlt, hh, h1, h2, h3, h4⟩
  · cases h0
  injection ea with ea; injection ea with ea; subst ea
  refine h.put hi y ⟨cur, hh, ?_⟩
  have hin : i * 4 + 3 < cur.size := by rw [h3, hnf]; omega
  rw [heap_setCell_same _ g (i * 4 + 3) _ E v4 (heap_setCell_same _ g (i * 4 + 2) _ E v3 (heap_setCell_same _ g (i * 4 + 1) _ E v2 (heap_setCell_same w g (i * 4) cur E v1 hh))), hv, hnf, ← set4 _ _ _ _ _ _ (by simpa using hin)]
  congr 2
  apply Array.toList_inj.1
  simp
theorem put_repl {α : Type} {K : List α} {k n : Nat} {z y : α} (hk : K.length = k) (hn : k < n) : (K ++ List.replicate (n - k) z).set k y = (K ++ [y]) ++ List.replicate (n - (k + 1)) z := by
  rw [List.set_append_right _ _ (by omega), hk, Nat.sub_self, show n - k = (n - (k + 1)) + 1 by omega, List.replicate_succ]
  simp
theorem skip_repl {α : Type} {K : List α} {k n : Nat} {z : α} (hn : k < n) : K ++ List.replicate (n - k) z = (K ++ [z]) ++ List.replicate (n - (k + 1)) z := by
  rw [show n - k = (n - (k + 1)) + 1 by omega, List.replicate_succ]; simp

theorem Sta.on {w w' : World} {base X D E : Nat} {x : Li} {s : Nat} {N : List No} (h : Sta w base X D E x s N) (g : Geo base X D E) (hb : Below w.heap.size w w') : Sta w' base X D E x s N :=
  h.quiet g (Blk.keep h.1 hb) (Blk.keep h.2.1 hb) (Fr.of_below hb)
def Env (w : World) (gA gDo : Nat) : Prop := Caps w gA ∧ Blk w gDo 141 (actV gA)
theorem Env.fr {w w' : World} {gA gDo : Nat} {T : Nat → Prop} (h : Env w gA gDo) (f : Fr T w w') (h1 : ¬ T (gA + 1)) (h2 : ¬ T (gA + 2)) (h3 : ¬ T (gA + 3)) (h4 : ¬ T (gA + 4)) (h5 : ¬ T gDo) : Env w' gA gDo :=
  ⟨⟨Blk.fr h.1.1 f h1, Blk.fr h.1.2.1 f h2, Blk.fr h.1.2.2.1 f h3, Blk.fr h.1.2.2.2 f h4⟩, Blk.fr h.2 f h5⟩
theorem Env.on {w w' : World} {gA gDo : Nat} (h : Env w gA gDo) (hb : Below w.heap.size w w') : Env w' gA gDo :=
  h.fr (Fr.of_below (T := fun _ => False) hb) (fun h => h) (fun h => h) (fun h => h) (fun h => h) (fun h => h)
/-- Where the blocks of a call of Carry lie. -/
structure Lie (base D E gA gDo gO : Nat) : Prop where
  d : D < base
  e : E < base
  a : gA + 4 < base
  o : gDo < base
  u : gO < base
  de : D ≠ E
  da : D < gA
  ea : E < gA
  ao : gA + 4 < gDo
  ou : gDo < gO
def Tu (base D E gO : Nat) : Nat → Prop := fun i => base ≤ i ∨ i = D ∨ i = E ∨ i = gO
theorem Env.tu {w w' : World} {base D E gA gDo gO : Nat} (h : Env w gA gDo) (l : Lie base D E gA gDo gO) (f : Fr (Tu base D E gO) w w') : Env w' gA gDo := by
  obtain ⟨l1, l2, l3, l4, l5, l6, l7, l8, l9, l10⟩ := l
  exact h.fr f (by unfold Tu; omega) (by unfold Tu; omega) (by unfold Tu; omega) (by unfold Tu; omega) (by unfold Tu; omega)
theorem Env.tr {w w' : World} {base D E gA gDo gO : Nat} (h : Env w gA gDo) (l : Lie base D E gA gDo gO) (f : Fr (Tr base D E) w w') : Env w' gA gDo :=
  h.tu l (f.imp (fun i _ c => by unfold Tr at c; unfold Tu; omega))
theorem Fr.tu {w w' : World} {base D E : Nat} (gO : Nat) (f : Fr (Tr base D E) w w') : Fr (Tu base D E gO) w w' := f.imp (fun i _ c => by unfold Tr at c; unfold Tu; omega)
def SCar (L : List Ru) (P : List Pu) (s : Nat) (w : World) (e : Ending) (w' : World) : Prop :=
  ∃ A n c A' n' c', e = .returned (.tuple #[.slice A n c, .slice A' n' c', .int .i64 (carryErr L P)]) ∧ Rd eLi w' w'.heap.size A n c (carryX L P s) ∧ Rd eNo w' w'.heap.size A' n' c' (carryN L P s) ∧ Below w.heap.size w w'
theorem SCar.err {L : List Ru} {P : List Pu} {s : Nat} {w w' : World} {x : Int} (h : carryErr L P = x) (hx : x ≠ 0) (hb : Below w.heap.size w w') :
    SCar L P s w (.returned (.tuple #[.slice none 0 0, .slice none 0 0, .int .i64 x])) w' := by
  refine ⟨none, 0, 0, none, 0, 0, by rw [h], ?_, ?_, hb⟩
  · unfold carryX; rw [if_neg (by omega)]; exact Rd.nil _ _ _ _ (by omega)
  · unfold carryN; rw [if_neg (by omega)]; exact Rd.nil _ _ _ _ (by omega)
theorem carryErr_rules {L : List Ru} {P : List Pu} (h : rulesErr L ≠ 0) : carryErr L P = rulesErr L := by unfold carryErr; rw [if_neg h]
theorem carryErr_pulses {L : List Ru} {P : List Pu} (h : rulesErr L = 0) : carryErr L P = pulsesErr P := by unfold carryErr; rw [if_pos h]
theorem pulsesErr_zero {P : List Pu} (h : pulsesErr P = 0) : P.length ≤ 4096 ∧ P.all okPu = true := by
  unfold pulsesErr at h
  split at h
  · omega
  split at h
  · exact ⟨by omega, by assumption⟩
  · omega
theorem okPu_ph {p : Pu} (h : okPu p = true) : 0 ≤ p.ph ∧ p.ph ≤ 3 := by
  unfold okPu at h; simp at h; omega
theorem covers_lo {r : Ru} {i : Nat} (h : ¬ 4 ≤ r.k) : covers r i = true := by unfold covers; exact decide_eq_true (Or.inl (by omega))
theorem covers_in {r : Ru} {i : Nat} (h1 : r.fr ≤ i) (h2 : (i : Int) ≤ r.to) : covers r i = true := by unfold covers; exact decide_eq_true (Or.inr ⟨h1, h2⟩)
theorem covers_no {r : Ru} {i : Nat} (h : 4 ≤ r.k) (h2 : ¬ (r.fr ≤ i ∧ (i : Int) ≤ r.to)) : covers r i = false := by
  unfold covers; apply decide_eq_false; rintro (c | c)
  · omega
  · exact h2 c
theorem stepF_yes {i : Nat} {t : Li × List No × Nat} {r : Ru} (h : covers r i = true) : stepF i t r = actT r i t.1 t.2.2 t.2.1 := by unfold stepF actT; rw [if_pos h]
theorem stepF_not {i : Nat} {t : Li × List No × Nat} {r : Ru} (h : covers r i = false) : stepF i t r = t := by unfold stepF; rw [if_neg (by simp [h])]
theorem notes_bound {L : List Ru} {P : List Pu} {s i : Nat} (hL : L.length ≤ 32) (hi : i ≤ 4096) : (carrF L P s i).2.1.length ≤ 131072 := by
  have h1 := carrF_notes L P s i
  have h2 : i * L.length ≤ 4096 * 32 := Nat.mul_le_mul hi hL
  omega
theorem info_li : (Tryd.prog.info? 144).map (fun i => (i.zero, i.size, i.bytes)) = some (some (.agg #[.int .i64 0, .int .i64 0, .bool false, .bool false]), 4, 24) := by kernel_rfl
end Go.Proofs.YthdidjnhfkeokaaDoor
