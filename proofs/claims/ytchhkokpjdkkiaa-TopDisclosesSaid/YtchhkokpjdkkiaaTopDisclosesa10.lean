/- More words for memory: a slice of slices that the call made itself ('OwnV'), the numbers that its elements hold ('Nums'). Plain lemmas. The arithmetic of the reference's division. The contract of the reference's divide. Contracts of the reference's gcd, fits, nat. -/
import Derived.Test.YtchhkokpjdkkiaaTopDisclosesa09
import Derived.Test.YtchhkokpjdkkiaaTopDisclosesa06
import Derived.Deep.RegionHeld3
namespace Go.Proofs.Ytchhkokpjdkkiaa.Ex
open Go.RowKit

/-- A slice of one-cell values that the call made itself, in a block from 'base' on. -/
structure OwnV (w : World) (base : Nat) (E : TypeId) (A : Option Addr) (n c : Nat) (vs : List Value) : Prop where
  len : vs.length = n
  one : ∀ v ∈ vs, v.oneCell' = true
  row : w.ownsRow base E 1 (.slice A n c) n vs

/-- Its elements are numbers of the reference; none of them lies in the slice's own block. -/
def Nums (w : World) (G : Option Nat) (vs : List Value) (N : Nat → Nat) : Prop :=
  ∀ j, j < vs.length → ∃ A n c l, vs[j]? = some (.slice A n c) ∧ Sl w w.heap.size .i64 A n c l ∧ Num 256 l (N j) ∧ (0 < n → ∀ h, A.map (·.block) = some h → some h ≠ G)

section
variable {w w' : World} {base g : Nat} {E : TypeId} {A : Option Addr} {n c B : Nat} {vs : List Value} {G : Option Nat} {N : Nat → Nat}

theorem Sl.keepBlock {k : IntKind} {l : List Nat} (h : Sl w B k A n c l) (hk : 0 < n → ∀ g, A.map (·.block) = some g → g < B → w'.heap[g]? = w.heap[g]?) : Sl w' B k A n c l :=
  ⟨h.len, h.cap, h.max, fun hn => by
    obtain ⟨b, off, e, hb, hc⟩ := h.at_ hn
    refine ⟨b, off, e, hb, fun j hj => ?_⟩
    rw [← hc j hj]
    exact World.cell?_of_block (hk hn b (by rw [e]; rfl) hb)⟩
theorem OwnV.lt (h : OwnV w base E A n c vs) {g o : Nat} {s : Option Nat} (e : A = some ⟨g, o, s⟩) : base ≤ g ∧ g < w.heap.size ∧ o = 0 ∧ s = none := by
  rcases h.row.2 with ⟨e', _⟩ | ⟨g', cap, cur, e', hb, hg, _⟩
  · injection e' with e'; rw [e] at e'; cases e'
  · injection e' with e'; rw [e] at e'; injection e' with e'; injection e' with e1 e2 e3; subst e1
    exact ⟨hb, (Array.getElem?_eq_some_iff.1 hg).1, e2, e3⟩
theorem OwnV.cap (h : OwnV w base E A n c vs) : n ≤ c ∧ c ≤ 1099511627776 * 9000000 := by
  rcases h.row.2 with ⟨e', h0⟩ | ⟨g', cap, cur, e', hb, hg, h1, h2, _⟩
  · injection e' with e1 e2 e3; omega
  · injection e' with e1 e2 e3; subst e3; simp only [maxLen] at h2; omega
theorem OwnV.keep (h : OwnV w base E A n c vs) (hk : ∀ g, A = some ⟨g, 0, none⟩ → w'.heap[g]? = w.heap[g]?) : OwnV w' base E A n c vs := by
  refine ⟨h.len, h.one, h.row.1, ?_⟩
  rcases h.row.2 with h' | ⟨g, cap, cur, e, h1, h2, rest⟩
  · exact .inl h'
  · refine .inr ⟨g, cap, cur, e, h1, ?_, rest⟩
    injection e with e
    rw [hk g e]; exact h2
theorem OwnV.below (h : OwnV w base E A n c vs) (hb : Below B w w') (hB : w.heap.size ≤ B) : OwnV w' base E A n c vs :=
  h.keep fun g e => hb.block g (by have := (h.lt e).2; omega)
theorem OwnV.drewN (h : OwnV w base E A n c vs) (i : Nat) : OwnV (w.drewN i) base E A n c vs := ⟨h.len, h.one, h.row⟩
theorem OwnV.drew (h : OwnV w base E A n c vs) : OwnV w.drew base E A n c vs := ⟨h.len, h.one, h.row⟩
theorem OwnV.alloc (h : OwnV w base E A n c vs) (o : Obj) : OwnV (w.alloc o) base E A n c vs :=
  h.keep fun g e => Below.heap_alloc w o g (h.lt e).2.1
theorem OwnV.block (h : OwnV w base E A n c vs) : ∀ g, A.map (·.block) = some g → base ≤ g ∧ g < w.heap.size := by
  intro g hg
  rcases A with _ | ⟨a, o, s⟩
  · cases hg
  · injection hg with hg
    subst hg
    exact ⟨(h.lt rfl).1, (h.lt rfl).2.1⟩
theorem OwnV.cell (h : OwnV w base E A n c vs) {i : Nat} {x : Value} (hx : vs[i]? = some x) : ∃ g, A = some ⟨g, 0, none⟩ ∧ g < w.heap.size ∧ w.cell? ⟨g, i, none⟩ = some x := by
  have hi : i < vs.length := (List.getElem?_eq_some_iff.1 hx).1
  rcases h.row.2 with ⟨e', h0⟩ | ⟨g', cap, cur, e', hb, hg, h1, h2, _⟩
  · have := h.len; omega
  · injection e' with e1 e2 e3
    subst e1
    exact ⟨g', rfl, (Array.getElem?_eq_some_iff.1 hg).1, by rw [← hx]; exact h.row.cellAt i (by have := h.len; omega)⟩
theorem OwnV.one1 (w : World) (E : TypeId) (v : Value) (h1 : v.oneCell' = true) : OwnV (w.alloc (.cells #[v] E)) w.heap.size E (some ⟨w.heap.size, 0, none⟩) 1 1 [v] :=
  ⟨rfl, fun u hu => by simp at hu; subst hu; exact h1, rfl, .inr ⟨w.heap.size, 1, #[v], rfl, Nat.le_refl _, heap_alloc_new w _, Nat.le_refl _, by simp [maxLen], by simp, by simp⟩⟩

theorem Nums.nil (w : World) (G : Option Nat) (N : Nat → Nat) : Nums w G [] N := fun j hj => absurd hj (by simp)
theorem Nums.at_ (h : Nums w G vs N) {j : Nat} (hj : j < vs.length) : ∃ A n c l, vs[j]? = some (.slice A n c) ∧ Sl w w.heap.size .i64 A n c l ∧ Num 256 l (N j) := by
  obtain ⟨A, n, c, l, h1, h2, h3, _⟩ := h j hj
  exact ⟨A, n, c, l, h1, h2, h3⟩
theorem Nums.below (h : Nums w G vs N) (hb : Below B w w') (hB : w.heap.size ≤ B) : Nums w' G vs N := fun j hj => by
  obtain ⟨A, n, c, l, h1, h2, h3, h4⟩ := h j hj
  exact ⟨A, n, c, l, h1, ((h2.keep fun p hp => hb.cell (by omega)).mono hb.size), h3, h4⟩
theorem Nums.drewN (h : Nums w G vs N) (i : Nat) : Nums (w.drewN i) G vs N := fun j hj => by
  obtain ⟨A, n, c, l, h1, h2, h3, h4⟩ := h j hj
  exact ⟨A, n, c, l, h1, h2.drewN i, h3, h4⟩
theorem Sl.pos {k : IntKind} {l : List Nat} (h : Sl w B k A n c l) (hn : 0 < n) : ∀ g, A.map (·.block) = some g → g < B := by
  obtain ⟨b, off, e, hb, _⟩ := h.at_ hn
  intro g hg
  rw [e] at hg
  injection hg with hg
  rw [← hg]; exact hb
theorem Nums.push (h : Nums w (A.map (·.block)) vs N) {A' D : Option Addr} {nd cd : Nat} {l : List Nat} (hs : Sl w w.heap.size .i64 D nd cd l) (hN : Num 256 l (N vs.length))
    (hd : 0 < nd → ∀ h, D.map (·.block) = some h → some h ≠ A.map (·.block)) (hg : w.grownBy w' (A.map (·.block))) (hA : A' = A ∨ A' = some ⟨w.heap.size, 0, none⟩) : Nums w' (A'.map (·.block)) (vs ++ [.slice D nd cd]) N := by
  have key : ∀ (A0 : Option Addr) (n0 c0 : Nat) (l0 : List Nat), Sl w w.heap.size .i64 A0 n0 c0 l0 → (0 < n0 → ∀ h, A0.map (·.block) = some h → some h ≠ A.map (·.block)) →
      Sl w' w'.heap.size .i64 A0 n0 c0 l0 ∧ (0 < n0 → ∀ h, A0.map (·.block) = some h → some h ≠ A'.map (·.block)) := fun A0 n0 c0 l0 h1 h2 => by
    refine ⟨(h1.keepBlock fun hn g e hlt => hg.block g hlt (h2 hn g e)).mono hg.size, fun hn g e => ?_⟩
    rcases hA with rfl | rfl
    · exact h2 hn g e
    · have := h1.pos hn g e
      simp; omega
  intro j hj
  rw [List.length_append] at hj
  simp at hj
  rcases Nat.lt_or_ge j vs.length with hlt | hge
  · obtain ⟨A0, n0, c0, l0, h1, h2, h3, h4⟩ := h j hlt
    have k := key A0 n0 c0 l0 h2 h4
    exact ⟨A0, n0, c0, l0, by rw [List.getElem?_append_left hlt]; exact h1, k.1, h3, k.2⟩
  · obtain rfl : j = vs.length := by omega
    have k := key D nd cd l hs hd
    exact ⟨D, nd, cd, l, by simp, k.1, hN, k.2⟩
end

section
variable {P : Program} (w : World) {ops : Array Oper} {rest : List Oper} {o : Oper} {a : Act} {Q : Exit → Act → World → Prop}

theorem run_appendV (base : Nat) (t ty : TypeId) (E : TypeId) (z : Value) (hz1 : z.cells.size = 1) (bytes : Nat) (hu : P.underlying t = some (.slice E)) (hinfo : (P.info? E).map (fun i => (i.zero, i.size, i.bytes)) = some (some z, 1, bytes)) (hby : bytes ≤ 24)
    (A : Option Addr) (n c : Nat) (vs : List Value) (hown : OwnV w base E A n c vs) (D : Addr) (d : Nat) (v : Value) (hv : w.cell? D = some v) (h1v : v.oneCell' = true)
    (hsz : n ≤ 1099511627775) (hbase : base ≤ w.heap.size) :
    ∃ A' c' w', (Builtin.append_ #[t, t] ty #[.slice A n c, .slice (some D) 1 d]).run P w = .ok (.slice A' (n + 1) c') w' ∧ OwnV w' base E A' (n + 1) c' (vs ++ [v]) ∧
      w.grownBy w' (A.map (·.block)) ∧ (A' = A ∨ A' = some ⟨w.heap.size, 0, none⟩) ∧ (∀ g j, A = some ⟨g, 0, none⟩ → j < n → w'.cell? ⟨g, j, none⟩ = w.cell? ⟨g, j, none⟩) := by
  obtain ⟨i, hi, hz, h1, h2⟩ := info_parts hinfo
  have hD : D.add 0 = D := by unfold Addr.add; split <;> simp_all
  have hnews : ∀ j u, [v][j]? = some u → w.cell? (D.add j) = some u := fun j u hj => by
    have hj0 : j = 0 := by
      rcases Nat.eq_zero_or_pos j with h | h
      · exact h
      · rw [List.getElem?_eq_none (by simp; omega)] at hj; cases hj
    subst hj0
    simp at hj
    rw [hD, hv, hj]
  have hlen : ([v] : List Value).length = 1 * 1 := rfl
  obtain ⟨v', w', hrun, hown', hgr, _, hat⟩ := run_append_own_at (P := P) w base t ty E i z 1 bytes hu hi hz h1 h2 hz1 (by omega) _ _ _ hown.row D 1 d [v]
    hlen hnews (fun u hu => by simp at hu; subst hu; exact h1v) (by simp only [maxLen]; omega)
    (by have : (n + 1) * bytes ≤ (n + 1) * 24 := Nat.mul_le_mul_left _ hby
        omega) hbase
  have hb' : (Value.slice A n c).ownBlock = A.map (·.block) := by cases A <;> rfl
  rw [hb'] at hgr hat
  have hone : ∀ u ∈ vs ++ [v], u.oneCell' = true := fun u hu => by
    rcases List.mem_append.1 hu with h | h
    · exact hown.one u h
    · simp at h; subst h; exact h1v
  rcases hown'.2 with ⟨rfl, h0⟩ | ⟨g, cap, cur, rfl, hbg, hgg, h1', h2', h3', h4'⟩
  · omega
  · have hO : OwnV w' base E (some ⟨g, 0, none⟩) (n + 1) cap (vs ++ [v]) := ⟨by simp [hown.len], hone, hown'⟩
    have hA : (some ⟨g, 0, none⟩ : Option Addr) = A ∨ (some ⟨g, 0, none⟩ : Option Addr) = some ⟨w.heap.size, 0, none⟩ := by
      rcases hat with hat | hat
      · left
        rcases A with _ | ⟨a0, o0, s0⟩
        · simp [Value.ownBlock] at hat
        · have hl := hown.lt rfl
          simp [Value.ownBlock] at hat
          rw [hat, hl.2.2.1, hl.2.2.2]
      · right
        simp [Value.ownBlock] at hat
        rw [hat]
    refine ⟨_, _, w', hrun, hO, hgr, hA, fun g0 j e hj => ?_⟩
    subst e
    have hjl : j < vs.length := by rw [hown.len]; exact hj
    have hold := hown.row.cellAt j (by omega)
    rcases hA with hA | hA
    · injection hA with hA; injection hA with hA
      subst hA
      have hnew := hown'.cellAt j (by simp; omega)
      rw [hnew, hold, List.getElem?_append_left hjl]
    · injection hA with hA; injection hA with hA
      subst hA
      have hlt := (hown.lt rfl).2.1
      rcases hown.row.2 with ⟨e', _⟩ | ⟨g', cap0, cur0, e', hb0, hg0, k1, k2, k3, k4⟩
      · cases e'
      injection e' with e1 e2 e3; injection e1 with e1; injection e1 with e1; subst e1; subst e3
      by_cases hroom : n + 1 ≤ c
      · have hr := run_append_room (P := P) w t ty E i hu hi g0 n c cur0 hg0 D 1 d [v] (by rw [h1]; rfl) hnews (fun u hu => by simp at hu; subst hu; exact h1v) hroom (by rw [h1]; simp; omega)
        rw [hr] at hrun
        injection hrun with e1 e2
        injection e1 with e1
        injection e1 with e1; injection e1 with e1
        omega
      · have holds : ∀ j u, vs[j]? = some u → w.cell? ((⟨g0, 0, none⟩ : Addr).add j) = some u := hown.row.cells (g := g0) rfl
        have hr := run_append_grow (P := P) w t ty E i z hu hi hz ⟨g0, 0, none⟩ n c vs (by rw [hown.len, h1]; omega) holds D 1 d [v] (by rw [h1]; rfl) hnews (by omega) (by omega)
          (growslice_fits (by omega) (by rw [h2]; have : (n + 1) * bytes ≤ (n + 1) * 24 := Nat.mul_le_mul_left _ hby
                                         omega))
        rw [hr] at hrun
        injection hrun with e1 e2
        rw [← e2]
        exact World.cell?_of_block (Below.heap_alloc w.drew _ g0 hlt)

/-- 'append(out, x)' on a slice of slices of the call's own. -/
theorem wl_appendV (hg : o.guard = none) (s x : Operand) (t : TypeId) (ho : o.op = .call { callee := .builtin .append, args := #[s, x], argTypes := #[t, t] })
    (base : Nat) (E : TypeId) (z : Value) (hz1 : z.cells.size = 1) (bytes : Nat) (hu : P.underlying t = some (.slice E)) (hinfo : (P.info? E).map (fun i => (i.zero, i.size, i.bytes)) = some (some z, 1, bytes)) (hby : bytes ≤ 24)
    (A : Option Addr) (n c : Nat) (vs : List Value) (hs : a.eval s = .slice A n c) (hown : OwnV w base E A n c vs)
    (D : Addr) (d : Nat) (v : Value) (hx : a.eval x = .slice (some D) 1 d) (hv : w.cell? D = some v) (h1v : v.oneCell' = true)
    (hsz : n ≤ 1099511627775) (hbase : base ≤ w.heap.size)
    (hK : ∀ A' c' w', OwnV w' base E A' (n + 1) c' (vs ++ [v]) → w.grownBy w' (A.map (·.block)) → (A' = A ∨ A' = some ⟨w.heap.size, 0, none⟩) →
      (∀ g j, A = some ⟨g, 0, none⟩ → j < n → w'.cell? ⟨g, j, none⟩ = w.cell? ⟨g, j, none⟩) → wpList P ops Q rest (a.put o.dst (.slice A' (n + 1) c')) w') :
    wpList P ops Q (o :: rest) a w := by
  refine wpList_plain hg fun K hKK => ?_
  obtain ⟨A', c', w', hrun, r1, r2, r3, r4⟩ := run_appendV (P := P) w base t o.type E z hz1 bytes hu hinfo hby A n c vs hown D d v hv h1v hsz hbase
  unfold Oper.wp execOp
  simp only [ho, resolve, invoke, builtin, Sem.run_bind, Sem.run_pure, Result.andThen_ok, List.map_toArray, List.map_cons, List.map_nil, hs, hx, hrun]
  exact hKK _ _ (hK A' c' w' r1 r2 r3 r4)

theorem step_appendV {K : Act → World → Prop} {F : Prop} (hg : o.guard = none) (s x : Operand) (t : TypeId) (ho : o.op = .call { callee := .builtin .append, args := #[s, x], argTypes := #[t, t] })
    (base : Nat) (E : TypeId) (z : Value) (hz1 : z.cells.size = 1) (bytes : Nat) (hu : P.underlying t = some (.slice E)) (hinfo : (P.info? E).map (fun i => (i.zero, i.size, i.bytes)) = some (some z, 1, bytes)) (hby : bytes ≤ 24)
    (A : Option Addr) (n c : Nat) (vs : List Value) (hs : a.eval s = .slice A n c) (hown : OwnV w base E A n c vs)
    (D : Addr) (d : Nat) (v : Value) (hx : a.eval x = .slice (some D) 1 d) (hv : w.cell? D = some v) (h1v : v.oneCell' = true)
    (hsz : n ≤ 1099511627775) (hbase : base ≤ w.heap.size)
    (hK : ∀ A' c' w', OwnV w' base E A' (n + 1) c' (vs ++ [v]) → w.grownBy w' (A.map (·.block)) → (A' = A ∨ A' = some ⟨w.heap.size, 0, none⟩) →
      (∀ g j, A = some ⟨g, 0, none⟩ → j < n → w'.cell? ⟨g, j, none⟩ = w.cell? ⟨g, j, none⟩) → K (a.put o.dst (.slice A' (n + 1) c')) w') :
    if Region.wanted o (yielded ops a.tmps) = true then Oper.wp P o a w K Q else F := by
  obtain ⟨A', c', w', hrun, r1, r2, r3, r4⟩ := run_appendV (P := P) w base t o.type E z hz1 bytes hu hinfo hby A n c vs hown D d v hv h1v hsz hbase
  have hw : Region.wanted o (yielded ops a.tmps) = true := by simp [Region.wanted, hg]
  rw [if_pos hw]
  unfold Oper.wp execOp
  simp only [ho, resolve, invoke, builtin, Sem.run_bind, Sem.run_pure, Result.andThen_ok, List.map_toArray, List.map_cons, List.map_nil, hs, hx, hrun]
  exact hK A' c' w' r1 r2 r3 r4
end

theorem cell_keep {w w' : World} {B : Nat} {p : Addr} {v : Option Value} (hb : Below B w w') (hp : p.block < B) (h : w.cell? p = v) : w'.cell? p = v := (hb.cell hp).trans h
theorem Own.empty (w : World) (E : TypeId) (k : IntKind) : Own (w.alloc (.cells #[] E)) w.heap.size E k (some ⟨w.heap.size, 0, none⟩) 0 0 [] :=
  ⟨rfl, rfl, .inr ⟨w.heap.size, 0, #[], rfl, Nat.le_refl _, heap_alloc_new w _, Nat.le_refl _, by simp [maxLen], by simp, by simp [ints]⟩⟩
theorem Own.one1 (w : World) (E : TypeId) (k : IntKind) (x : Nat) {v : Value} (hv : v = .int k x) : Own (w.alloc (.cells #[v] E)) w.heap.size E k (some ⟨w.heap.size, 0, none⟩) 1 1 [x] := by
  subst hv
  exact ⟨rfl, rfl, .inr ⟨w.heap.size, 1, #[.int k x], rfl, Nat.le_refl _, heap_alloc_new w _, Nat.le_refl _, by simp [maxLen], by simp, by simp [ints]⟩⟩
theorem Sl.far {w : World} {B : Nat} {k : IntKind} {A : Option Addr} {n c : Nat} {l : List Nat} (h : Sl w B k A n c l) {p : Addr} (hp : 0 < n → ∀ g, A.map (·.block) = some g → g ≠ p.block) (u : Value) : Sl (w.setCell p u) B k A n c l :=
  h.keepBlock fun hn g e _ => Below.heap_setCell w p u g (hp hn g e)
theorem Sl.drop {w : World} {B : Nat} {k : IntKind} {b o n c i : Nat} {l : List Nat} (h : Sl w B k (some ⟨b, o, none⟩) n c l) (hi : i ≤ n) : Sl w B k (some ⟨b, o + i, none⟩) (n - i) (c - i) (l.drop i) :=
  ⟨by rw [List.length_drop, h.len], by have := h.cap; omega, by have := h.max; omega, fun hn => by
    obtain ⟨b', off, e, hb, hc⟩ := h.at_ (by omega)
    injection e with e; injection e with e1 e2; subst e1 e2
    refine ⟨b, o + i, rfl, hb, fun j hj => ?_⟩
    have := hc (i + j) (by omega)
    rw [show o + i + j = o + (i + j) by omega, this]
    simp⟩
end Go.Proofs.Ytchhkokpjdkkiaa.Ex

namespace Go.Proofs.Ytchhkokpjdkkiaa.Ex

/-- A division digit by digit: k digits are left. -/
structure DivJ (la : List Nat) (D k : Nat) (lo : List Nat) (R : Nat) : Prop where
  lt : R < D
  zero : ∀ j, j < k → lo.getD j 0 = 0
  eq : ∃ Q, val 256 lo = Q * 256 ^ k ∧ val 256 (la.drop k) = Q * D + R

theorem val_drop_cons (b : Nat) (l : List Nat) (i : Nat) : val b (l.drop i) = l.getD i 0 + b * val b (l.drop (i + 1)) := by
  rcases Nat.lt_or_ge i l.length with h | h
  · rw [List.drop_eq_getElem_cons h]
    simp [val, h]
  · rw [List.drop_of_length_le h, List.drop_of_length_le (by omega)]
    simp [val, h]

theorem DivJ.step {la lo : List Nat} {D i R x q R' : Nat} (h : DivJ la D (i + 1) lo R) (hi : i < lo.length) (hx : la.getD i 0 = x) (hT : 256 * R + x = q * D + R') (hR : R' < D) : DivJ la D i (lo.set i q) R' := by
  obtain ⟨h1, h2, Q, h3, h4⟩ := h
  refine ⟨hR, fun j hj => ?_, 256 * Q + q, ?_, ?_⟩
  · rw [List.getD_eq_getElem?_getD, List.getElem?_set_ne (by omega), ← List.getD_eq_getElem?_getD]
    exact h2 j (by omega)
  · have := val_set 256 lo i q hi
    rw [h2 i (by omega)] at this
    rw [Nat.pow_succ] at h3
    generalize 256 ^ i = p at *
    generalize val 256 (lo.set i q) = v at *
    generalize val 256 lo = v' at *
    subst h3
    rw [Nat.mul_zero, Nat.add_zero] at this
    rw [this, Nat.add_mul, Nat.mul_comm p 256, ← Nat.mul_assoc, Nat.mul_comm Q 256, Nat.mul_comm p q]
  · rw [val_drop_cons, hx, h4]
    rw [Nat.add_mul, Nat.mul_assoc 256]
    generalize Q * D = z at *
    generalize q * D = z' at *
    omega
theorem DivJ.done {la lo : List Nat} {D R : Nat} (h : DivJ la D 0 lo R) : val 256 lo = val 256 la / D ∧ R = val 256 la % D := by
  obtain ⟨h1, _, Q, h3, h4⟩ := h
  rw [List.drop_zero] at h4
  rw [Nat.pow_zero, Nat.mul_one] at h3
  have hD : 0 < D := by omega
  rw [h3, h4]
  refine ⟨?_, ?_⟩
  · rw [Nat.mul_comm, Nat.mul_add_div hD, Nat.div_eq_of_lt h1, Nat.add_zero]
  · rw [Nat.mul_comm, Nat.mul_add_mod, Nat.mod_eq_of_lt h1]

/-- One digit of it, bit by bit: m bits are left. -/
structure DivB (T D m q R : Nat) : Prop where
  lt : R < D * 2 ^ m
  eq : T = q * (D * 2 ^ m) + R
  le : m ≤ 8
  small : q < 2 ^ (8 - m)
theorem DivB.start {T D : Nat} (h : T < 256 * D) : DivB T D 8 0 T := ⟨by omega, by omega, by omega, by omega⟩
theorem pow_half {m : Nat} (h : m + 1 ≤ 8) : 2 ^ (8 - m) = 2 ^ (8 - (m + 1)) * 2 := by
  rw [← Nat.pow_succ]; congr 1; omega
theorem DivB.q_lt {T D m q R : Nat} (h : DivB T D m q R) : q < 256 := by
  have : (2 : Nat) ^ (8 - m) ≤ 2 ^ 8 := Nat.pow_le_pow_right (by omega) (by omega)
  have := h.small
  omega
theorem DivB.yes {T D m q R : Nat} (h : DivB T D (m + 1) q R) (hle : D * 2 ^ m ≤ R) : DivB T D m (2 * q + 1) (R - D * 2 ^ m) := by
  obtain ⟨h1, h2, h3, h4⟩ := h
  have hp := pow_half h3
  rw [Nat.pow_succ, show D * (2 ^ m * 2) = D * 2 ^ m * 2 from (Nat.mul_assoc _ _ _).symm] at h1 h2
  obtain ⟨z, hz⟩ : ∃ z, D * 2 ^ m = z := ⟨_, rfl⟩
  rw [hz] at h1 h2 hle
  have e : (2 * q + 1) * z = q * (z * 2) + z := by
    rw [Nat.add_mul, Nat.one_mul, Nat.mul_comm 2 q, Nat.mul_assoc, Nat.mul_comm 2 z]
  exact ⟨by rw [hz]; omega, by rw [hz, e]; omega, by omega, by omega⟩
theorem DivB.no {T D m q R : Nat} (h : DivB T D (m + 1) q R) (hlt : R < D * 2 ^ m) : DivB T D m (2 * q) R := by
  obtain ⟨h1, h2, h3, h4⟩ := h
  have hp := pow_half h3
  rw [Nat.pow_succ, show D * (2 ^ m * 2) = D * 2 ^ m * 2 from (Nat.mul_assoc _ _ _).symm] at h1 h2
  obtain ⟨z, hz⟩ : ∃ z, D * 2 ^ m = z := ⟨_, rfl⟩
  rw [hz] at h1 h2 hlt
  have e : 2 * q * z = q * (z * 2) := by
    rw [Nat.mul_comm 2 q, Nat.mul_assoc, Nat.mul_comm 2 z]
  exact ⟨by rw [hz]; omega, by rw [hz, e]; omega, by omega, by omega⟩
theorem DivJ.first {la : List Nat} {D at_ n : Nat} (hd : val 256 (la.drop at_) < D) : DivJ la D at_ (List.replicate n 0) (val 256 (la.drop at_)) :=
  ⟨hd, fun j _ => by simp [List.getD_eq_getElem?_getD, List.getElem?_replicate]; split <;> rfl, 0, by rw [val_replicate]; simp, by simp⟩
end Go.Proofs.Ytchhkokpjdkkiaa.Ex

namespace Go.Proofs.Ytchhkokpjdkkiaa.Ex
open Go.RowKit

theorem info_row : (Try.prog.info? 61).map (fun i => (i.zero, i.size, i.bytes)) = some (some (.slice none 0 0), 1, 24) := by kernel_rfl

theorem digs_one (x : Nat) (h : x < 256) : Digs 256 [x] := fun y hy => by simp at hy; omega
theorem Num.len_pos {l : List Nat} {b Y : Nat} (h : Num b l Y) (hY : 0 < Y) : 0 < l.length := by
  rcases Nat.eq_zero_or_pos l.length with h0 | h0
  · have := List.eq_nil_of_length_eq_zero h0
    subst this
    have := h.val_
    simp [val] at this
    omega
  · exact h0

theorem slice_eq {b b' o o' n n' c c' : Nat} (h1 : b = b') (h2 : o = o') (h3 : n = n') (h4 : c = c') : Value.slice (some ⟨b, o, none⟩) n c = .slice (some ⟨b', o', none⟩) n' c' := by
  subst h1 h2 h3 h4; rfl
theorem num_len8 {l lb : List Nat} {R Y m : Nat} (h : Num 256 l R) (hb : Num 256 lb Y) (hR : R < Y * 2 ^ m) (hm : m ≤ 8) : l.length ≤ lb.length + 1 := by
  refine (h.length_le (by omega) _).2 ?_
  have h1 := hb.lt
  have h2 : (2 : Nat) ^ m ≤ 2 ^ 8 := Nat.pow_le_pow_right (by omega) hm
  rw [Nat.pow_succ]
  calc R < Y * 2 ^ m := hR
    _ ≤ Y * 256 := Nat.mul_le_mul_left _ h2
    _ ≤ 256 ^ lb.length * 256 := Nat.mul_le_mul_right _ (Nat.le_of_lt h1)
theorem num_len_le {l m : List Nat} {x y : Nat} (hl : Num 256 l x) (hm : Num 256 m y) (h : x ≤ y) : l.length ≤ m.length := by
  refine (hl.length_le (by omega) _).2 ?_
  have := hm.lt
  omega
theorem num_len {l lb : List Nat} {R Y : Nat} (h : Num 256 l R) (hb : Num 256 lb Y) (hR : R < Y) : l.length ≤ lb.length := by
  refine (h.length_le (by omega) _).2 ?_
  have := hb.lt
  omega
theorem set_self {l : List Nat} {i x : Nat} (h : l.getD i 0 = x) : l.set i x = l := by
  rcases Nat.lt_or_ge i l.length with hi | hi
  · have : l[i] = x := by rw [← h]; simp [hi]
    rw [← this]; exact List.set_getElem_self hi
  · exact List.set_eq_of_length_le hi
/-- What divide returns. -/
def DivR (w : World) (Q R : Nat) (e : Ending) (w' : World) : Prop :=
  ∃ A n c l A' n' c' l', e = .returned (.tuple #[.slice A n c, .slice A' n' c']) ∧ Sl w' w'.heap.size .i64 A n c l ∧ Sl w' w'.heap.size .i64 A' n' c' l' ∧ Num 256 l Q ∧ Num 256 l' R ∧
    Below w.heap.size w w' ∧ (∀ g, A.map (·.block) = some g → w.heap.size ≤ g)

end Go.Proofs.Ytchhkokpjdkkiaa.Ex

namespace Go.Proofs.Ytchhkokpjdkkiaa.Ex
open Go.RowKit

/-- A number of the reference, wherever it lies. -/
def DigW (w : World) (N : Nat) (e : Ending) (w' : World) : Prop :=
  ∃ A n c l, e = .returned (.slice A n c) ∧ Sl w' w'.heap.size .i64 A n c l ∧ Num 256 l N ∧ Below w.heap.size w w'

theorem Num.zero256 {l : List Nat} {N : Nat} (h : Num 256 l N) : l.length = 0 ↔ N = 0 := h.zero_iff (by omega)

theorem pow_four (k : Nat) : (256 : Nat) ^ (4 * k) = 4294967296 ^ k := by
  rw [Nat.pow_mul]
theorem Num.fits8 {l : List Nat} {N : Nat} (h : Num 256 l N) : l.length ≤ 256 ↔ Fits N := by
  rw [h.length_le (by omega) (4 * 64), pow_four]; rfl

theorem drop_take_step (b : Nat) (l : List Nat) (i j : Nat) (hj : j < 4) : val b ((l.drop (i + j)).take (4 - j)) = l.getD (i + j) 0 + b * val b ((l.drop (i + (j + 1))).take (4 - (j + 1))) := by
  obtain ⟨m, hm⟩ : ∃ m, 4 - j = m + 1 := ⟨3 - j, by omega⟩
  rw [hm, show 4 - (j + 1) = m by omega]
  rcases Nat.lt_or_ge (i + j) l.length with h | h
  · rw [List.drop_eq_getElem_cons h, List.take_succ_cons]
    simp [val, h, Nat.add_assoc]
  · rw [List.drop_of_length_le h, List.drop_of_length_le (by omega)]
    simp [val, h]

structure NatI (la lo : List Nat) (k : Nat) : Prop where
  len : lo.length = k
  dig : Digs 4294967296 lo
  at_ : 4 * k < la.length + 4
  eq : val 4294967296 lo = val 256 (la.take (4 * k))
theorem NatI.start (la : List Nat) : NatI la [] 0 := ⟨rfl, Digs.nil _, by omega, by simp [val]⟩
theorem NatI.step {la lo : List Nat} {k d : Nat} (h : NatI la lo k) (hk : 4 * k < la.length) (hd : d < 4294967296) (he : val 256 ((la.drop (4 * k)).take 4) = d) : NatI la (lo ++ [d]) (k + 1) := by
  obtain ⟨h1, h2, h3, h4⟩ := h
  refine ⟨by simp [h1], h2.append (Digs.one hd), by omega, ?_⟩
  rw [show 4 * (k + 1) = 4 * k + 4 by omega, List.take_add, val_append, val_append, h4, h1, he, List.length_take, Nat.min_eq_left (by omega), pow_four]
  simp [val]
theorem NatI.done {la lo : List Nat} {k N : Nat} (h : NatI la lo k) (hN : Num 256 la N) (hk : la.length ≤ 4 * k) : Num 4294967296 lo N := by
  obtain ⟨h1, h2, h3, h4⟩ := h
  rw [List.take_of_length_le hk, hN.val_] at h4
  refine ⟨h2, h4, fun i hi he => ?_⟩
  have hl : la.length = (la.length - 1) + 1 := by omega
  have hp := hN.pos hl (by omega)
  have hp2 : (256 : Nat) ^ (4 * i) ≤ 256 ^ (la.length - 1) := Nat.pow_le_pow_right (by omega) (by omega)
  rw [pow_four] at hp2
  have e1 := val_take_succ 4294967296 lo i
  rw [List.take_of_length_le (Nat.le_of_eq hi), he, Nat.mul_zero, Nat.add_zero] at e1
  have e2 := val_lt (h2.take i)
  rw [List.length_take, Nat.min_eq_left (by omega)] at e2
  omega
end Go.Proofs.Ytchhkokpjdkkiaa.Ex
