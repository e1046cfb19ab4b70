/- The course of a cascade in words: what holds at each of its states, and why it comes nearer to the true string. Plain Lean; no program. -/
import Derived.Test.YtchhkokpjdkkiaaTopDisclosesa18
namespace Go.Proofs.Ytchhkokpjdkkiaa
open Go.RowKit

/-! ### How far two strings are apart -/
def dist : List Bool → List Bool → Nat
  | x :: b, y :: t => (if x = y then 0 else 1) + dist b t
  | _, _ => 0
theorem dist_flip : ∀ (b t : List Bool) (i : Nat), b.length = t.length → i < b.length → b.getD i false ≠ t.getD i false → dist (b.set i (!(b.getD i false))) t + 1 = dist b t
  | [], _, i, _, h, _ => by simp at h
  | x :: b, [], _, h, _, _ => by simp at h
  | x :: b, y :: t, 0, _, _, hne => by
    have hne : x ≠ y := by simpa using hne
    have h1 : (!x) = y := by revert hne; cases x <;> cases y <;> simp
    simp only [List.getD_cons_zero, List.set_cons_zero, dist]
    rw [if_pos h1, if_neg hne]; omega
  | x :: b, y :: t, i + 1, hl, hi, hne => by
    simp only [List.length_cons] at hl hi
    have ih := dist_flip b t i (by omega) (by omega) (by simpa using hne)
    simp only [List.getD_cons_succ, List.set_cons_succ, dist]
    omega
theorem dist_zero : ∀ (b t : List Bool), b.length = t.length → dist b t = 0 → b = t
  | [], [], _, _ => rfl
  | [], _ :: _, h, _ => by simp at h
  | _ :: _, [], h, _ => by simp at h
  | x :: b, y :: t, hl, h => by
    simp only [List.length_cons] at hl
    simp only [dist] at h
    have h1 : x = y := by
      by_cases e : x = y
      · exact e
      · rw [if_neg e] at h; omega
    rw [h1, dist_zero b t (by omega) (by omega)]
theorem dist_le : ∀ (b t : List Bool), dist b t ≤ b.length
  | [], _ => by simp [dist]
  | _ :: _, [] => by simp [dist]
  | x :: b, y :: t => by
    have := dist_le b t
    simp only [dist, List.length_cons]
    split <;> omega
theorem dist_pos {b t : List Bool} (hl : b.length = t.length) {L : List Nat} (h : parL b L ≠ parL t L) : 1 ≤ dist b t := by
  by_cases h0 : dist b t = 0
  · exact absurd (by rw [dist_zero b t hl h0]) h
  · omega

/-! ### Questions, parts of questions -/
theorem plQ_one {O : Nat → List Nat} {p f x : Nat} (hx : (O p)[f]? = some x) : plQ O ⟨p, f, f + 1⟩ = [x] := by
  unfold plQ
  simp only [show f + 1 - f = 1 by omega]
  obtain ⟨h1, h2⟩ := List.getElem?_eq_some_iff.1 hx
  rw [List.drop_eq_getElem_cons h1, h2]; rfl
theorem plQ_split {O : Nat → List Nat} {p f m t : Nat} (h1 : f ≤ m) (h2 : m ≤ t) : plQ O ⟨p, f, t⟩ = plQ O ⟨p, f, m⟩ ++ plQ O ⟨p, m, t⟩ := by
  unfold plQ
  simp only
  rw [show t - f = (m - f) + (t - m) by omega, List.take_add, List.drop_drop, show f + (m - f) = m by omega]
theorem parL_one (b : List Bool) (x : Nat) : parL b [x] = b.getD x false := by simp [parL]
theorem nodup_len : ∀ (M : Nat) (L : List Nat), L.Nodup → (∀ x ∈ L, x < M) → L.length ≤ M
  | 0, L, _, h => by
    cases L with
    | nil => simp
    | cons x L => have := h x (by simp); omega
  | M + 1, L, hn, h => by
    have h1 := nodup_len M (L.filter (· ≠ M)) (hn.filter _) (fun x hx => by
      have hx := List.mem_filter.1 hx
      have := h x hx.1
      have := of_decide_eq_true hx.2
      omega)
    have h2 : L.length ≤ (L.filter (· ≠ M)).length + 1 := by
      clear h h1
      induction L with
      | nil => simp
      | cons x L ih =>
        obtain ⟨ha, hn'⟩ := List.nodup_cons.1 hn
        by_cases e : x = M
        · have h3 : L.filter (· ≠ M) = L := List.filter_eq_self.2 fun y hy => by
            simp only [decide_eq_true_eq, ne_eq]
            rintro rfl; exact ha (e ▸ hy)
          rw [List.filter_cons_of_neg (by simp [e]), h3]; simp
        · have := ih hn'
          simp only [List.filter_cons, ne_eq, e, not_false_eq_true, decide_true, if_true, List.length_cons]
          simp only [ne_eq] at this
          omega
    omega
/-- A question's number: different questions have different ones. -/
def numQ (n : Nat) (q : Qs) : Nat := (q.p * (n + 1) + q.fr) * (n + 1) + q.tt
theorem numQ_inj {n : Nat} {q r : Qs} {ps : Nat} (hq : okQn ps n q) (hr : okQn ps n r) (h : numQ n q = numQ n r) : q = r := by
  obtain ⟨a, f, t⟩ := q
  obtain ⟨a', f', t'⟩ := r
  unfold numQ at h
  obtain ⟨_, h2, h3⟩ := hq
  obtain ⟨_, h5, h6⟩ := hr
  simp only at h h2 h3 h5 h6
  have e1 : (a * (n + 1) + f) = (a' * (n + 1) + f') := by
    have g1 : ((a * (n + 1) + f) * (n + 1) + t) / (n + 1) = a * (n + 1) + f := by
      rw [Nat.mul_comm, Nat.mul_add_div (by omega), Nat.div_eq_of_lt (by omega), Nat.add_zero]
    have g2 : ((a' * (n + 1) + f') * (n + 1) + t') / (n + 1) = a' * (n + 1) + f' := by
      rw [Nat.mul_comm, Nat.mul_add_div (by omega), Nat.div_eq_of_lt (by omega), Nat.add_zero]
    rw [← g1, ← g2, h]
  have e2 : a = a' := by
    have g1 : (a * (n + 1) + f) / (n + 1) = a := by
      rw [Nat.mul_comm, Nat.mul_add_div (by omega), Nat.div_eq_of_lt (by omega), Nat.add_zero]
    have g2 : (a' * (n + 1) + f') / (n + 1) = a' := by
      rw [Nat.mul_comm, Nat.mul_add_div (by omega), Nat.div_eq_of_lt (by omega), Nat.add_zero]
    rw [← g1, ← g2, e1]
  subst e2
  have e3 : f = f' := by omega
  subst e3
  have e4 : t = t' := by omega
  rw [e4]
theorem numQ_lt {n : Nat} {q : Qs} {ps : Nat} (hq : okQn ps n q) : numQ n q < ps * (n + 1) * (n + 1) := by
  obtain ⟨a, f, t⟩ := q
  obtain ⟨h1, h2, h3⟩ := hq
  simp only at h1 h2 h3
  unfold numQ
  simp only
  have g1 : a * (n + 1) + f + 1 ≤ ps * (n + 1) := by
    have : (a + 1) * (n + 1) ≤ ps * (n + 1) := Nat.mul_le_mul_right _ h1
    rw [Nat.add_mul] at this; omega
  have g2 : (a * (n + 1) + f + 1) * (n + 1) ≤ ps * (n + 1) * (n + 1) := Nat.mul_le_mul_right _ g1
  rw [Nat.add_mul] at g2; omega
theorem told_len {n ps : Nat} {L : List Qs} (hn : L.Nodup) (h : ∀ q ∈ L, okQn ps n q) : L.length ≤ ps * (n + 1) * (n + 1) := by
  have h1 : (L.map (numQ n)).Nodup := by
    induction L with
    | nil => simp
    | cons q L ih =>
      obtain ⟨ha, hn'⟩ := List.nodup_cons.1 hn
      rw [List.map_cons, List.nodup_cons]
      refine ⟨fun hm => ?_, ih hn' fun x hx => h x (by simp [hx])⟩
      obtain ⟨r, hr, e⟩ := List.mem_map.1 hm
      exact ha ((numQ_inj (h r (by simp [hr])) (h q (by simp)) e) ▸ hr)
  have h2 := nodup_len (ps * (n + 1) * (n + 1)) _ h1 (fun x hx => by
    obtain ⟨r, hr, rfl⟩ := List.mem_map.1 hx
    exact numQ_lt (h r hr))
  rwa [List.length_map] at h2

/-! ### The course -/
/-- What does not turn in a course: the plan, the number of bits, the orders, the blocks, the true string, how far it was at the start. -/
structure Crs where
  c : Cas
  n : Nat
  O : Nat → List Nat
  BL : Nat → List Qs
  tr : List Bool
  d : Nat
def Crs.tp (C : Crs) (q : Qs) : Bool := parL C.tr (plQ C.O q)
structure Crs.Ok (C : Crs) : Prop where
  hn : C.n ≤ 64
  hp : C.c.p ≤ 6
  ltr : C.tr.length = C.n
  lO : ∀ p, (C.O p).length = C.n
  O : ∀ p x, x ∈ C.O p → x < C.n
  BL : ∀ p q, p < C.c.p → q ∈ C.BL p → okQn C.c.p C.n q ∧ q.p = p
  lB : ∀ p, p < C.c.p → (C.BL p).length ≤ C.n
structure Inv (C : Crs) (s : Mst) : Prop where
  len : s.b.length = C.n
  told : ∀ x ∈ s.told, okQn C.c.p C.n x.q ∧ x.v = C.tp x.q
  nd : (s.told.map Ans.q).Nodup
  ps : s.ps ≤ C.c.p
  bk : s.bk ≤ C.n
  bk' : s.ps < C.c.p → s.bk ≤ (C.BL s.ps).length
  known : ∀ p q, p < s.ps → q ∈ C.BL p → q ∈ s.told.map Ans.q
  knownb : s.ps < C.c.p → ∀ i q, i < s.bk → (C.BL s.ps)[i]? = some q → q ∈ s.told.map Ans.q
  fl : s.fl + dist s.b C.tr ≤ C.n
  d0 : dist s.b C.tr ≤ C.d
  nf : s.failed = false
/-- Behind a pass's search: it is even all over. -/
def Even (C : Crs) (s : Mst) (ps : Nat) : Prop := ∀ p q, p < ps → q ∈ C.BL p → parL s.b (plQ C.O q) = C.tp q
def PAsk (C : Crs) (s : Mst) : Prop := Inv C s ∧ s.srch = false ∧ Even C s s.ps
def PSea (C : Crs) (s : Mst) : Prop := Inv C s ∧ s.srch = false ∧ s.ps < C.c.p ∧ s.bk = (C.BL s.ps).length
def PHal (C : Crs) (s : Mst) : Prop := Inv C s ∧ s.srch = true ∧ s.ps < C.c.p ∧ s.bk = (C.BL s.ps).length ∧ okQn C.c.p C.n s.odd ∧ s.ans = C.tp s.odd ∧ parL s.b (plQ C.O s.odd) ≠ s.ans
/-- The course waits for an answer, or has ended. -/
def Waits (C : Crs) (s : Mst) : Prop := s.opn = true ∧ okQn C.c.p C.n s.nxt ∧ s.nxt ∉ s.told.map Ans.q ∧ (PAsk C s ∨ PHal C s)
def Ended (C : Crs) (s : Mst) : Prop := s.opn = false ∧ s.ps = C.c.p ∧ PAsk C s
def Rests (C : Crs) (s : Mst) : Prop := Waits C s ∨ Ended C s
theorem Inv.told_le {C : Crs} {s : Mst} (h : Inv C s) : s.told.length ≤ C.c.p * (C.n + 1) * (C.n + 1) := by
  have := told_len h.nd (ps := C.c.p) (n := C.n) (fun q hq => by
    obtain ⟨x, hx, rfl⟩ := List.mem_map.1 hq
    exact (h.told x hx).1)
  rwa [List.length_map] at this
theorem Even.mono {C : Crs} {s s' : Mst} {m : Nat} (h : Even C s m) (hb : s'.b = s.b) : Even C s' m := fun p q hp hq => by rw [hb]; exact h p q hp hq
/-- A state of the same string, the same answers, the same flips, elsewhere. -/
theorem Inv.elsewhere {C : Crs} {s s' : Mst} (h : Inv C s) (hb : s'.b = s.b) (ht : s'.told = s.told) (hf : s'.fl = s.fl) (hx : s'.failed = s.failed) (hp : s'.ps = s.ps) (hk : s'.bk = s.bk) : Inv C s' :=
  ⟨by rw [hb]; exact h.len, by rw [ht]; exact h.told, by rw [ht]; exact h.nd, by rw [hp]; exact h.ps, by rw [hk]; exact h.bk, by rw [hp, hk]; exact h.bk', by rw [hp, ht]; exact h.known, by rw [hp, hk, ht]; exact h.knownb, by rw [hb, hf]; exact h.fl, by rw [hb]; exact h.d0, by rw [hx]; exact h.nf⟩
/-- The next block is known. -/
theorem PAsk.next {C : Crs} {s : Mst} {q : Qs} (hC : C.Ok) (h : PAsk C s) (hp : s.ps < C.c.p) (hq : (C.BL s.ps)[s.bk]? = some q) (hm : q ∈ s.told.map Ans.q) : PAsk C { s with bk := s.bk + 1 } := by
  obtain ⟨i, h2, h3⟩ := h
  have hlt := (List.getElem?_eq_some_iff.1 hq).1
  have hl := hC.lB s.ps hp
  refine ⟨⟨i.len, i.told, i.nd, i.ps, by simp only; omega, fun _ => by simp only; omega, i.known, fun _ j r hj hr => ?_, i.fl, i.d0, i.nf⟩, h2, h3.mono rfl⟩
  simp only at hj hr ⊢
  by_cases e : j = s.bk
  · subst e
    rw [hq] at hr
    obtain rfl := Option.some.inj hr
    exact hm
  · exact i.knownb hp j r (by omega) hr
/-- The next block is not known: it is asked. -/
theorem PAsk.wait {C : Crs} {s : Mst} {q : Qs} (hC : C.Ok) (h : PAsk C s) (hp : s.ps < C.c.p) (hq : (C.BL s.ps)[s.bk]? = some q) (hm : q ∉ s.told.map Ans.q) : Waits C { s with nxt := q, opn := true } :=
  ⟨rfl, (hC.BL _ _ hp (List.mem_of_getElem? hq)).1, hm, .inl ⟨h.1.elsewhere rfl rfl rfl rfl rfl rfl, h.2.1, h.2.2.mono rfl⟩⟩
theorem PAsk.search {C : Crs} {s : Mst} (h : PAsk C s) (hp : s.ps < C.c.p) (hb : ¬ s.bk < (C.BL s.ps).length) : PSea C s :=
  ⟨h.1, h.2.1, hp, by have := h.1.bk' hp; omega⟩
/-- Nothing odd was found: the next pass. -/
theorem PSea.up {C : Crs} {s : Mst} (h : PSea C s) (he : Even C s (s.ps + 1)) : PAsk C { s with ps := s.ps + 1, bk := 0 } := by
  obtain ⟨i, h2, h3, h4⟩ := h
  refine ⟨⟨i.len, i.told, i.nd, h3, Nat.zero_le _, fun _ => Nat.zero_le _, fun p q hp hq => ?_, fun _ j r hj _ => absurd hj (by simp), i.fl, i.d0, i.nf⟩, h2, he.mono rfl⟩
  simp only at hp hq ⊢
  by_cases e : p = s.ps
  · subst e
    obtain ⟨j, hj⟩ := List.getElem?_of_mem hq
    exact i.knownb h3 j q (by rw [h4]; exact (List.getElem?_eq_some_iff.1 hj).1) hj
  · exact i.known p q (by omega) hq
theorem PSea.known {C : Crs} {s : Mst} (h : PSea C s) {p : Nat} {q : Qs} (hp : p ≤ s.ps) (hq : q ∈ C.BL p) : q ∈ s.told.map Ans.q := by
  obtain ⟨i, h2, h3, h4⟩ := h
  by_cases e : p = s.ps
  · subst e
    obtain ⟨j, hj⟩ := List.getElem?_of_mem hq
    exact i.knownb h3 j q (by rw [h4]; exact (List.getElem?_eq_some_iff.1 hj).1) hj
  · exact i.known p q (by omega) hq
/-- Something odd was found. -/
theorem PSea.halve {C : Crs} {s : Mst} {q : Qs} (hC : C.Ok) (h : PSea C s) (hq : okQn C.c.p C.n q) (ho : parL s.b (plQ C.O q) ≠ C.tp q) : s.fl < C.n ∧ PHal C { s with odd := q, ans := C.tp q, srch := true } := by
  obtain ⟨i, h2, h3, h4⟩ := h
  have h1 : 1 ≤ dist s.b C.tr := dist_pos (by rw [i.len, hC.ltr]) ho
  exact ⟨by have := i.fl; omega, i.elsewhere rfl rfl rfl rfl rfl rfl, rfl, h3, h4, hq, rfl, ho⟩
/-- A single bit is inverted. -/
theorem PHal.flip {C : Crs} {s : Mst} {x : Nat} (hC : C.Ok) (h : PHal C s) (h1 : s.odd.tt = s.odd.fr + 1) (hx : (C.O s.odd.p)[s.odd.fr]? = some x) : PSea C { s with b := s.b.set x (!(s.b.getD x false)), fl := s.fl + 1, srch := false } ∧ s.fl < C.n := by
  obtain ⟨i, h2, h3, h4, h5, h6, h7⟩ := h
  have hxn : x < C.n := hC.O _ x (List.mem_of_getElem? hx)
  have e : plQ C.O s.odd = [x] := by
    have := plQ_one hx
    rw [← h1] at this
    exact this
  have hd : s.b.getD x false ≠ C.tr.getD x false := by
    rw [h6] at h7
    unfold Crs.tp at h7
    rwa [e, parL_one, parL_one] at h7
  have hf := dist_flip s.b C.tr x (by rw [i.len, hC.ltr]) (by rw [i.len]; exact hxn) hd
  have hfl := i.fl
  have hd0 := i.d0
  exact ⟨⟨⟨by simp only [List.length_set]; exact i.len, i.told, i.nd, i.ps, i.bk, i.bk', i.known, i.knownb, by simp only; omega, by simp only; omega, i.nf⟩, rfl, h3, h4⟩, by omega⟩
def loQ (q : Qs) : Qs := ⟨q.p, q.fr, q.fr + (q.tt - q.fr) / 2⟩
def hiQ (q : Qs) : Qs := ⟨q.p, q.fr + (q.tt - q.fr) / 2, q.tt⟩
theorem loQ_ok {ps n : Nat} {q : Qs} (h : okQn ps n q) (h1 : q.tt ≠ q.fr + 1) : okQn ps n (loQ q) := by
  obtain ⟨a, b, c⟩ := h; unfold loQ okQn; simp only; omega
theorem hiQ_ok {ps n : Nat} {q : Qs} (h : okQn ps n q) : okQn ps n (hiQ q) := by
  obtain ⟨a, b, c⟩ := h; unfold hiQ okQn; simp only; omega
theorem PHal.wait {C : Crs} {s : Mst} (h : PHal C s) (h1 : s.odd.tt ≠ s.odd.fr + 1) (hm : loQ s.odd ∉ s.told.map Ans.q) : Waits C { s with nxt := loQ s.odd, opn := true } := by
  obtain ⟨i, h2, h3, h4, h5, h6, h7⟩ := h
  exact ⟨rfl, loQ_ok h5 h1, hm, .inr ⟨i.elsewhere rfl rfl rfl rfl rfl rfl, h2, h3, h4, h5, h6, h7⟩⟩
theorem PHal.lo {C : Crs} {s : Mst} (h : PHal C s) (h1 : s.odd.tt ≠ s.odd.fr + 1) (ho : parL s.b (plQ C.O (loQ s.odd)) ≠ C.tp (loQ s.odd)) : PHal C { s with odd := loQ s.odd, ans := C.tp (loQ s.odd) } := by
  obtain ⟨i, h2, h3, h4, h5, h6, h7⟩ := h
  exact ⟨i.elsewhere rfl rfl rfl rfl rfl rfl, h2, h3, h4, loQ_ok h5 h1, rfl, ho⟩
theorem PHal.hi {C : Crs} {s : Mst} (h : PHal C s) (ho : parL s.b (plQ C.O (loQ s.odd)) = C.tp (loQ s.odd)) : PHal C { s with odd := hiQ s.odd, ans := (s.ans != C.tp (loQ s.odd)) } := by
  obtain ⟨i, h2, h3, h4, h5, h6, h7⟩ := h
  have es : ∀ b : List Bool, parL b (plQ C.O s.odd) = (parL b (plQ C.O (loQ s.odd)) != parL b (plQ C.O (hiQ s.odd))) := fun b => by
    have h8 := h5.2.1
    have := plQ_split (O := C.O) (p := s.odd.p) (f := s.odd.fr) (m := s.odd.fr + (s.odd.tt - s.odd.fr) / 2) (t := s.odd.tt) (by omega) (by omega)
    rw [show plQ C.O s.odd = plQ C.O ⟨s.odd.p, s.odd.fr, s.odd.tt⟩ from rfl, this, parL_append]
    rfl
  have e1 : (s.ans != C.tp (loQ s.odd)) = C.tp (hiQ s.odd) := by
    rw [h6]
    unfold Crs.tp
    rw [es C.tr]
    cases parL C.tr (plQ C.O (loQ s.odd)) <;> cases parL C.tr (plQ C.O (hiQ s.odd)) <;> rfl
  refine ⟨i.elsewhere rfl rfl rfl rfl rfl rfl, h2, h3, h4, hiQ_ok h5, e1, ?_⟩
  simp only
  intro hc
  apply h7
  rw [es s.b, ho, hc]
  cases s.ans <;> cases C.tp (loQ s.odd) <;> rfl
/-- An answer. -/
theorem Waits.tell {C : Crs} {s : Mst} (h : Waits C s) : PAsk C { s with told := s.told ++ [⟨s.nxt, C.tp s.nxt⟩] } ∨ PHal C { s with told := s.told ++ [⟨s.nxt, C.tp s.nxt⟩] } := by
  obtain ⟨h1, h2, h3, h4⟩ := h
  have key : Inv C s → Inv C { s with told := s.told ++ [⟨s.nxt, C.tp s.nxt⟩] } := fun i => by
    have hsub : ∀ q, q ∈ s.told.map Ans.q → q ∈ (s.told ++ [(⟨s.nxt, C.tp s.nxt⟩ : Ans)]).map Ans.q := fun q hq => by
      rw [List.map_append]; exact List.mem_append_left _ hq
    refine ⟨i.len, fun x hx => ?_, ?_, i.ps, i.bk, i.bk', fun p q hp hq => hsub q (i.known p q hp hq), fun hp j q hj hq => hsub q (i.knownb hp j q hj hq), i.fl, i.d0, i.nf⟩
    · rcases List.mem_append.1 hx with hx | hx
      · exact i.told x hx
      · obtain rfl := List.mem_singleton.1 hx
        exact ⟨h2, rfl⟩
    · simp only [List.map_append, List.map_cons, List.map_nil]
      rw [List.nodup_append]
      refine ⟨i.nd, by simp, fun a ha b hb => ?_⟩
      obtain rfl := List.mem_singleton.1 hb
      rintro rfl
      exact h3 ha
  rcases h4 with ⟨i, g⟩ | ⟨i, g⟩
  · exact .inl ⟨key i, g.1, g.2.mono rfl⟩
  · exact .inr ⟨key i, g⟩
/-- How much of the course is left at most. -/
def mu (C : Crs) (s : Mst) (ph : Nat) : Nat := (C.n - s.fl) * 1000 + (C.c.p - s.ps) * 100 + ph
end Go.Proofs.Ytchhkokpjdkkiaa
