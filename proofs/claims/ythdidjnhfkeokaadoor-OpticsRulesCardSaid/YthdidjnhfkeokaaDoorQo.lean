/- The frame of a law: its arguments opened, and read again as they were; what the row's condition gives of the library's table. Plain lemmas. -/
import Derived.Test.YthdidjnhfkeokaaDoorRows
import Derived.Test.YthdidjnhfkeokaaDoorQk
import Derived.ProofKit
import Derived.OpenShut
import Derived.Below
import Derived.Carry
import Derived.Lib.SmallJoins
import Derived.Lib.LaidTab
import Derived.LaidMore
import Derived.LaidHandle
import Derived.Stop.Joined
import Derived.Stop.LaidErr
import Derived.Deep.Slices
import Derived.Deep.Fields
import Derived.ChangeSame
namespace Go.Proofs.YthdidjnhfkeokaaDoor
open Go.ChangeShapes Go.WideShapes Go.ChangeAt Go.Deep Go.RowKit

theorem post_of_below {H : Type} {enc : TypeId × Value → H} {P : Program} {f : Func} {s : ChangeSpec} {apart fresh handsOn again : Bool} {W W' : World} {args : Array Value} {v : Value} {ds gs : List (DataW H)} {before pa pv : List MemPlace}
    (hW : DataW.Whole enc P f.params.toList s.vars apart W args.toList ds gs before)
    (hres : ∀ (b : Nat) (sp : Nat → Bool) (hd : Bool), DataW.TrodAll enc P W' b sp hd f.resultTypes.toList (v.resultList f.resultTypes.size) (s.fn H (ds ++ gs)).results [])
    (hargs : ∀ sp : Nat → Bool, (∀ p ∈ before, sp p.block = true) → DataW.TrodAll enc P W' 0 sp true f.params.toList args.toList (s.fn H (ds ++ gs)).args pa)
    (hvars : ∀ sp : Nat → Bool, (∀ p ∈ before, sp p.block = true) → DataW.TrodVars enc P W' sp s.vars (s.fn H (ds ++ gs)).vars pv)
    (hps : before = pa ++ pv) (hb : Below W.heap.size W W')
    (hok : ∀ (j : Nat) (t : TypeId) (r : Value), f.resultTypes[j]? = some t → (v.resultList f.resultTypes.size)[j]? = some r → Value.okWide P W' .any 0 t r) :
    s.post enc P f apart fresh handsOn again W args v W' := by
  have hold : ∀ p ∈ before, (fun b => decide (b < W.heap.size)) p.block = true := fun p hp => by simpa using hW.lt p hp
  have hlt := hW.lt
  refine ⟨ds, gs, before, [], pa, pv, hW, hres _ _ _, hargs _ hold, hvars _ hold, World.keptBut_mono (fun p hp => ⟨hp, ?_⟩) (hb.frame (· ∈ before)), fun _ => ?_⟩
  · rw [hps, List.mem_append] at hp
    exact Or.inr hp
  · obtain ⟨_, _, _, _, _, hz, hn⟩ := hW
    refine ⟨hok, _, _, ([] ++ pa) ++ pv, ⟨[] ++ pa, pv, trodAll_append (hargs _ (fun _ _ => rfl)) (hres _ _ _), hvars _ (fun _ _ => rfl), rfl, ?_, ?_⟩, ?_⟩
    · intro b off hp
      have hm := hp
      rw [List.nil_append, ← hps] at hm
      rw [hb.frozen (show b < W.heap.size from hlt _ hm)]
      exact hz b off hm
    · intro ha
      have := hn ha
      rw [hps] at this
      simpa using this
    · intro p hp _
      rw [hps]
      simpa using hp
theorem Below.same' {W W' : World} (hb : Below W.heap.size W W') {b : Nat} (h : b < W.heap.size) : W'.heap[b]? = W.heap[b]? := hb.block b h

theorem trodAll_keep {H : Type} {enc : TypeId × Value → H} {P : Program} (hl : laidOutB P = true) {W W' : World} (hb : Below W.heap.size W W') {sp : Nat → Bool} :
    ∀ {ts : List TypeId} {vs : List Value} {ds : List (DataW H)} {ps : List MemPlace}, (ts.all fun t => P.readableRec t && decide (t < P.types.size)) = true → DataW.TrodAll enc P W 0 (fun _ => true) true ts vs ds ps →
      (∀ x ∈ ps, x.block < W.heap.size) → (∀ x ∈ ps, sp x.block = true) → DataW.TrodAll enc P W' 0 sp true ts vs ds ps
  | [], [], [], ps, _, h, _, _ => h
  | [], [], _ :: _, _, _, h, _, _ => h.elim
  | [], _ :: _, _, _, _, h, _, _ => h.elim
  | _ :: _, [], _, _, _, h, _, _ => h.elim
  | t :: ts, v :: vs, ds, ps, ht, h, hlt, hsp => by
    simp only [List.all_cons, Bool.and_eq_true, decide_eq_true_eq] at ht
    obtain ⟨v0, vs0, d0, ds0, p0, p1, hvs, rfl, rfl, h0, r0⟩ := trodAll_cons h
    cases hvs
    exact trodAll_cons_mk (WideElems.Trod_stays hl ht.1.1 ht.1.2 h0 (fun x hx => hb.same (hlt x (by simp [hx]))) (fun x hx => hsp x (by simp [hx])))
      (trodAll_keep hl hb ht.2 r0 (fun x hx => hlt x (by simp [hx])) (fun x hx => hsp x (by simp [hx])))

section
variable {H : Type} {enc : TypeId × Value → H} {P : Program} {w : World} {base : Nat} {spare : Nat → Bool} {held : Bool}
theorem open_slice_fields {t e : TypeId} {fs : Array Field} {fuel : Nat} {cs : List Value} {x : DataW H × List MemPlace} (ht : P.underlying t = some (.slice e)) (he : P.underlying e = some (.struct fs))
    (hone : oneCellFields P fs = true) (hC : P.cellsOf e = fs.size) (h : DataW.trod enc P w base spare held fuel t cs = some x) :
    (cs = [.slice none 0 0] ∧ x = (.nil, [])) ∨
    ∃ (a : Addr) (len cap m : Nat) (D : Nat → DataW H) (Pl : Nat → List MemPlace), cs = [.slice (some a) len cap] ∧ base ≤ a.block ∧ len ≤ cap ∧ cap ≤ maxLen ∧ m = (if spare a.block then cap else len) ∧
      x = (.slice ((List.range len).map D) ((List.range (m - len)).map fun j => D (len + j)), MemPlace.row a (m * fs.size) ++ (List.range m).flatMap Pl) ∧
      ∀ i, i < m → ∃ (ys : List (DataW H × List MemPlace)) (n : Nat), D i = .agg (ys.map (·.1)) ∧ Pl i = ys.flatMap (·.2) ∧ ys.length = fs.size ∧
        ∀ (j : Nat) (f : Field), fs[j]? = some f → ∃ (v : Value) (y : DataW H × List MemPlace), w.cell? (a.add (i * fs.size + j)) = some v ∧ ys[j]? = some y ∧ DataW.trod enc P w base spare held n f.type [v] = some y := by
  rcases open_slice ht h with h0 | ⟨a, len, cap, m, n, D, Pl, hcs, hb, hl, hm, hmm, hx, hi⟩
  · exact .inl h0
  · refine .inr ⟨a, len, cap, m, D, Pl, hcs, hb, hl, hm, hmm, by rw [hC] at hx; exact hx, fun i him => ?_⟩
    obtain ⟨cs', hc, ht'⟩ := hi i him
    rw [hC] at hc
    obtain ⟨ys, n', hn', hy, hlen, hyl, hf⟩ := DataW.trod_struct he ht'
    obtain ⟨_, hcl, hat⟩ := World.cells?_some hc
    simp only [Prod.mk.injEq] at hy
    refine ⟨ys, n', hy.1, hy.2, hyl, fun j f hj => ?_⟩
    obtain ⟨ho, hk⟩ := hone_of hone j f hj
    have hjl : j < fs.size := (Array.getElem?_eq_some_iff.1 hj).1
    have hcell := hat j hjl
    have hv : cs'[j]? = some (cs'[j]'(by omega)) := List.getElem?_eq_getElem (by omega)
    have h1 := hf j f hj
    rw [ho, hk] at h1
    have hone' : (cs'.drop j).take 1 = [cs'[j]'(by omega)] := by
      rw [List.drop_eq_getElem_cons (by omega)]
      rfl
    rw [hone'] at h1
    have hys : ys[j]? = some (ys[j]'(by omega)) := List.getElem?_eq_getElem (by omega)
    refine ⟨_, _, ?_, hys, h1.trans hys⟩
    rw [← Go.Deep.add_add, hcell, hv]
end

theorem exists_list {α : Type} (p : Nat → α → Prop) : ∀ (n : Nat), (∀ i, i < n → ∃ x, p i x) → ∃ L : List α, L.length = n ∧ ∀ i x, L[i]? = some x → p i x
  | 0, _ => ⟨[], rfl, by simp⟩
  | n + 1, h => by
    obtain ⟨L, hl, hp⟩ := exists_list p n (fun i hi => h i (by omega))
    obtain ⟨x, hx⟩ := h n (by omega)
    refine ⟨L ++ [x], by simp [hl], fun i y hy => ?_⟩
    by_cases hi : i < n
    · rw [List.getElem?_append_left (by omega)] at hy; exact hp i y hy
    · rw [List.getElem?_append_right (by omega), hl] at hy
      have h0 : i - n = 0 := by
        have := (List.getElem?_eq_some_iff.1 hy).1
        simp at this; omega
      rw [h0] at hy
      have : i = n := by omega
      subst this
      simp at hy; subst hy; exact hx

theorem open_rows {α : Type} (e : Enc α) {H : Type} {enc : TypeId × Value → H} {P : Program} {W : World} {r : Reach} {b0 : Nat} {t et : TypeId} {fs : Array Field} (ht : P.underlying t = some (.slice et)) (he : P.underlying et = some (.struct fs))
    (hone : oneCellFields P fs = true) (hC : P.cellsOf et = fs.size) (hnf : fs.size = e.nf)
    (hdec : ∀ vs : Nat → Value, (∀ (j : Nat) (f : Field), fs[j]? = some f → ∃ (n : Nat) (y : DataW H × List MemPlace), DataW.trod enc P W 0 (fun _ => true) true n f.type [vs j] = some y) → ∃ x : α, ∀ (j : Nat) (v : Value), (e.cells x)[j]? = some v → vs j = v)
    {v : Value} {d : DataW H} {ps : List MemPlace} (hv : Value.okWide P W r b0 t v) (h : DataW.Trod enc P W 0 (fun _ => true) true t v d ps) : ∃ A n c L, v = .slice A n c ∧ Rd e W W.heap.size A n c L := by
  obtain ⟨a0, len0, cap0, rfl⟩ := okWide_slice ht hv
  obtain ⟨fuel, hf⟩ := h
  rcases open_slice_fields ht he hone hC hf with ⟨hcs, _⟩ | ⟨a, len, cap, m, D, Pl, hcs, _, hl, hm, hmm, _, hi⟩
  · cases hcs
    exact ⟨_, _, _, [], rfl, Rd.nil _ _ _ _ (by omega)⟩
  · cases hcs
    have hlm : len0 ≤ m := by rw [hmm]; simp only [if_true]; exact hl
    have hcap : cap0 ≤ 9223372036854775807 := by simpa [maxLen] using hm
    have key : ∀ i, i < len0 → ∃ x : α, ∀ (j : Nat) (u : Value), (e.cells x)[j]? = some u → W.cell? (a.add (i * e.nf + j)) = some u := by
      intro i hil
      obtain ⟨ys, n, _, _, _, hfj⟩ := hi i (by omega)
      have hch : ∃ vs : Nat → Value, ∀ (j : Nat) (f : Field), fs[j]? = some f → W.cell? (a.add (i * fs.size + j)) = some (vs j) ∧ ∃ (n : Nat) (y : DataW H × List MemPlace), DataW.trod enc P W 0 (fun _ => true) true n f.type [vs j] = some y := by
        refine ⟨fun j => (W.cell? (a.add (i * fs.size + j))).getD undef, fun j f hjf => ?_⟩
        obtain ⟨u, y, hc, _, hy⟩ := hfj j f hjf
        simp only [hc, Option.getD_some]
        exact ⟨trivial, n, y, hy⟩
      obtain ⟨vs, hvs⟩ := hch
      obtain ⟨x, hx⟩ := hdec vs (fun j f hjf => (hvs j f hjf).2)
      refine ⟨x, fun j u hu => ?_⟩
      have hj : j < fs.size := by rw [hnf]; exact Enc.cell_lt hu
      have := (hvs j fs[j] (Array.getElem?_eq_getElem hj)).1
      rw [hx j u hu, hnf] at this
      exact this
    obtain ⟨L, hL, hp⟩ := exists_list _ len0 key
    refine ⟨_, _, _, L, rfl, hL, hl, hcap, fun hn => ?_⟩
    obtain ⟨b, off, spot⟩ := a
    have hx0 : L[0]? = some L[0] := List.getElem?_eq_getElem (by omega)
    have hv0 : (e.cells L[0])[0]? = some ((e.cells L[0])[0]'(by rw [e.len]; exact e.pos)) := List.getElem?_eq_getElem (by rw [e.len]; exact e.pos)
    have h0 := hp 0 _ hx0 0 _ hv0
    have hspot : spot = none := by simpa [Addr.add] using World.cell?_spot h0
    subst hspot
    refine ⟨b, off, rfl, ?_, fun i x hx j u hu => ?_⟩
    · rcases Nat.lt_or_ge b W.heap.size with h1 | h1
      · exact h1
      · exfalso
        unfold World.cell? at h0
        rw [addr_add] at h0
        simp [Array.getElem?_eq_none h1] at h0
    · have h1 := hp i x hx j u hu
      rw [addr_add, ← Nat.add_assoc] at h1
      exact h1

section
variable {H : Type} {enc : TypeId × Value → H} {W : World} {r : Reach} {b0 : Nat} {v : Value} {d : DataW H} {ps : List MemPlace}
set_option maxRecDepth 100000 in
theorem open_pulses (hv : Value.okWide Tryd.prog W r b0 38 v) (h : DataW.Trod enc Tryd.prog W 0 (fun _ => true) true 38 v d ps) : ∃ A n c L, v = .slice A n c ∧ Rd ePu W W.heap.size A n c L :=
  open_rows ePu Tryd.underlying38 Tryd.underlying55 (by kernel_rfl) (by kernel_rfl) rfl (fun vs hf => by
    obtain ⟨_, _, h0⟩ := hf 0 _ rfl
    obtain ⟨_, _, h1⟩ := hf 1 _ rfl
    obtain ⟨_, _, h2⟩ := hf 2 _ rfl
    obtain ⟨_, _, h3⟩ := hf 3 _ rfl
    obtain ⟨_, _, h4⟩ := hf 4 _ rfl
    obtain ⟨x0, e0, _⟩ := DataW.trod_int Tryd.underlying3 h0
    obtain ⟨x1, e1, _⟩ := DataW.trod_bool Tryd.underlying4 h1
    obtain ⟨x2, e2, _⟩ := DataW.trod_int Tryd.underlying3 h2
    obtain ⟨x3, e3, _⟩ := DataW.trod_int Tryd.underlying3 h3
    obtain ⟨x4, e4, _⟩ := DataW.trod_bool Tryd.underlying4 h4
    refine ⟨⟨x0, x1, x2, x3, x4⟩, fun j u hu => ?_⟩
    match j, hu with
    | 0, hu => simp [ePu] at hu; simpa [hu] using e0
    | 1, hu => simp [ePu] at hu; simpa [hu] using e1
    | 2, hu => simp [ePu] at hu; simpa [hu] using e2
    | 3, hu => simp [ePu] at hu; simpa [hu] using e3
    | 4, hu => simp [ePu] at hu; simpa [hu] using e4
    | j + 5, hu => simp [ePu] at hu) hv h
set_option maxRecDepth 100000 in
theorem open_clicks (hv : Value.okWide Tryd.prog W r b0 39 v) (h : DataW.Trod enc Tryd.prog W 0 (fun _ => true) true 39 v d ps) : ∃ A n c L, v = .slice A n c ∧ Rd eCk W W.heap.size A n c L :=
  open_rows eCk Tryd.underlying39 Tryd.underlying95 (by kernel_rfl) (by kernel_rfl) rfl (fun vs hf => by
    obtain ⟨_, _, h0⟩ := hf 0 _ rfl
    obtain ⟨_, _, h1⟩ := hf 1 _ rfl
    obtain ⟨x0, e0, _⟩ := DataW.trod_int Tryd.underlying3 h0
    obtain ⟨x1, e1, _⟩ := DataW.trod_int Tryd.underlying3 h1
    refine ⟨⟨x0, x1⟩, fun j u hu => ?_⟩
    match j, hu with
    | 0, hu => simp [eCk] at hu; simpa [hu] using e0
    | 1, hu => simp [eCk] at hu; simpa [hu] using e1
    | j + 2, hu => simp [eCk] at hu) hv h
set_option maxRecDepth 100000 in
theorem open_notes (hv : Value.okWide Tryd.prog W r b0 40 v) (h : DataW.Trod enc Tryd.prog W 0 (fun _ => true) true 40 v d ps) : ∃ A n c L, v = .slice A n c ∧ Rd eNo W W.heap.size A n c L :=
  open_rows eNo Tryd.underlying40 Tryd.underlying53 (by kernel_rfl) (by kernel_rfl) rfl (fun vs hf => by
    obtain ⟨_, _, h0⟩ := hf 0 _ rfl
    obtain ⟨_, _, h1⟩ := hf 1 _ rfl
    obtain ⟨_, _, h2⟩ := hf 2 _ rfl
    obtain ⟨_, _, h3⟩ := hf 3 _ rfl
    obtain ⟨x0, e0, _⟩ := DataW.trod_int Tryd.underlying3 h0
    obtain ⟨x1, e1, _⟩ := DataW.trod_int Tryd.underlying3 h1
    obtain ⟨x2, e2, _⟩ := DataW.trod_int Tryd.underlying3 h2
    obtain ⟨x3, e3, _⟩ := DataW.trod_bool Tryd.underlying4 h3
    refine ⟨⟨x0, x1, x2, x3⟩, fun j u hu => ?_⟩
    match j, hu with
    | 0, hu => simp [eNo] at hu; simpa [hu] using e0
    | 1, hu => simp [eNo] at hu; simpa [hu] using e1
    | 2, hu => simp [eNo] at hu; simpa [hu] using e2
    | 3, hu => simp [eNo] at hu; simpa [hu] using e3
    | j + 4, hu => simp [eNo] at hu) hv h
end

/-- What the row's condition gives of the table that strconv.Itoa reads, where it stands third on the list. -/
theorem tab_of_laid {W : World} {x y : String × DataW Unit} {rest : List (String × DataW Unit)} (h : laidMet Tryd.prog (x :: y :: ("internal/strconv.uint64pow10", Rows.laid_internal_strconv_uint64pow10) :: rest) W) : Tab W :=
  Lib.tabIs_of_head (g := 1) (t := 173) (e := 37) (n := 20) (by kernel_rfl) (by kernel_rfl) Tryd.underlying173 Tryd.underlying37 (by kernel_rfl) (by kernel_rfl) h.tail.tail
end Go.Proofs.YthdidjnhfkeokaaDoor
