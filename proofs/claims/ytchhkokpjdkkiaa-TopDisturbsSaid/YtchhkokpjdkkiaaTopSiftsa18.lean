/- The frame of a Top law: its arguments opened, and read again as they were. Plain lemmas. Contracts of sift's single, shiftable, Announce (the Top seat). Contract of sift's checkHeard at announcements that rise (the Top seat). -/
import Derived.Test.YtchhkokpjdkkiaaRows
import Derived.Test.YtchhkokpjdkkiaaTopSiftsa17
import Derived.ProofKit
import Derived.OpenShut
import Derived.Below
import Derived.Carry
import Derived.Lib.SmallJoins
import Derived.Deep.Slices
import Derived.Deep.Fields
import Derived.ChangeSame
import Derived.Test.YtchhkokpjdkkiaaTopSiftsa15
import Derived.Deep.RegionHeld3
namespace Go.Proofs.Ytchhkokpjdkkiaa
open Go.ChangeShapes Go.WideShapes Go.ChangeAt Go.Deep Go.RowKit

theorem post_of_below {H : Type} {enc : TypeId × Value → H} {P : Program} {f : Func} {s : ChangeSpec} {apart fresh handsOn again : Bool} {W W' : World} {args : Array Value} {v : Value} {ds gs : List (DataW H)} {before pa pv : List MemPlace}
    (hW : DataW.Whole enc P f.params.toList s.vars apart W args.toList ds gs before)
    (hres : ∀ (b : Nat) (sp : Nat → Bool) (hd : Bool), DataW.TrodAll enc P W' b sp hd f.resultTypes.toList (v.resultList f.resultTypes.size) (s.fn H (ds ++ gs)).results [])
    (hargs : ∀ sp : Nat → Bool, (∀ p ∈ before, sp p.block = true) → DataW.TrodAll enc P W' 0 sp true f.params.toList args.toList (s.fn H (ds ++ gs)).args pa)
    (hvars : ∀ sp : Nat → Bool, (∀ p ∈ before, sp p.block = true) → DataW.TrodVars enc P W' sp s.vars (s.fn H (ds ++ gs)).vars pv)
    (hps : before = pa ++ pv) (hb : Below W.heap.size W W')
    (hok : ∀ (j : Nat) (t : TypeId) (r : Value), f.resultTypes[j]? = some t → (v.resultList f.resultTypes.size)[j]? = some r → Value.okWide P W' .any 0 t r) :
    s.post enc P f apart fresh handsOn again W args v W' := by
  have hold : ∀ p ∈ before, (fun b => decide (b < W.heap.size)) p.block = true := fun p hp => by simpa using hW.lt p hp
  have hlt := hW.lt
  refine ⟨ds, gs, before, [], pa, pv, hW, hres _ _ _, hargs _ hold, hvars _ hold, World.keptBut_mono (fun p hp => ⟨hp, ?_⟩) (hb.frame (· ∈ before)), fun _ => ?_⟩
  · rw [hps, List.mem_append] at hp
    exact Or.inr hp
  · obtain ⟨_, _, _, _, _, hz, hn⟩ := hW
    refine ⟨hok, _, _, ([] ++ pa) ++ pv, ⟨[] ++ pa, pv, trodAll_append (hargs _ (fun _ _ => rfl)) (hres _ _ _), hvars _ (fun _ _ => rfl), rfl, ?_, ?_⟩, ?_⟩
    · intro b off hp
      have hm := hp
      rw [List.nil_append, ← hps] at hm
      rw [hb.frozen (show b < W.heap.size from hlt _ hm)]
      exact hz b off hm
    · intro ha
      have := hn ha
      rw [hps] at this
      simpa using this
    · intro p hp _
      rw [hps]
      simpa using hp
theorem Below.same' {W W' : World} (hb : Below W.heap.size W W') {b : Nat} (h : b < W.heap.size) : W'.heap[b]? = W.heap[b]? := hb.block b h

theorem trodAll_keep {H : Type} {enc : TypeId × Value → H} {P : Program} (hl : laidOutB P = true) {W W' : World} (hb : Below W.heap.size W W') {sp : Nat → Bool} :
    ∀ {ts : List TypeId} {vs : List Value} {ds : List (DataW H)} {ps : List MemPlace}, (ts.all fun t => P.readableRec t && decide (t < P.types.size)) = true → DataW.TrodAll enc P W 0 (fun _ => true) true ts vs ds ps →
      (∀ x ∈ ps, x.block < W.heap.size) → (∀ x ∈ ps, sp x.block = true) → DataW.TrodAll enc P W' 0 sp true ts vs ds ps
  | [], [], [], ps, _, h, _, _ => h
  | [], [], _ :: _, _, _, h, _, _ => h.elim
  | [], _ :: _, _, _, _, h, _, _ => h.elim
  | _ :: _, [], _, _, _, h, _, _ => h.elim
  | t :: ts, v :: vs, ds, ps, ht, h, hlt, hsp => by
    simp only [List.all_cons, Bool.and_eq_true, decide_eq_true_eq] at ht
    obtain ⟨v0, vs0, d0, ds0, p0, p1, hvs, rfl, rfl, h0, r0⟩ := trodAll_cons h
    cases hvs
    exact trodAll_cons_mk (WideElems.Trod_stays hl ht.1.1 ht.1.2 h0 (fun x hx => hb.same (hlt x (by simp [hx]))) (fun x hx => hsp x (by simp [hx])))
      (trodAll_keep hl hb ht.2 r0 (fun x hx => hlt x (by simp [hx])) (fun x hx => hsp x (by simp [hx])))

section
variable {H : Type} {enc : TypeId × Value → H} {P : Program} {w : World} {base : Nat} {spare : Nat → Bool} {held : Bool}
theorem open_slice_fields {t e : TypeId} {fs : Array Field} {fuel : Nat} {cs : List Value} {x : DataW H × List MemPlace} (ht : P.underlying t = some (.slice e)) (he : P.underlying e = some (.struct fs))
    (hone : oneCellFields P fs = true) (hC : P.cellsOf e = fs.size) (h : DataW.trod enc P w base spare held fuel t cs = some x) :
    (cs = [.slice none 0 0] ∧ x = (.nil, [])) ∨
    ∃ (a : Addr) (len cap m : Nat) (D : Nat → DataW H) (Pl : Nat → List MemPlace), cs = [.slice (some a) len cap] ∧ base ≤ a.block ∧ len ≤ cap ∧ cap ≤ maxLen ∧ m = (if spare a.block then cap else len) ∧
      x = (.slice ((List.range len).map D) ((List.range (m - len)).map fun j => D (len + j)), MemPlace.row a (m * fs.size) ++ (List.range m).flatMap Pl) ∧
      ∀ i, i < m → ∃ (ys : List (DataW H × List MemPlace)) (n : Nat), D i = .agg (ys.map (·.1)) ∧ Pl i = ys.flatMap (·.2) ∧ ys.length = fs.size ∧
        ∀ (j : Nat) (f : Field), fs[j]? = some f → ∃ (v : Value) (y : DataW H × List MemPlace), w.cell? (a.add (i * fs.size + j)) = some v ∧ ys[j]? = some y ∧ DataW.trod enc P w base spare held n f.type [v] = some y := by
  rcases open_slice ht h with h0 | ⟨a, len, cap, m, n, D, Pl, hcs, hb, hl, hm, hmm, hx, hi⟩
  · exact .inl h0
  · refine .inr ⟨a, len, cap, m, D, Pl, hcs, hb, hl, hm, hmm, by rw [hC] at hx; exact hx, fun i him => ?_⟩
    obtain ⟨cs', hc, ht'⟩ := hi i him
    rw [hC] at hc
    obtain ⟨ys, n', hn', hy, hlen, hyl, hf⟩ := DataW.trod_struct he ht'
    obtain ⟨_, hcl, hat⟩ := World.cells?_some hc
    simp only [Prod.mk.injEq] at hy
    refine ⟨ys, n', hy.1, hy.2, hyl, fun j f hj => ?_⟩
    obtain ⟨ho, hk⟩ := hone_of hone j f hj
    have hjl : j < fs.size := (Array.getElem?_eq_some_iff.1 hj).1
    have hcell := hat j hjl
    have hv : cs'[j]? = some (cs'[j]'(by omega)) := List.getElem?_eq_getElem (by omega)
    have h1 := hf j f hj
    rw [ho, hk] at h1
    have hone' : (cs'.drop j).take 1 = [cs'[j]'(by omega)] := by
      rw [List.drop_eq_getElem_cons (by omega)]
      rfl
    rw [hone'] at h1
    have hys : ys[j]? = some (ys[j]'(by omega)) := List.getElem?_eq_getElem (by omega)
    refine ⟨_, _, ?_, hys, h1.trans hys⟩
    rw [← Go.Deep.add_add, hcell, hv]
end

theorem exists_list {α : Type} (p : Nat → α → Prop) : ∀ (n : Nat), (∀ i, i < n → ∃ x, p i x) → ∃ L : List α, L.length = n ∧ ∀ i x, L[i]? = some x → p i x
  | 0, _ => ⟨[], rfl, by simp⟩
  | n + 1, h => by
    obtain ⟨L, hl, hp⟩ := exists_list p n (fun i hi => h i (by omega))
    obtain ⟨x, hx⟩ := h n (by omega)
    refine ⟨L ++ [x], by simp [hl], fun i y hy => ?_⟩
    by_cases hi : i < n
    · rw [List.getElem?_append_left (by omega)] at hy; exact hp i y hy
    · rw [List.getElem?_append_right (by omega), hl] at hy
      have h0 : i - n = 0 := by
        have := (List.getElem?_eq_some_iff.1 hy).1
        simp at this; omega
      rw [h0] at hy
      have : i = n := by omega
      subst this
      simp at hy; subst hy; exact hx

theorem open_rowsF {α : Type} (e : Enc α) {H : Type} {enc : TypeId × Value → H} {P : Program} {W : World} {t et : TypeId} {fs : Array Field} (ht : P.underlying t = some (.slice et)) (he : P.underlying et = some (.struct fs))
    (hone : oneCellFields P fs = true) (hC : P.cellsOf et = fs.size) (hnf : fs.size = e.nf)
    (hdec : ∀ vs : Nat → Value, (∀ (j : Nat) (f : Field), fs[j]? = some f → ∃ (n : Nat) (y : DataW H × List MemPlace), DataW.trod enc P W 0 (fun _ => true) true n f.type [vs j] = some y) → ∃ x : α, ∀ (j : Nat) (v : Value), (e.cells x)[j]? = some v → vs j = v)
    {fuel : Nat} {cs0 : List Value} {x0 : DataW H × List MemPlace} (hf : DataW.trod enc P W 0 (fun _ => true) true fuel t cs0 = some x0) : ∃ A n c L, cs0 = [.slice A n c] ∧ Rd e W W.heap.size A n c L := by
  rcases open_slice_fields ht he hone hC hf with ⟨hcs, _⟩ | ⟨a, len0, cap0, m, D, Pl, hcs, _, hl, hm, hmm, _, hi⟩
  · subst hcs
    exact ⟨_, _, _, [], rfl, Rd.nil _ _ _ _ (by omega)⟩
  · subst hcs
    have hlm : len0 ≤ m := by rw [hmm]; simp only [if_true]; exact hl
    have hcap : cap0 ≤ 9223372036854775807 := by simpa [maxLen] using hm
    have key : ∀ i, i < len0 → ∃ x : α, ∀ (j : Nat) (u : Value), (e.cells x)[j]? = some u → W.cell? (a.add (i * e.nf + j)) = some u := by
      intro i hil
      obtain ⟨ys, n, _, _, _, hfj⟩ := hi i (by omega)
      have hch : ∃ vs : Nat → Value, ∀ (j : Nat) (f : Field), fs[j]? = some f → W.cell? (a.add (i * fs.size + j)) = some (vs j) ∧ ∃ (n : Nat) (y : DataW H × List MemPlace), DataW.trod enc P W 0 (fun _ => true) true n f.type [vs j] = some y := by
        refine ⟨fun j => (W.cell? (a.add (i * fs.size + j))).getD undef, fun j f hjf => ?_⟩
        obtain ⟨u, y, hc, _, hy⟩ := hfj j f hjf
        simp only [hc, Option.getD_some]
        exact ⟨trivial, n, y, hy⟩
      obtain ⟨vs, hvs⟩ := hch
      obtain ⟨x, hx⟩ := hdec vs (fun j f hjf => (hvs j f hjf).2)
      refine ⟨x, fun j u hu => ?_⟩
      have hj : j < fs.size := by rw [hnf]; exact Enc.cell_lt hu
      have := (hvs j fs[j] (Array.getElem?_eq_getElem hj)).1
      rw [hx j u hu, hnf] at this
      exact this
    obtain ⟨L, hL, hp⟩ := exists_list _ len0 key
    refine ⟨_, _, _, L, rfl, hL, hl, hcap, fun hn => ?_⟩
    obtain ⟨b, off, spot⟩ := a
    have hx0 : L[0]? = some L[0] := List.getElem?_eq_getElem (by omega)
    have hv0 : (e.cells L[0])[0]? = some ((e.cells L[0])[0]'(by rw [e.len]; exact e.pos)) := List.getElem?_eq_getElem (by rw [e.len]; exact e.pos)
    have h0 := hp 0 _ hx0 0 _ hv0
    have hspot : spot = none := by simpa [Addr.add] using World.cell?_spot h0
    subst hspot
    refine ⟨b, off, rfl, ?_, fun i x hx j u hu => ?_⟩
    · rcases Nat.lt_or_ge b W.heap.size with h1 | h1
      · exact h1
      · exfalso
        unfold World.cell? at h0
        rw [addr_add] at h0
        simp [Array.getElem?_eq_none h1] at h0
    · have h1 := hp i x hx j u hu
      rw [addr_add, ← Nat.add_assoc] at h1
      exact h1

section
variable {H : Type} {enc : TypeId × Value → H} {W : World} {r : Reach} {b0 : Nat} {v : Value} {d : DataW H} {ps : List MemPlace}
set_option maxRecDepth 100000 in
theorem u8_nat {x : Int} (h : (Lit.int .u8 x).wf = true) : ∃ q : Nat, x = q ∧ q < 256 := by
  have h0 : 0 ≤ x ∧ x < 256 := by simp [Lit.wf, IntKind.min, IntKind.max, IntKind.signed, IntKind.bits] at h; omega
  obtain ⟨q, rfl⟩ := Int.eq_ofNat_of_zero_le h0.1
  exact ⟨q, rfl, by omega⟩
theorem u64_natB {x : Int} (h : (Lit.int .u64 x).wf = true) : ∃ q : Nat, x = q ∧ q < 18446744073709551616 := by
  have h0 : 0 ≤ x ∧ x < 18446744073709551616 := by simp [Lit.wf, IntKind.min, IntKind.max, IntKind.signed, IntKind.bits] at h; omega
  obtain ⟨q, rfl⟩ := Int.eq_ofNat_of_zero_le h0.1
  exact ⟨q, rfl, by omega⟩
theorem take1 {l : List Value} {j : Nat} {u : Value} (h : (l.drop j).take 1 = [u]) : l[j]? = some u := by
  have h0 : ((l.drop j).take 1)[0]? = some u := by rw [h]; rfl
  rw [List.getElem?_take, if_pos (by omega), List.getElem?_drop] at h0
  simpa using h0
end
section
variable {H : Type} {enc : TypeId × Value → H} {W : World} {r : Reach} {b0 : Nat} {v : Value} {d : DataW H} {ps : List MemPlace}
set_option maxRecDepth 100000 in
theorem open_spn {fuel : Nat} {cs : List Value} {x : DataW H × List MemPlace} (h : DataW.trod enc Try.prog W 0 (fun _ => true) true fuel 50 cs = some x) : ∃ A n c L, cs = [.slice A n c] ∧ Rd eSpn W W.heap.size A n c L :=
  open_rowsF eSpn Try.underlying50 Try.underlying110 (by kernel_rfl) (by kernel_rfl) rfl (fun vs hf => by
    obtain ⟨_, _, h0⟩ := hf 0 _ rfl
    obtain ⟨_, _, h1⟩ := hf 1 _ rfl
    obtain ⟨_, _, h2⟩ := hf 2 _ rfl
    obtain ⟨_, _, h3⟩ := hf 3 _ rfl
    obtain ⟨x0, e0, _, g0⟩ := DataW.trod_int Try.underlying5 h0
    obtain ⟨x1, e1, _, g1⟩ := DataW.trod_int Try.underlying5 h1
    obtain ⟨x2, e2, _, g2⟩ := DataW.trod_int Try.underlying5 h2
    obtain ⟨x3, e3, _, g3⟩ := DataW.trod_int Try.underlying5 h3
    obtain ⟨x0, rfl, m0⟩ := u8_nat g0
    obtain ⟨x1, rfl, m1⟩ := u8_nat g1
    obtain ⟨x2, rfl, m2⟩ := u8_nat g2
    obtain ⟨x3, rfl, m3⟩ := u8_nat g3
    refine ⟨⟨x0, x1, x2, x3, ⟨m0, m1, m2, m3⟩⟩, fun j u hu => ?_⟩
    match j, hu with
    | 0, hu => simp [eSpn] at hu; simpa [hu] using e0
    | 1, hu => simp [eSpn] at hu; simpa [hu] using e1
    | 2, hu => simp [eSpn] at hu; simpa [hu] using e2
    | 3, hu => simp [eSpn] at hu; simpa [hu] using e3
    | j + 4, hu => simp [eSpn] at hu) h
set_option maxRecDepth 100000 in
theorem open_lgt (hv : Value.okWide Try.prog W r b0 52 v) (h : DataW.Trod enc Try.prog W 0 (fun _ => true) true 52 v d ps) : ∃ x A n c S, v = .agg (lgtV x (.slice A n c)) ∧ Rd eSpn W W.heap.size A n c S := by
  obtain ⟨cs, rfl, hsz⟩ := okWide_struct Try.underlying52 hv
  obtain ⟨fuel, hf⟩ := h
  obtain ⟨xs, m, _, _, _, hl, hx⟩ := DataW.trod_struct Try.underlying52 hf
  have hc11 : Try.prog.cellsOf 52 = 11 := by kernel_rfl
  have c8 : Try.prog.cellsOf 5 = 1 := by kernel_rfl
  have c64 : Try.prog.cellsOf 24 = 1 := by kernel_rfl
  have cS : Try.prog.cellsOf 50 = 1 := by kernel_rfl
  rw [hc11] at hsz
  have hl11 : xs.length = 11 := hl
  have hcells : (Value.agg cs).cells = cs := rfl
  rw [hcells] at hx
  have h0 : DataW.trod enc Try.prog W 0 (fun _ => true) true m 5 ((cs.toList.drop 0).take (Try.prog.cellsOf 5)) = xs[0]? := hx 0 _ rfl
  have h1 : DataW.trod enc Try.prog W 0 (fun _ => true) true m 5 ((cs.toList.drop 1).take (Try.prog.cellsOf 5)) = xs[1]? := hx 1 _ rfl
  have h2 : DataW.trod enc Try.prog W 0 (fun _ => true) true m 5 ((cs.toList.drop 2).take (Try.prog.cellsOf 5)) = xs[2]? := hx 2 _ rfl
  have h3 : DataW.trod enc Try.prog W 0 (fun _ => true) true m 5 ((cs.toList.drop 3).take (Try.prog.cellsOf 5)) = xs[3]? := hx 3 _ rfl
  have h4 : DataW.trod enc Try.prog W 0 (fun _ => true) true m 5 ((cs.toList.drop 4).take (Try.prog.cellsOf 5)) = xs[4]? := hx 4 _ rfl
  have h5 : DataW.trod enc Try.prog W 0 (fun _ => true) true m 5 ((cs.toList.drop 5).take (Try.prog.cellsOf 5)) = xs[5]? := hx 5 _ rfl
  have h6 : DataW.trod enc Try.prog W 0 (fun _ => true) true m 5 ((cs.toList.drop 6).take (Try.prog.cellsOf 5)) = xs[6]? := hx 6 _ rfl
  have h7 : DataW.trod enc Try.prog W 0 (fun _ => true) true m 50 ((cs.toList.drop 7).take (Try.prog.cellsOf 50)) = xs[7]? := hx 7 _ rfl
  have h8 : DataW.trod enc Try.prog W 0 (fun _ => true) true m 24 ((cs.toList.drop 8).take (Try.prog.cellsOf 24)) = xs[8]? := hx 8 _ rfl
  have h9 : DataW.trod enc Try.prog W 0 (fun _ => true) true m 24 ((cs.toList.drop 9).take (Try.prog.cellsOf 24)) = xs[9]? := hx 9 _ rfl
  have h10 : DataW.trod enc Try.prog W 0 (fun _ => true) true m 24 ((cs.toList.drop 10).take (Try.prog.cellsOf 24)) = xs[10]? := hx 10 _ rfl
  rw [List.getElem?_eq_getElem (by omega)] at h0 h1 h2 h3 h4 h5 h6 h7 h8 h9 h10
  rw [c8] at h0
  obtain ⟨x0, e0, _, g0⟩ := DataW.trod_int Try.underlying5 h0
  obtain ⟨x0, rfl, m0⟩ := u8_nat g0
  rw [c8] at h1
  obtain ⟨x1, e1, _, g1⟩ := DataW.trod_int Try.underlying5 h1
  obtain ⟨x1, rfl, m1⟩ := u8_nat g1
  rw [c8] at h2
  obtain ⟨x2, e2, _, g2⟩ := DataW.trod_int Try.underlying5 h2
  obtain ⟨x2, rfl, m2⟩ := u8_nat g2
  rw [c8] at h3
  obtain ⟨x3, e3, _, g3⟩ := DataW.trod_int Try.underlying5 h3
  obtain ⟨x3, rfl, m3⟩ := u8_nat g3
  rw [c8] at h4
  obtain ⟨x4, e4, _, g4⟩ := DataW.trod_int Try.underlying5 h4
  obtain ⟨x4, rfl, m4⟩ := u8_nat g4
  rw [c8] at h5
  obtain ⟨x5, e5, _, g5⟩ := DataW.trod_int Try.underlying5 h5
  obtain ⟨x5, rfl, m5⟩ := u8_nat g5
  rw [c8] at h6
  obtain ⟨x6, e6, _, g6⟩ := DataW.trod_int Try.underlying5 h6
  obtain ⟨x6, rfl, m6⟩ := u8_nat g6
  rw [cS] at h7
  obtain ⟨A, n, c, S, e7, r7⟩ := open_spn h7
  rw [c64] at h8
  obtain ⟨x8, e8, _, g8⟩ := DataW.trod_int Try.underlying24 h8
  obtain ⟨x8, rfl, m8⟩ := u64_natB g8
  rw [c64] at h9
  obtain ⟨x9, e9, _, g9⟩ := DataW.trod_int Try.underlying24 h9
  obtain ⟨x9, rfl, m9⟩ := u64_natB g9
  rw [c64] at h10
  obtain ⟨x10, e10, _, g10⟩ := DataW.trod_int Try.underlying24 h10
  obtain ⟨x10, rfl, m10⟩ := u64_natB g10
  refine ⟨⟨x0, x1, x2, x3, x4, x5, x6, x8, x9, x10, ⟨m0, m1, m2, m3, m4, m5, m6, m8, m9, m10⟩⟩, A, n, c, S, congrArg Value.agg (Array.toList_inj.1 (List.ext_getElem? fun j => ?_)), r7⟩
  match j with
  | 0 => rw [take1 e0]; rfl
  | 1 => rw [take1 e1]; rfl
  | 2 => rw [take1 e2]; rfl
  | 3 => rw [take1 e3]; rfl
  | 4 => rw [take1 e4]; rfl
  | 5 => rw [take1 e5]; rfl
  | 6 => rw [take1 e6]; rfl
  | 7 => rw [take1 e7]; rfl
  | 8 => rw [take1 e8]; rfl
  | 9 => rw [take1 e9]; rfl
  | 10 => rw [take1 e10]; rfl
  | j + 11 => rw [List.getElem?_eq_none (by simp; omega), List.getElem?_eq_none (by simp [lgtV])]
end
end Go.Proofs.Ytchhkokpjdkkiaa

namespace Go.Proofs.Ytchhkokpjdkkiaa
open Go.RowKit

theorem single_c (p : Ck) (w : World) : Calls Try.prog 43 #[.agg #[.int .i64 p.b, .int .i64 p.k]] w fun e w' => e = .returned (.bool (single p)) ∧ Below w.heap.size w w' := by
  obtain ⟨b, k⟩ := p
  have hb := below_alloc w (.cells #[.int .i64 b, .int .i64 k] 81)
  have HV := hide (show single ⟨b, k⟩ = decide (k = 1 ∨ k = 2) from rfl)
  by_cases h1 : k = 1
  · subst h1
    go_enter Try.func43, Try.ntmps43
    go_wp2
    go_ret
    exact ⟨ret_b (by rw [HV.out]; simp), hb⟩
  · by_cases h2 : k = 2
    · subst h2
      go_enter Try.func43, Try.ntmps43
      go_wp2
      go_ret
      exact ⟨ret_b (by rw [HV.out]; simp), hb⟩
    · have e1 : (k == 1) = false := by simpa using h1
      have e2 : (k == 2) = false := by simpa using h2
      go_enter Try.func43, Try.ntmps43
      go_wp2
      go_ret
      exact ⟨ret_b (by rw [HV.out]; simp [h1, h2]), hb⟩
theorem shiftable_c (n : Int) (h : -16 ≤ n ∧ n ≤ 16) (w : World) : Calls Try.prog 41 #[.int .i64 n] w fun e w' => e = .returned (.bool true) ∧ w' = w := by
  have HB := hide (between_v n (-16) 16 true (decide_eq_true h) w)
  go_enter Try.func41, Try.ntmps41
  go_wp2_with (go_at_call 42; refine HB.out.mono ?_; rintro e w1 ⟨rfl, hq⟩; rw [hq]; clear hq)
  go_ret
  exact ⟨rfl, rfl⟩
theorem info_he : (Try.prog.info? 124).map (fun i => (i.zero, i.size, i.bytes)) = some (some (.agg #[.int .i64 0, .int .i64 0]), 2, 16) := by kernel_rfl
theorem clicksErr_zero {C : List Ck} (h : clicksErr C = 0) : C.length ≤ 4096 ∧ C.all okCk = true := by
  unfold clicksErr at h
  split at h
  · omega
  · split at h
    · rename_i h1; exact ⟨by omega, h1⟩
    · omega
set_option maxRecDepth 100000 in
set_option maxHeartbeats 3200000 in
theorem announce_c (A : Option Addr) (n c : Nat) (C : List Ck) (sh fr T : Nat) (w : World) (r : Rd eCk w w.heap.size A n c C) (hC : clicksErr C = 0) (hs : sh ≤ 16) (hf : fr ≤ T) (hT : T ≤ 4096) :
    Calls Try.prog 16 #[.slice A n c, .int .i64 sh, .int .i64 fr, .int .i64 T] w fun e w' => ∃ B m d, e = .returned (.tuple #[.slice B m d, .int .i64 0]) ∧ Rd eHe w' w'.heap.size B m d (hearL C sh fr T n) ∧ Below w.heap.size w w' := by
  have hm := r.max
  have hcap := r.cap
  have HL := hide r.len
  have hn : n ≤ 4096 := by have := (clicksErr_zero hC).1; have := r.len; omega
  have hck := checkClicks_c A n c C w r
  rw [hC] at hck
  have HCK := hide hck
  have HSH := hide (fun W => shiftable_c sh (by omega) W)
  have HB1 := hide (fun W => between_v (T : Int) 0 4096 true (decide_eq_true (by omega)) W)
  have HB2 := hide (fun W => between_v (fr : Int) 0 (T : Int) true (decide_eq_true (by omega)) W)
  clear hck hC
  go_enter Try.func16, Try.ntmps16
  go_upto_region 4 with (go_at_call 40; refine HCK.out.mono ?_; rintro e w1 ⟨rfl, hb1⟩)
  go_upto_region 6 with (first | (go_at_call 41; with_reducible refine (HSH.out _).mono ?_; rintro e w' ⟨rfl, hq⟩; rw [hq]; clear hq) | (go_at_call 42; with_reducible refine (HB1.out _).mono ?_; rintro e w' ⟨rfl, hq⟩; rw [hq]; clear hq) | (go_at_call 42; with_reducible refine (HB2.out _).mono ?_; rintro e w' ⟨rfl, hq⟩; rw [hq]; clear hq))
  clear HCK HSH HB1 HB2
  go_wp2
  go_loopw [36, 11] (fun iv av wr => ∃ (k : Nat) (A1 : Option Addr) (c1 : Nat), k ≤ n ∧ iv = .int .i64 k ∧ av = .slice A1 (hearL C sh fr T k).length c1 ∧ Ow eHe wr w1.heap.size 124 A1 (hearL C sh fr T k).length c1 (hearL C sh fr T k) ∧ Below w1.heap.size w1 wr) (fun iv _ _ => n - (intOf iv).toNat)
  case atStart => exact ⟨0, none, 0, by omega, rfl, rfl, Ow.nil _ _ _, Below.refl _ _⟩
  case round =>
    obtain ⟨k, A1, c1, hk, rfl, rfl, o1, hbw⟩ := hrel
    have hq1 := hearL_len (C := C) (sh := sh) (fr := fr) (n := T) (m := k)
    by_cases hlt : k < n
    · obtain ⟨b, off, x, rfl, hb, hx, hc⟩ := (r.on (below_on hb1 hbw)).get hlt
      have x0 := hc 0 _ rfl
      have x1 := hc 1 _ rfl
      simp only [eCk, Nat.add_zero] at x0 x1
      have HX := hide hx
      obtain ⟨v, hv⟩ : ∃ q, q = single x := ⟨_, rfl⟩
      have HSG := hide (fun W => single_c x W)
      rw [← hv] at HSG
      have HV := hide hv
      obtain ⟨xb, xk⟩ := x
      simp only at x0 x1 HSG
      clear hc hx hv hb
      have hbl := Blk.newAt wr 81 #[.int .i64 xb, .int .i64 xk] wr.heap.size rfl
      have hb5 := hbw.alloc hbw.size (.cells #[.int .i64 xb, .int .i64 xk] 81)
      have oA := o1.alloc (.cells #[.int .i64 xb, .int .i64 xk] 81)
      have HNO := hide (fun h => hearL_no (sh := sh) (fr := fr) (n := T) HX.out h)
      have HYES := hide (fun h1 h2 h3 => hearL_yes (sh := sh) (fr := fr) (n := T) HX.out h1 h2 h3)
      clear o1 hbw
      go_upto_region 10 with fail
      obtain ⟨wA, hwA⟩ : ∃ q, q = wr.alloc (.cells #[.int .i64 xb, .int .i64 xk] 81) := ⟨_, rfl⟩
      rw [← hwA] at hbl hb5 oA ⊢
      obtain ⟨gX, hgX⟩ : ∃ q, q = wr.heap.size := ⟨_, rfl⟩
      rw [← hgX] at hbl ⊢
      clear hwA hgX
      cases v
      · have HF := hide (show ¬ (single ⟨xb, xk⟩ = true ∧ fr + sh ≤ k ∧ k < T + sh) from fun h => by rw [← HV.out] at h; exact absurd h.1 (by simp))
        go_wp2_with (first | (refine wl_load (o := ⟨some 44, _, _, _, _, _⟩) rfl 81 _ rfl gX rfl 81 #[.int .i64 xb, .int .i64 xk] _ hbl Try.underlying81 rfl (by kernel_rfl) ?_) | (go_at_call 43; refine (HSG.out _).mono ?_; rintro e w5 ⟨rfl, hb6⟩))
        go_roundw
        case rel => exact ⟨k + 1, A1, c1, by omega, by go_num, by rw [HNO.out HF.out], by rw [HNO.out HF.out]; exact oA.on hb6, hb5.trans (hb6.mono hb5.size)⟩
        case measure => simp [intOf] <;> omega
      · by_cases h1 : fr + sh ≤ k
        · obtain ⟨i, hi⟩ : ∃ i : Nat, i = k - sh := ⟨_, rfl⟩
          have hki : (k : Int) - (sh : Int) = (i : Int) := by omega
          have hfi : (fr : Int) ≤ (i : Int) := by omega
          have hge : ((i : Int) ≥ (fr : Int)) := hfi
          by_cases h2 : i < T
          · have HY := hide (HYES.out HV.out.symm h1 (by omega))
            rw [← hi] at HY
            clear h1 hi HNO HYES
            go_wp2_with (first | (refine wl_load (o := ⟨some 44, _, _, _, _, _⟩) rfl 81 _ rfl gX rfl 81 #[.int .i64 xb, .int .i64 xk] _ hbl Try.underlying81 rfl (by kernel_rfl) ?_) | (go_at_call 43; refine (HSG.out _).mono ?_; rintro e w5 ⟨rfl, hb6⟩; have y0 := (hbl.keep hb6).cell 0; simp only [List.getElem?_toArray, List.getElem?_cons_zero] at y0) | (at_builtin; refine wl_app eHe _ rfl (.tmp 56) (.tmp 61) _ rfl w1.heap.size 124 (.agg #[.int .i64 0, .int .i64 0]) 16 Try.underlying70 info_he rfl (by omega) _ _ _ _ (by rfl) ((oA.on hb6).alloc _) _ 1 1 [⟨i, xb⟩] (by rfl) _ (Rd.newAt (e := eHe) w5 124 (⟨i, xb⟩ : He) #[.int .i64 (i : Int), .int .i64 xb] rfl w5.heap.size rfl) (by omega) (by have := hb5.size; have := hb6.size; simp; omega) ?_; intro A3 c3 w3 o3 hg3 hA3))
            go_roundw
            case rel => exact ⟨k + 1, A3, c3, by omega, by go_num, by rw [HY.out]; simp, by rw [HY.out]; simpa using o3, below_app ((hb5.trans (hb6.mono hb5.size)).alloc (Nat.le_trans hb5.size hb6.size) _) ((oA.on hb6).alloc _) hg3 (Nat.le_refl _) (Nat.le_refl _)⟩
            case measure => simp [intOf] <;> omega
          · have hlt2 : ¬ ((i : Int) < (T : Int)) := by omega
            have HF := hide (show ¬ (single ⟨xb, xk⟩ = true ∧ fr + sh ≤ k ∧ k < T + sh) from fun h => by omega)
            clear h1 hi HYES
            go_wp2_with (first | (refine wl_load (o := ⟨some 44, _, _, _, _, _⟩) rfl 81 _ rfl gX rfl 81 #[.int .i64 xb, .int .i64 xk] _ hbl Try.underlying81 rfl (by kernel_rfl) ?_) | (go_at_call 43; refine (HSG.out _).mono ?_; rintro e w5 ⟨rfl, hb6⟩))
            go_roundw
            case rel => exact ⟨k + 1, A1, c1, by omega, by go_num, by rw [HNO.out HF.out], by rw [HNO.out HF.out]; exact oA.on hb6, hb5.trans (hb6.mono hb5.size)⟩
            case measure => simp [intOf] <;> omega
        · have hlt1 : ¬ ((k : Int) - (sh : Int) ≥ (fr : Int)) := by omega
          have HF := hide (show ¬ (single ⟨xb, xk⟩ = true ∧ fr + sh ≤ k ∧ k < T + sh) from fun h => by omega)
          clear h1 HYES
          go_wp2_with (first | (refine wl_load (o := ⟨some 44, _, _, _, _, _⟩) rfl 81 _ rfl gX rfl 81 #[.int .i64 xb, .int .i64 xk] _ hbl Try.underlying81 rfl (by kernel_rfl) ?_) | (go_at_call 43; refine (HSG.out _).mono ?_; rintro e w5 ⟨rfl, hb6⟩))
          go_roundw
          case rel => exact ⟨k + 1, A1, c1, by omega, by go_num, by rw [HNO.out HF.out], by rw [HNO.out HF.out]; exact oA.on hb6, hb5.trans (hb6.mono hb5.size)⟩
          case measure => simp [intOf] <;> omega
    · obtain rfl : k = n := by omega
      have HR := hide o1.rd
      go_wp2
      go_ret2
      exact ⟨_, _, _, rfl, HR.out, below_on hb1 hbw⟩
end Go.Proofs.Ytchhkokpjdkkiaa

namespace Go.Proofs.Ytchhkokpjdkkiaa
open Go.RowKit

theorem ch1_c (p : He) (w : World) : Calls Try.prog 76 #[.agg #[.int .i64 p.s, .int .i64 p.b]] w fun e w' => e = .returned (.int .i64 p.s) ∧ Below w.heap.size w w' := by
  obtain ⟨b, k⟩ := p
  have hb := below_alloc w (.cells #[.int .i64 b, .int .i64 k] 124)
  go_enter Try.func76, Try.ntmps76
  go_wp2
  go_ret
  exact ⟨rfl, hb⟩
theorem ch2_c (p : He) (h : 0 ≤ p.b ∧ p.b ≤ 1) (w : World) : Calls Try.prog 77 #[.agg #[.int .i64 p.s, .int .i64 p.b]] w fun e w' => e = .returned (.int .i64 0) ∧ Below w.heap.size w w' := by
  obtain ⟨b, k⟩ := p
  have hb := below_alloc w (.cells #[.int .i64 b, .int .i64 k] 124)
  have HB := hide (fun W => between_v k 0 1 true (decide_eq_true h) W)
  go_enter Try.func77, Try.ntmps77
  go_wp2_with (go_at_call 42; refine (HB.out _).mono ?_; rintro e w' ⟨rfl, hq⟩; rw [hq]; clear hq)
  go_ret
  exact ⟨rfl, hb⟩
set_option maxRecDepth 100000 in
set_option maxHeartbeats 6400000 in
theorem risingHe_c (A : Option Addr) (n c : Nat) (L : List He) (l m : Int) (w : World) (r : Rd eHe w w.heap.size A n c L) (hL : RisingH L l m) : Calls Try.prog 75 #[.slice A n c, .func (.func 76) #[] #[], .int .i64 l, .int .i64 m, .func (.func 77) #[] #[]] w fun e w' => e = .returned (.int .i64 0) ∧ Below w.heap.size w w' := by
  have hm := r.max
  have hcap := r.cap
  have HR := hide hL
  clear hL
  have HB := hide (fun (x : Nat) (h : l ≤ (x : Int) ∧ (x : Int) ≤ m) W => between_v (x : Int) l m true (decide_eq_true h) W)
  go_enter Try.func75, Try.ntmps75
  go_wp2
  go_loopw [16] (fun iv wr => ∃ k : Nat, k ≤ n ∧ iv = .int .i64 k ∧ Below w.heap.size w wr) (fun iv _ => n - (intOf iv).toNat)
  case atStart => exact ⟨0, Nat.zero_le _, rfl, Below.refl _ _⟩
  case round =>
    obtain ⟨k, hk, rfl, hbw⟩ := hrel
    by_cases hlt : k < n
    · have r1 := r.on hbw
      obtain ⟨b, off, x, rfl, hb, hx, hc⟩ := r1.get hlt
      have c0 := hc 0 _ rfl
      have c1 := hc 1 _ rfl
      simp only [eHe, Nat.add_zero] at c0 c1
      have HBX := hide (HB.out x.s (HR.out.1 k x hx).1)
      have H1 := hide (fun W => ch1_c x W)
      have H2 := hide (fun W => ch2_c x (HR.out.1 k x hx).2 W)
      have HX := hide hx
      have HKL := hide r1
      obtain ⟨xs, xb⟩ := x
      simp only at c0 c1 HBX H1 H2
      have hbl := Blk.newAt wr 124 #[.int .i64 xs, .int .i64 xb] wr.heap.size rfl
      have hb2 := below_alloc wr (.cells #[.int .i64 xs, .int .i64 xb] 124)
      clear hc hx hb r1
      go_upto_region 4 with fail
      obtain ⟨wA, hwA⟩ : ∃ q, q = wr.alloc (.cells #[.int .i64 xs, .int .i64 xb] 124) := ⟨_, rfl⟩
      rw [← hwA] at hbl hb2 ⊢
      obtain ⟨gX, hgX⟩ : ∃ q, q = wr.heap.size := ⟨_, rfl⟩
      rw [← hgX] at hbl ⊢
      clear hwA hgX c0 c1
      go_upto_region 6 with (first | (refine wl_load (o := ⟨some 22, _, _, _, _, _⟩) rfl 124 _ rfl gX rfl 124 #[.int .i64 xs, .int .i64 xb] _ hbl Try.underlying124 rfl (by kernel_rfl) ?_) | (go_at_call 76; with_reducible refine (H1.out _).mono ?_; rintro e w5 ⟨rfl, hb5⟩) | (go_at_call 42; with_reducible refine (HBX.out _).mono ?_; rintro e w' ⟨rfl, hq⟩; rw [hq]; clear hq))
      have hbl5 := hbl.keep hb5
      go_upto_region 9 with (first | (refine wl_load (o := ⟨some 29, _, _, _, _, _⟩) rfl 124 _ rfl gX rfl 124 #[.int .i64 xs, .int .i64 xb] _ hbl5 Try.underlying124 rfl (by kernel_rfl) ?_) | (go_at_call 77; with_reducible refine (H2.out _).mono ?_; rintro e w6 ⟨rfl, hb6⟩))
      have hbl6 := hbl5.keep hb6
      have hbr6 := below_on (below_on hb2 hb5) hb6
      have hbw6 := below_on hbw hbr6
      clear hbl hbl5 hb2 hb5 hb6
      by_cases h0 : k = 0
      · subst h0
        go_upto_region 9 with fail
        go_quiet (fail)
        go_wp2
        go_roundw
        case rel => exact ⟨1, by omega, by go_num, below_drewN hbw6 _⟩
        case measure => simp [intOf] <;> omega
      · obtain ⟨j, hkj⟩ : ∃ j, k = j + 1 := ⟨k - 1, by omega⟩
        obtain ⟨b9, off9, y, eA, hb9, hy, hc9⟩ := (HKL.out.on hbr6).get (show j < n by omega)
        injection eA with eA
        injection eA with e1 e2
        subst e1
        subst e2
        have d0 := hc9 0 _ rfl
        have d1 := hc9 1 _ rfl
        simp only [eHe, Nat.add_zero] at d0 d1
        have hxy := HR.out.2 j y ⟨xs, xb⟩ hy (hkj ▸ HX.out)
        have H3 := hide (fun W => ch1_c y W)
        obtain ⟨ys, yb⟩ := y
        simp only at d0 d1 hxy H3
        have hk0 : 0 < k := by omega
        have hjn2 : j < n := by omega
        have hkj2 : (k : Int) - 1 = (j : Int) := by omega
        have hlt2 : ¬ (xs ≤ ys) := by omega
        have x0 := hbl6.cell 0
        have x1 := hbl6.cell 1
        simp only [List.getElem?_toArray, List.getElem?_cons_zero, List.getElem?_cons_succ] at x0 x1
        clear hc9 hy h0 hkj
        go_upto_region 9 with fail
        have hwr : IntKind.i64.wrap ((k : Int) - 1) = (j : Int) := by simp only [IntKind.wrap, IntKind.bits, IntKind.signed]; simp; omega
        have hj0 : (0 : Int) ≤ (j : Int) := by omega
        have hjn : (j : Int) < (n : Int) := by omega
        clear hkj2
        have HK := hide (fun W (h : Below w6.heap.size w6 W) => (show W.cell? ⟨b, off + j * 2, none⟩ = some (.int .i64 (ys : Int)) ∧ W.cell? ⟨b, off + j * 2 + 1, none⟩ = some (.int .i64 yb) ∧ W.cell? ⟨gX, 0, none⟩ = some (.int .i64 (xs : Int)) ∧ W.cell? ⟨gX, 1, none⟩ = some (.int .i64 xb) from ⟨(h.cell hb9).trans d0, (h.cell hb9).trans d1, (hbl6.keep h).cell 0, (hbl6.keep h).cell 1⟩))
        have HD := hide (show Below w6.heap.size w6 w6.drew from below_drewN (Below.refl _ _) 1)
        go_region_held3 (fun W => W.cell? ⟨b, off + j * 2, none⟩ = some (.int .i64 (ys : Int)) ∧ W.cell? ⟨b, off + j * 2 + 1, none⟩ = some (.int .i64 yb) ∧ W.cell? ⟨gX, 0, none⟩ = some (.int .i64 (xs : Int)) ∧ W.cell? ⟨gX, 1, none⟩ = some (.int .i64 xb)) (first | exact HK.out _ (Below.refl _ _) | exact HK.out _ HD.out | exact HK.out _ (below_on HD.out hb7) | exact HK.out _ (below_on (below_on HD.out hb7) hb8)) ((go_at_call 76; (first | (with_reducible refine (H3.out _).mono ?_; rintro e w7 ⟨rfl, hb7⟩) | (with_reducible refine (H1.out _).mono ?_; rintro e w8 ⟨rfl, hb8⟩))))
        have hb9' := below_on (below_on HD.out hb7) hb8
        have hb10 := below_on hbw6 hb9'
        clear hb7 hb8 hb9' HK HD d0 d1 x0 x1 hbl6 hbr6 hbw6
        go_wp2
        go_roundw
        case rel => exact ⟨k + 1, by omega, by go_num, hb10⟩
        case measure => simp [intOf] <;> omega
    · go_wp2
      go_ret
      exact ⟨rfl, hbw⟩
set_option maxRecDepth 100000 in
set_option maxHeartbeats 1600000 in
theorem checkHeard_c (A : Option Addr) (n c : Nat) (L : List He) (l m : Int) (w : World) (r : Rd eHe w w.heap.size A n c L) (hL : RisingH L l m) : Calls Try.prog 45 #[.slice A n c, .int .i64 l, .int .i64 m] w fun e w' => e = .returned (.int .i64 0) ∧ Below w.heap.size w w' := by
  have HA := hide (risingHe_c A n c L l m w r hL)
  go_enter Try.func45, Try.ntmps45
  go_wp2_with (go_at_call 75; refine HA.out.mono ?_; rintro e w1 ⟨rfl, hb⟩)
  go_ret
  exact ⟨rfl, hb⟩
end Go.Proofs.Ytchhkokpjdkkiaa
