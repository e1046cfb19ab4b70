/- The frame of a law with slices: its arguments opened, and read again as they were. Plain lemmas. -/
import Derived.Test.YtgilhkdmgbeieaaPost
import Derived.Test.YtgilhkdmgbeieaaWm
import Derived.Carry
import Derived.Lib.SmallJoins
namespace Go.Proofs.Ytgilhkdmgbeieaa
open Go.ChangeShapes Go.WideShapes Go.ChangeAt Go.RowKit

theorem Below.same' {W W' : World} (hb : Below W.heap.size W W') {b : Nat} (h : b < W.heap.size) : W'.heap[b]? = W.heap[b]? := hb.block b h

theorem trodAll_keep {H : Type} {enc : TypeId × Value → H} {P : Program} (hl : laidOutB P = true) {W W' : World} (hb : Below W.heap.size W W') {sp : Nat → Bool} :
    ∀ {ts : List TypeId} {vs : List Value} {ds : List (DataW H)} {ps : List MemPlace}, (ts.all fun t => P.readableRec t && decide (t < P.types.size)) = true → DataW.TrodAll enc P W 0 (fun _ => true) true ts vs ds ps →
      (∀ x ∈ ps, x.block < W.heap.size) → (∀ x ∈ ps, sp x.block = true) → DataW.TrodAll enc P W' 0 sp true ts vs ds ps
  | [], [], [], ps, _, h, _, _ => h
  | [], [], _ :: _, _, _, h, _, _ => h.elim
  | [], _ :: _, _, _, _, h, _, _ => h.elim
  | _ :: _, [], _, _, _, h, _, _ => h.elim
  | t :: ts, v :: vs, ds, ps, ht, h, hlt, hsp => by
    simp only [List.all_cons, Bool.and_eq_true, decide_eq_true_eq] at ht
    obtain ⟨v0, vs0, d0, ds0, p0, p1, hvs, rfl, rfl, h0, r0⟩ := trodAll_cons h
    cases hvs
    exact trodAll_cons_mk (WideElems.Trod_stays hl ht.1.1 ht.1.2 h0 (fun x hx => hb.same (hlt x (by simp [hx]))) (fun x hx => hsp x (by simp [hx])))
      (trodAll_keep hl hb ht.2 r0 (fun x hx => hlt x (by simp [hx])) (fun x hx => hsp x (by simp [hx])))

theorem nat_of_ints {W : World} {a : Addr} {len cap : Nat} {zs : List Int} (hl : len ≤ cap) (hm : cap ≤ maxLen) (hz : len ≤ zs.length) (hcell : ∀ i, i < zs.length → W.cell? (a.add i) = some (.int .u32 (zs.getD i 0)))
    (hwf : ∀ n ∈ zs, (Lit.int .u32 n).wf = true) : ∃ l, Sl W W.heap.size .u32 (some a) len cap l ∧ Digs 4294967296 l := by
  have hzi : ∀ n ∈ zs, 0 ≤ n ∧ n ≤ 4294967295 := fun n hn => by
    have := hwf n hn
    simpa [Lit.wf, IntKind.min, IntKind.max, IntKind.bits, IntKind.signed] using this
  refine ⟨(zs.take len).map Int.toNat, ⟨by simp; omega, hl, by simpa [maxLen] using hm, fun hn => ?_⟩, fun x hx => ?_⟩
  · obtain ⟨b, off, spot⟩ := a
    have h0 := hcell 0 (by omega)
    have hspot : spot = none := by simpa [Addr.add] using World.cell?_spot h0
    subst hspot
    refine ⟨b, off, rfl, ?_, fun j hj => ?_⟩
    · rcases Nat.lt_or_ge b W.heap.size with h1 | h1
      · exact h1
      · exfalso
        unfold World.cell? at h0
        rw [show (Addr.add ⟨b, off, none⟩ 0).block = b from rfl, Array.getElem?_eq_none h1] at h0
        simp at h0
    · have h1 := hcell j (by omega)
      have e : Addr.add ⟨b, off, none⟩ j = ⟨b, off + j, none⟩ := by
        unfold Addr.add
        split
        · rename_i h; subst h; rfl
        · rfl
      rw [e] at h1
      rw [h1]
      have hj2 : j < zs.length := by omega
      have e1 : zs.getD j 0 = zs[j] := by simp [hj2]
      have e2 : ((zs.take len).map Int.toNat).getD j 0 = zs[j].toNat := by simp [hj, hj2]
      have := hzi zs[j] (List.getElem_mem hj2)
      rw [e1, e2]
      congr 2
      omega
  · obtain ⟨y, hy, rfl⟩ := List.mem_map.1 hx
    have := hzi y (List.mem_of_mem_take hy)
    omega

theorem open_trod {H : Type} {enc : TypeId × Value → H} {P : Program} {W : World} {t e : TypeId} (ht : P.underlying t = some (.slice e)) (he : P.underlying e = some (.int .u32)) (hc : P.cellsOf e = 1) {fuel : Nat} {v : Value} {y : DataW H × List MemPlace}
    (h : DataW.trod enc P W 0 (fun _ => true) true fuel t [v] = some y) : ∃ A n c l, v = .slice A n c ∧ Sl W W.heap.size .u32 A n c l ∧ Digs 4294967296 l := by
  rcases open_ints ht he hc h with ⟨hcs, hx⟩ | ⟨a, len, cap, zs, hcs, _, hl, hm, hz, hx, hcell, hwf⟩
  · cases hcs
    exact ⟨_, _, _, [], rfl, Sl.nil _ _ _ _ _ (by omega), Digs.nil _⟩
  · cases hcs
    obtain ⟨l, h1, h2⟩ := nat_of_ints hl hm (by rw [hz]; simp; exact hl) hcell hwf
    exact ⟨_, _, _, l, rfl, h1, h2⟩
theorem open_nat {H : Type} {enc : TypeId × Value → H} {P : Program} {W : World} {r : Reach} {b0 : Nat} {t e : TypeId} (ht : P.underlying t = some (.slice e)) (he : P.underlying e = some (.int .u32)) (hc : P.cellsOf e = 1) {v : Value} {d : DataW H} {ps : List MemPlace}
    (hv : Value.okWide P W r b0 t v) (h : DataW.Trod enc P W 0 (fun _ => true) true t v d ps) : ∃ A n c l, v = .slice A n c ∧ Sl W W.heap.size .u32 A n c l ∧ Digs 4294967296 l := by
  obtain ⟨a, len, cap, rfl⟩ := okWide_slice ht hv
  obtain ⟨fuel, hf⟩ := h
  exact open_trod ht he hc hf
theorem open_frac {H : Type} {enc : TypeId × Value → H} {P : Program} {W : World} {r : Reach} {b0 : Nat} {t : TypeId} {f0 f1 : Field} {e : TypeId} (hs : P.underlying t = some (.struct #[f0, f1])) (hone : Go.Deep.oneCellFields P #[f0, f1] = true) (hC : P.cellsOf t = 2)
    (hf0 : P.underlying f0.type = some (.slice e)) (hf1 : P.underlying f1.type = some (.slice e)) (he : P.underlying e = some (.int .u32)) (hc : P.cellsOf e = 1) {v : Value} {d : DataW H} {ps : List MemPlace}
    (hv : Value.okWide P W r b0 t v) (h : DataW.Trod enc P W 0 (fun _ => true) true t v d ps) : ∃ f : FA, v = .agg #[.slice f.A f.n f.c, .slice f.A' f.n' f.c'] ∧ f.Rd W W.heap.size := by
  obtain ⟨v0, v1, y0, y1, n, rfl, _, _, h0, h1⟩ := Go.Joins.open_agg2 hs hone hC hv h
  obtain ⟨A, m, c, l, rfl, s1, d1⟩ := open_trod hf0 he hc h0
  obtain ⟨A', m', c', l', rfl, s2, d2⟩ := open_trod hf1 he hc h1
  exact ⟨⟨A, m, c, l, A', m', c', l'⟩, rfl, s1, s2, d1, d2⟩
end Go.Proofs.Ytgilhkdmgbeieaa
