/- Contracts of the machine's valid and knows (the Top seat). Contract of the machine's halve (the Top seat). Contract of the machine's halve, two bits or more (the Top seat). Contract of the machine's ask (the Top seat). -/
import Derived.Test.YtchhkokpjdkkiaaTopDisclosesa19
import Derived.BigQuiet
import Derived.BigRegion
import Derived.StillTailTactics
namespace Go.Proofs.Ytchhkokpjdkkiaa
open Go.RowKit

/-- The machine of a course in memory. -/
structure MC (C : Crs) (w : World) (base : Nat) (a : MA) (s : Mst) : Prop where
  m : Mach w base C.c C.n C.O C.BL C.tp a s
  pn : a.O.n = C.c.p
  qn : a.B.n = C.c.p
section
variable {C : Crs} {w w' : World} {base : Nat} {a : MA} {s s' : Mst}
theorem MC.set (h : MC C w base a s) (i : Nat) (v : Value) (hrow : (mRow C.c a s).setIfInBounds i v = mRow C.c a s') (hb : s'.b = s.b) (ht : s'.told = s.told) : MC C (w.setCell ⟨a.g, i, none⟩ v) base a s' := ⟨h.m.set i v hrow hb ht, h.pn, h.qn⟩
theorem MC.on (h : MC C w base a s) (hb : Below w.heap.size w w') : MC C w' base a s := ⟨h.m.on hb, h.pn, h.qn⟩
theorem MC.lt (h : MC C w base a s) : a.g < w.heap.size := h.m.m.lt
theorem MC.cells (h : MC C w base a s) (i : Nat) : w.cell? ⟨a.g, i, none⟩ = (mRow C.c a s)[i]? := h.m.m.cell i
/-- The header of a pass's blocks, a block of the pass. -/
theorem MC.blk (h : MC C w base a s) {p : Nat} (hp : p < C.c.p) : ∃ (bo : Nat) (A : Option Addr) (m d : Nat), a.B.A = some ⟨bo, 0, none⟩ ∧ bo < w.heap.size ∧ w.cell? ⟨bo, p, none⟩ = some (.slice A m d) ∧ Ow eQs w base 45 A m d (C.BL p) := by
  obtain ⟨HO, HB, hr⟩ := h.m.r
  obtain ⟨g, hd, eB, hb, hlt, hhd, hc⟩ := hr.hB.get (i := p) (by rw [h.qn]; exact hp)
  have x0 := hc 0 _ rfl
  simp only [eHd, Nat.add_zero, Nat.mul_one] at x0
  exact ⟨g, hd.A, hd.n, hd.c, eB, hlt, x0, hr.rB p hd hhd⟩
theorem MC.ord (h : MC C w base a s) {p : Nat} (hp : p < C.c.p) : ∃ (bo : Nat) (A : Option Addr) (d : Nat), a.O.A = some ⟨bo, 0, none⟩ ∧ bo < w.heap.size ∧ w.cell? ⟨bo, p, none⟩ = some (.slice A C.n d) ∧ Ow eNat w base 3 A C.n d (C.O p) := by
  obtain ⟨HO, HB, hr⟩ := h.m.r
  obtain ⟨g, hd, eB, hb, hlt, hhd, hc⟩ := hr.hO.get (i := p) (by rw [h.pn]; exact hp)
  have x0 := hc 0 _ rfl
  simp only [eHd, Nat.add_zero, Nat.mul_one] at x0
  obtain ⟨e, ho⟩ := hr.rO p hd hhd
  rw [e] at x0 ho
  exact ⟨g, hd.A, hd.c, eB, hlt, x0, ho⟩
theorem MC.isOdd (h : MC C w base a s) (hC : C.Ok) (q : Qs) (v : Bool) (hq : okQn C.c.p C.n q) : Calls Try.prog 126 #[.pointer (some ⟨a.g, 0, none⟩), keyV q, .bool v] w fun e w' => e = .returned (.bool (parL s.b (plQ C.O q) != v)) ∧ Below w.heap.size w w' :=
  isOdd_c w base C.c C.n C.O C.BL C.tp a s h.m q v (by rw [h.pn]; exact hq) hC.O (by have := hC.hn; omega)
theorem MC.look (h : MC C w base a s) {q : Qs} (hq : okQ q) (c : Bool) :
    (q ∈ s.told.map Ans.q ∧ ∀ n, (Instr.lookup 94 (.map (some a.k)) (keyV q) c).run Try.prog (w.drewN n) = .ok (if c then .tuple #[.bool (C.tp q), .bool true] else .bool (C.tp q)) (w.drewN n)) ∨
    (q ∉ s.told.map Ans.q ∧ ∀ n, (Instr.lookup 94 (.map (some a.k)) (keyV q) c).run Try.prog (w.drewN n) = .ok (if c then .tuple #[.bool false, .bool false] else .bool false) (w.drewN n)) := by
  by_cases hm : q ∈ s.told.map Ans.q
  · exact .inl ⟨hm, fun n => by
      rcases (h.on (below_drewN (Below.refl _ _) n)).m.k.look hq c with ⟨_, hr⟩ | ⟨h', _⟩
      · exact hr
      · exact absurd hm h'⟩
  · exact .inr ⟨hm, fun n => by
      rcases (h.on (below_drewN (Below.refl _ _) n)).m.k.look hq c with ⟨h', _⟩ | ⟨_, hr⟩
      · exact absurd h' hm
      · exact hr⟩
end
theorem okQ_of {ps n : Nat} {q : Qs} (h : okQn ps n q) (hp : ps ≤ 6) (hn : n ≤ 64) : okQ q := by
  obtain ⟨h1, h2, h3⟩ := h; exact ⟨by omega, by omega, by omega⟩
set_option maxRecDepth 100000 in
theorem mvalid_c {C : Crs} {w : World} {base : Nat} {a : MA} {s : Mst} (h : MC C w base a s) : Calls Try.prog 58 #[.pointer (some ⟨a.g, 0, none⟩)] w fun e w' => e = .returned (.bool true) ∧ w = w' := by
  have m0 := h.cells 0
  simp only [mRow, List.getElem?_toArray, List.getElem?_cons_zero] at m0
  go_enter Try.func58, Try.ntmps58
  go_wp2
  go_ret
  exact ⟨rfl, rfl⟩
set_option maxRecDepth 100000 in
set_option maxHeartbeats 3200000 in
theorem mknows_c {C : Crs} {w : World} {base : Nat} {a : MA} {s : Mst} (h : MC C w base a s) (q : Qs) (hq : okQ q) :
    Calls Try.prog 124 #[.pointer (some ⟨a.g, 0, none⟩), keyV q] w fun e w' =>
      (q ∈ s.told.map Ans.q ∧ e = .returned (.bool true) ∧ MC C w' base a s ∧ w.grownBy w' (some a.g)) ∨
      (q ∉ s.told.map Ans.q ∧ e = .returned (.bool false) ∧ MC C w' base a { s with nxt := q, opn := true } ∧ w.grownBy w' (some a.g)) := by
  have hal := below_alloc w (.cells #[.int .i64 (q.p : Int), .int .i64 (q.fr : Int), .int .i64 (q.tt : Int)] 45)
  have hQ := Blk.newAt w 45 #[.int .i64 (q.p : Int), .int .i64 (q.fr : Int), .int .i64 (q.tt : Int)] w.heap.size rfl
  have hglt := h.lt
  have h1 := h.on hal
  have HG := hide (grownBy_below hal (some a.g))
  obtain ⟨gM, hgM⟩ : ∃ x, x = a.g := ⟨_, rfl⟩
  have m7 := h1.cells 7
  have f0 := h1.m.m.frozen 18
  have f1 := h1.m.m.frozen 19
  have f2 := h1.m.m.frozen 20
  have f3 := h1.m.m.frozen 21
  have m18 := h1.cells 18
  have m19 := h1.cells 19
  have m20 := h1.cells 20
  have m21 := h1.cells 21
  simp only [mRow, List.getElem?_toArray, List.getElem?_cons_zero, List.getElem?_cons_succ] at m7 m18 m19 m20 m21
  have HM := hide h1
  have hlk := h1.look hq true
  simp only [keyV]
  simp only [keyV, if_true] at hlk
  obtain ⟨wA, hwA⟩ : ∃ x, x = w.alloc (.cells #[.int .i64 (q.p : Int), .int .i64 (q.fr : Int), .int .i64 (q.tt : Int)] 45) := ⟨_, rfl⟩
  rw [← hwA] at m7 m18 m19 m20 m21 f0 f1 f2 f3 hQ hlk
  have q0 := hQ.cell 0
  have q1 := hQ.cell 1
  have q2 := hQ.cell 2
  simp only [List.getElem?_toArray, List.getElem?_cons_zero, List.getElem?_cons_succ] at q0 q1 q2
  have HWA := hide hwA
  go_enter Try.func124, Try.ntmps124
  go_upto_region 1 with fail
  rw [← hwA]
  rw [HWA.out] at hQ
  clear hal hwA hQ
  rcases hlk with ⟨hm, hlk⟩ | ⟨hm, hlk⟩
  · have HY := hide hm
    clear hm
    go_quiet (fail)
    go_wp2
    go_ret
    exact .inl ⟨HY.out, rfl, by rw [HWA.out]; exact HM.out.on (below_drewN (Below.refl _ _) nq), by rw [HWA.out]; exact grownBy_drewN HG.out nq⟩
  · have HY := hide hm
    clear hm
    go_quiet (fail)
    go_wp2
    go_ret
    have h2 := (((((HM.out.on (below_drewN (Below.refl _ _) nq)).set 18 (.int .i64 (q.p : Int)) (s' := { s with nxt := ⟨q.p, s.nxt.fr, s.nxt.tt⟩ }) rfl rfl rfl).set 19 (.int .i64 (q.fr : Int)) (s' := { s with nxt := ⟨q.p, q.fr, s.nxt.tt⟩ }) rfl rfl rfl).set 20 (.int .i64 (q.tt : Int)) (s' := { s with nxt := q }) rfl rfl rfl).set 21 (.bool true) (s' := { s with nxt := q, opn := true }) rfl rfl rfl)
    have h3 := ((((grownBy_drewN HG.out nq).trans (grownBy_setCell _ a.g 18 (.int .i64 (q.p : Int)))).trans (grownBy_setCell _ a.g 19 (.int .i64 (q.fr : Int)))).trans (grownBy_setCell _ a.g 20 (.int .i64 (q.tt : Int)))).trans (grownBy_setCell _ a.g 21 (.bool true))
    rw [← HWA.out] at h2 h3
    exact .inr ⟨HY.out, rfl, h2, h3⟩
end Go.Proofs.Ytchhkokpjdkkiaa

namespace Go.Proofs.Ytchhkokpjdkkiaa
open Go.RowKit

theorem Ow.ne_ow {α β : Type} {e : Enc α} {f : Enc β} {w : World} {base base' n c m d : Nat} {E F : TypeId} {A B : Option Addr} {L : List α} {M : List β} (o : Ow e w base E A n c L) (q : Ow f w base' F B m d M) (hT : E ≠ F) {g : Nat} (hA : A = some ⟨g, 0, none⟩) : ∀ g', B = some ⟨g', 0, none⟩ → g' ≠ g := by
  rintro g' rfl rfl
  rcases o.form with ⟨h0, _⟩ | ⟨g1, cur, ea, _, _, hh, _⟩
  · rw [h0] at hA; cases hA
  · rw [hA] at ea; injection ea with ea; injection ea with ea; subst ea
    rcases q.form with ⟨h0, _⟩ | ⟨g2, cur', eb, _, _, hh', _⟩
    · cases h0
    · injection eb with eb; injection eb with eb; subst eb
      have h := hh.symm.trans hh'
      injection h with h; injection h with _ h2
      exact hT h2
section
variable {C : Crs} {w w' : World} {base : Nat} {a : MA} {s s' : Mst}
theorem MC.flip (h : MC C w base a s) {x g : Nat} (hx : x < C.n) (hg : a.b.A = some ⟨g, 0, none⟩) (v : Bool) : MC C (w.setCell ⟨g, x, none⟩ (.bool v)) base a { s with b := s.b.set x v } := by
  obtain ⟨⟨m, r, b, k, t, bn, h1, h2⟩, pn, qn⟩ := h
  obtain ⟨HO, HB, hr⟩ := r
  have hgr := grownBy_setCell w g x (.bool v)
  have hb := b
  rw [hg] at hb
  have hbool : ∀ cur T, w.heap[g]? = some (.cells cur T (0, 0)) → T = 4 := fun cur T hh => by
    rcases hb.form with ⟨h0, _⟩ | ⟨g1, cur', ea, _, _, hh', _⟩
    · cases h0
    · injection ea with ea; injection ea with ea; subst ea
      have h := hh.symm.trans hh'
      injection h with h; injection h with _ h2
  refine ⟨⟨m.far (fun e => ?_) _, ⟨HO, HB, hr.keep fun g' cur T hh hT => hgr.block g' (Array.getElem?_eq_some_iff.1 hh).1 fun e => ?_⟩, ?_, k.grown hgr (fun e => ?_), t.far (b.ne_ow t (by decide) hg) _, bn, h1, h2⟩, pn, qn⟩
  · exact b.ne_blk m (by decide) g hg e.symm
  · injection e with e
    subst e
    have := hbool cur T hh
    subst this
    revert hT; decide
  · rw [hg]
    exact hb.store1 (by rw [bn]; exact hx) v rfl rfl
  · injection e with e
    exact k.ne_own b g hg e.symm
theorem MC.bit (h : MC C w base a s) {x : Nat} (hx : x < C.n) : ∃ g, a.b.A = some ⟨g, 0, none⟩ ∧ base ≤ g ∧ g < w.heap.size ∧ g ≠ a.g ∧ w.cell? ⟨g, x, none⟩ = some (.bool (s.b.getD x false)) ∧ ∀ i, w.frozen? ⟨g, i, none⟩ = false := by
  obtain ⟨g, y, e, hb, hlt, hy, hc⟩ := h.m.b.get (i := x) (by rw [h.m.bn]; exact hx)
  have x0 := hc 0 _ rfl
  simp only [eBool, Nat.add_zero, Nat.mul_one] at x0
  refine ⟨g, e, hb, hlt, h.m.b.ne_blk h.m.m (by decide) g e, ?_, fun i => ?_⟩
  · rw [List.getD_eq_getElem?_getD, hy]; exact x0
  · have := h.m.b
    rw [e] at this
    exact this.frozen i
end
def ptrV (a : MA) : Value := .pointer (some ⟨a.g, 0, none⟩)
/-- What halve does. -/
def SHal (C : Crs) (base : Nat) (a : MA) (s : Mst) (w : World) (e : Ending) (w' : World) : Prop :=
  ∃ s', MC C w' base a s' ∧ Below base w w' ∧ s'.told = s.told ∧
    ((e = .returned .nilFunc ∧ Waits C s') ∨ (e = .returned (.func (.func 125) #[ptrV a] #[]) ∧ PSea C s' ∧ s'.opn = false ∧ mu C s' 70 < mu C s (s.odd.tt - s.odd.fr)) ∨
      (e = .returned (.func (.func 91) #[ptrV a] #[]) ∧ PHal C s' ∧ s'.opn = false ∧ mu C s' (s'.odd.tt - s'.odd.fr) < mu C s (s.odd.tt - s.odd.fr)))
set_option maxRecDepth 100000 in
set_option maxHeartbeats 3200000 in
theorem halve1_c {C : Crs} {w : World} {base : Nat} {a : MA} {s : Mst} (h : MC C w base a s) (hC : C.Ok) (hp : PHal C s) (ho : s.opn = false) (h1 : s.odd.tt = s.odd.fr + 1) :
    Calls Try.prog 91 #[.pointer (some ⟨a.g, 0, none⟩)] w (SHal C base a s w) := by
  have hok := hp.2.2.2.2.1
  obtain ⟨ob, oA, od, eO, hob, x0, oO⟩ := h.ord hok.1
  obtain ⟨og, x, eoA, _, hog, hx, hcx⟩ := oO.get (i := s.odd.fr) (by have := hok.2; omega)
  have y0 := hcx 0 _ rfl
  simp only [eNat, Nat.add_zero, Nat.mul_one] at y0
  rw [eoA] at x0
  have hxn : x < C.n := hC.O _ x (List.mem_of_getElem? hx)
  obtain ⟨bg, ebA, hbb, hbl, hbn, b0, bf⟩ := h.bit hxn
  have bfx := bf x
  have FL := hide (hp.flip hC h1 hx)
  have hfl := (hp.flip hC h1 hx).2
  have m4 := h.cells 4
  have m6 := h.cells 6
  have m9 := h.cells 9
  have m13 := h.cells 13
  have m14 := h.cells 14
  have m15 := h.cells 15
  have m16 := h.cells 16
  simp only [mRow, List.getElem?_toArray, List.getElem?_cons_zero, List.getElem?_cons_succ, eO, ebA, h.pn, h.m.bn] at m4 m6 m9 m13 m14 m15 m16
  have f9 := h.m.m.frozen 9
  have f13 := h.m.m.frozen 13
  have HM := hide h
  have HX := hide (show base ≤ a.g ∧ a.g < w.heap.size ∧ base ≤ bg ∧ a.b.A = some ⟨bg, 0, none⟩ ∧ s.odd.tt = s.odd.fr + 1 from ⟨h.m.hg, h.lt, hbb, ebA, h1⟩)
  have HN := hide hC.hn
  unfold SHal ptrV
  rw [h1] at m16
  obtain ⟨F, hF⟩ : ∃ q, q = s.odd.fr := ⟨_, rfl⟩
  obtain ⟨p, hP⟩ : ∃ q, q = s.odd.p := ⟨_, rfl⟩
  obtain ⟨fl, hfl'⟩ : ∃ q, q = s.fl := ⟨_, rfl⟩
  obtain ⟨bit, hbit⟩ : ∃ q, q = s.b.getD x false := ⟨_, rfl⟩
  rw [← hF] at m15 m16 y0
  rw [← hP] at m14 x0
  rw [← hfl'] at m9 hfl
  rw [← hbit] at b0
  have hFn : F < C.n := by have := hok.2; omega
  have hpn : p < C.c.p := by rw [hP]; exact hok.1
  have hp6 := hC.hp
  have hn64 := hC.hn
  have hF1 : ((F + 1 : Nat) : Int) - (F : Int) = 1 := by omega
  have HE := hide (show F = s.odd.fr ∧ p = s.odd.p ∧ fl = s.fl ∧ bit = s.b.getD x false from ⟨hF, hP, hfl', hbit⟩)
  clear hx hcx hok bf h1 hF hP hfl' hbit eO eoA ebA
  go_enter Try.func91, Try.ntmps91
  go_wp2
  go_quiet (fail)
  go_wp2
  go_quiet (fail)
  go_wp2
  go_region
  go_wp2
  go_ret
  obtain ⟨eF, eP, efl, ebit⟩ := HE.out
  obtain ⟨x1, x2, x3, x4, x5⟩ := HX.out
  have h1 := fun k => ((((HM.out.on (below_drewN (Below.refl _ _) k)).flip hxn x4 (!bit)).set 9 (.int .i64 ((fl + 1 : Nat) : Int)) (s' := { s with b := s.b.set x (!bit), fl := s.fl + 1 }) (by rw [efl]; rfl) rfl rfl).set 13 (.bool false) (s' := { s with b := s.b.set x (!bit), fl := s.fl + 1, srch := false }) rfl rfl rfl)
  refine ⟨_, h1 _, ((((below_drewN (Below.refl _ _) _).setCell (p := ⟨bg, x, none⟩) x3 _).setCell (p := ⟨a.g, 9, none⟩) x1 _).setCell (p := ⟨a.g, 13, none⟩) x1 _), rfl, .inr (.inl ⟨rfl, ?_, ho, ?_⟩)⟩
  · rw [ebit]; exact FL.out.1
  · unfold mu
    simp only
    rw [← efl]
    omega
end Go.Proofs.Ytchhkokpjdkkiaa

namespace Go.Proofs.Ytchhkokpjdkkiaa
open Go.RowKit

set_option maxRecDepth 100000 in
set_option maxHeartbeats 3200000 in
theorem halve2_c {C : Crs} {w : World} {base : Nat} {a : MA} {s : Mst} (h : MC C w base a s) (hC : C.Ok) (hp : PHal C s) (ho : s.opn = false) (h1 : s.odd.tt ≠ s.odd.fr + 1) :
    Calls Try.prog 91 #[.pointer (some ⟨a.g, 0, none⟩)] w (SHal C base a s w) := by
  have hok := hp.2.2.2.2.1
  have hlo := loQ_ok hok h1
  have hhi := hiQ_ok hok
  have hqk : okQ (loQ s.odd) := okQ_of hlo hC.hp hC.hn
  have m14 := h.cells 14
  have m15 := h.cells 15
  have m16 := h.cells 16
  simp only [mRow, List.getElem?_toArray, List.getElem?_cons_zero, List.getElem?_cons_succ] at m14 m15 m16
  have HM := hide h
  have HX := hide (show base ≤ a.g ∧ a.g < w.heap.size from ⟨h.m.hg, h.lt⟩)
  have HN := hide hC.hn
  unfold SHal ptrV
  obtain ⟨F, hF⟩ : ∃ q, q = s.odd.fr := ⟨_, rfl⟩
  obtain ⟨T, hT⟩ : ∃ q, q = s.odd.tt := ⟨_, rfl⟩
  obtain ⟨p, hP⟩ : ∃ q, q = s.odd.p := ⟨_, rfl⟩
  obtain ⟨S, hS⟩ : ∃ q, q = T - F := ⟨_, rfl⟩
  obtain ⟨H, hH⟩ : ∃ q, q = S / 2 := ⟨_, rfl⟩
  obtain ⟨M, hM⟩ : ∃ q, q = F + H := ⟨_, rfl⟩
  have HLO := hide (show loQ s.odd = ⟨p, F, M⟩ by unfold loQ; rw [hM, hH, hS, hF, hT, hP])
  have HHI := hide (show hiQ s.odd = ⟨p, M, T⟩ by unfold hiQ; rw [hM, hH, hS, hF, hT, hP])
  have hFT : F + 2 ≤ T := by have := hok.2; omega
  have hTn : T ≤ C.n := by have := hok.2; omega
  have hn64 := hC.hn
  have hTF : (T : Int) - (F : Int) = (S : Int) := by omega
  have hS1 : ¬ ((S : Int) = 1) := by omega
  have hS2 : 2 ≤ S := by omega
  have hSn : S ≤ C.n := by omega
  have hq1 : (S : Int) / 2 = (H : Int) := by omega
  have hq2 : (S : Int).tdiv 2 = (H : Int) := by rw [Int.tdiv_eq_ediv_of_nonneg (by omega)]; exact hq1
  have hHn : H ≤ C.n := by omega
  have hFH : (F : Int) + (H : Int) = (M : Int) := by omega
  have hMn : M ≤ C.n := by omega
  rw [← hP] at m14
  rw [← hF] at m15
  rw [← hT] at m16
  have HE := hide (show F = s.odd.fr ∧ p = s.odd.p ∧ T = s.odd.tt ∧ F < M ∧ M < T from ⟨hF, hP, hT, by omega, by omega⟩)
  have HNE := hide h1
  clear hF hT hP hS hH hM h1 hok
  go_enter Try.func91, Try.ntmps91
  go_wp2
  go_quiet (fail)
  have h1 := HM.out.on (below_drewN (Below.refl _ _) nq)
  have hb1 := below_drewN (Below.refl base w) nq
  obtain ⟨w1, hw1⟩ : ∃ q, q = w.drewN nq := ⟨_, rfl⟩
  rw [← hw1] at h1 hb1 ⊢
  clear hw1 m14 m15 m16 h
  have m14 := h1.cells 14
  have m15 := h1.cells 15
  have m16 := h1.cells 16
  simp only [mRow, List.getElem?_toArray, List.getElem?_cons_zero, List.getElem?_cons_succ] at m14 m15 m16
  rw [← HE.out.2.1] at m14
  rw [← HE.out.1] at m15
  rw [← HE.out.2.2.1] at m16
  have hsz := Nat.le_trans h1.m.hg (Nat.le_of_lt h1.lt)
  have H1 := hide (And.intro h1 (And.intro hb1 hsz))
  clear hb1 hsz h1
  go_upto_region 10 with fail
  have hal := below_alloc w1 (.cells #[.int .i64 (p : Int), .int .i64 (F : Int), .int .i64 (M : Int)] 45)
  have hB := Blk.newAt w1 45 #[.int .i64 (p : Int), .int .i64 (F : Int), .int .i64 (M : Int)] w1.heap.size rfl
  obtain ⟨w2, hw2⟩ : ∃ q, q = w1.alloc (.cells #[.int .i64 (p : Int), .int .i64 (F : Int), .int .i64 (M : Int)] 45) := ⟨_, rfl⟩
  rw [← hw2] at hal hB ⊢
  have h2 := H1.out.1.on hal
  have hb2 : Below base w w2 := H1.out.2.1.trans (hal.mono H1.out.2.2)
  have hne : w1.heap.size ≠ a.g := by have := H1.out.1.lt; omega
  obtain ⟨gF, hgF⟩ : ∃ q, q = w1.heap.size := ⟨_, rfl⟩
  rw [← hgF] at hB hne ⊢
  clear hw2 hal hgF m14 m15 m16 H1
  have q0 := hB.cell 0
  have q1 := hB.cell 1
  have q2 := hB.cell 2
  simp only [List.getElem?_toArray, List.getElem?_cons_zero, List.getElem?_cons_succ] at q0 q1 q2
  have KN := mknows_c h2 (loQ s.odd) hqk
  by_cases hm : loQ s.odd ∈ s.told.map Ans.q
  · have K2 : Calls Try.prog 124 #[.pointer (some ⟨a.g, 0, none⟩), keyV (loQ s.odd)] w2 fun e w' => e = .returned (.bool true) ∧ MC C w' base a s ∧ w2.grownBy w' (some a.g) := KN.mono fun e w' h => by
      rcases h with ⟨_, h⟩ | ⟨h', _⟩
      · exact h
      · exact absurd hm h'
    rw [HLO.out] at K2
    simp only [keyV] at K2
    have KH := hide K2
    have HB := hide hB
    have HM2 := hide hm
    clear KN K2 hm
    go_upto_region 12 with (go_at_call 124; refine KH.out.mono ?_; rintro e w3 ⟨rfl, h3, hg3⟩)
    clear q0 q1 q2
    have hB3 := HB.out.grown hg3 (by simpa using hne)
    have hb3 := below_grown hb2 hg3 HX.out.1 (Nat.le_trans HX.out.1 (Nat.le_of_lt HX.out.2))
    have lk : ∀ n, (Instr.lookup 94 (.map (some a.k)) (keyV (loQ s.odd)) false).run Try.prog (w3.drewN n) = .ok (.bool (C.tp (loQ s.odd))) (w3.drewN n) := by
      rcases h3.look hqk false with ⟨_, h⟩ | ⟨h', _⟩
      · exact h
      · exact absurd HM2.out h'
    rw [HLO.out] at lk
    simp only [keyV] at lk
    obtain ⟨tpv, htp⟩ : ∃ q, q = C.tp ⟨p, F, M⟩ := ⟨_, rfl⟩
    rw [← htp] at lk
    have HTP := hide htp
    have m7 := h3.cells 7
    simp only [mRow, List.getElem?_toArray, List.getElem?_cons_zero, List.getElem?_cons_succ] at m7
    have q0 := hB3.cell 0
    have q1 := hB3.cell 1
    have q2 := hB3.cell 2
    simp only [List.getElem?_toArray, List.getElem?_cons_zero, List.getElem?_cons_succ] at q0 q1 q2
    have H3 := hide (And.intro h3 (And.intro hb3 hB3))
    clear htp hB3 hb3 hg3 hb2 h3 h2 hB HB KH
    go_quiet (fail)
    have h4 := H3.out.1.on (below_drewN (Below.refl _ _) nq)
    have hb4 := below_drewN H3.out.2.1 nq
    have hB4 := H3.out.2.2.drewN nq
    obtain ⟨w4, hw4⟩ : ∃ q, q = w3.drewN nq := ⟨_, rfl⟩
    rw [← hw4] at h4 hb4 hB4 ⊢
    clear hw4 m7 q0 q1 q2 lk H3
    have q0 := hB4.cell 0
    have q1 := hB4.cell 1
    have q2 := hB4.cell 2
    simp only [List.getElem?_toArray, List.getElem?_cons_zero, List.getElem?_cons_succ] at q0 q1 q2
    have hIsO := h4.isOdd hC (loQ s.odd) tpv hlo
    rw [HLO.out] at hIsO
    simp only [keyV] at hIsO
    by_cases hod : parL s.b (plQ C.O (loQ s.odd)) = C.tp (loQ s.odd)
    · have hv : (parL s.b (plQ C.O ⟨p, F, M⟩) != tpv) = false := by rw [HTP.out, ← HLO.out, hod]; simp
      rw [hv] at hIsO
      have HIO := hide hIsO
      have HOD := hide hod
      have H4 := hide (And.intro h4 (And.intro hb4 hB4))
      clear hIsO hod hv h4 hb4 hB4
      go_upto_region 15 with (go_at_call 126; refine HIO.out.mono ?_; rintro e w5 ⟨rfl, hb5⟩)
      have h5 := H4.out.1.on hb5
      have hb6 := H4.out.2.1.trans (hb5.mono (Nat.le_trans h5.m.hg (Nat.le_of_lt H4.out.1.lt)))
      have hB5 := H4.out.2.2.keep hb5
      clear q0 q1 q2 hb5 H4
      have q0 := hB5.cell 0
      have q1 := hB5.cell 1
      have q2 := hB5.cell 2
      simp only [List.getElem?_toArray, List.getElem?_cons_zero, List.getElem?_cons_succ] at q0 q1 q2
      have m15 := h5.cells 15
      have m17 := h5.cells 17
      have f15 := h5.m.m.frozen 15
      have f17 := h5.m.m.frozen 17
      simp only [mRow, List.getElem?_toArray, List.getElem?_cons_zero, List.getElem?_cons_succ] at m15 m17
      obtain ⟨an, han⟩ : ∃ q, q = s.ans := ⟨_, rfl⟩
      rw [← han] at m17
      have HAN := hide han
      clear han
      go_region
      go_wp2
      go_ret
      have h6 := fun k => (((h5.on (below_drewN (Below.refl _ _) k)).set 15 (.int .i64 (M : Int)) (s' := { s with odd := ⟨s.odd.p, M, s.odd.tt⟩ }) rfl rfl rfl).set 17 (.bool (an != tpv)) (s' := { s with odd := ⟨s.odd.p, M, s.odd.tt⟩, ans := (an != tpv) }) rfl rfl rfl)
      have x1 := HX.out.1
      refine ⟨_, h6 1, (((below_drewN hb6 1).setCell (p := ⟨a.g, 15, none⟩) x1 _).setCell (p := ⟨a.g, 17, none⟩) x1 _), rfl, .inr (.inr ⟨rfl, ?_, ho, ?_⟩)⟩
      · have := hp.hi HOD.out
        rw [HLO.out, HHI.out, ← HTP.out, ← HAN.out] at this
        rw [← HE.out.2.1, ← HE.out.2.2.1]
        exact this
      · obtain ⟨eF, _, eT, l1, l2⟩ := HE.out
        unfold mu
        simp only
        rw [← eF, ← eT]
        omega
    · have hv : (parL s.b (plQ C.O ⟨p, F, M⟩) != tpv) = true := by rw [HTP.out, ← HLO.out]; simpa using hod
      rw [hv] at hIsO
      have HIO := hide hIsO
      have HOD := hide hod
      have H4 := hide (And.intro h4 (And.intro hb4 hB4))
      clear hIsO hod hv h4 hb4 hB4
      go_upto_region 14 with (go_at_call 126; refine HIO.out.mono ?_; rintro e w5 ⟨rfl, hb5⟩)
      have h5 := H4.out.1.on hb5
      have hb6 := H4.out.2.1.trans (hb5.mono (Nat.le_trans h5.m.hg (Nat.le_of_lt H4.out.1.lt)))
      have hB5 := H4.out.2.2.keep hb5
      clear q0 q1 q2 hb5 H4
      have q0 := hB5.cell 0
      have q1 := hB5.cell 1
      have q2 := hB5.cell 2
      simp only [List.getElem?_toArray, List.getElem?_cons_zero, List.getElem?_cons_succ] at q0 q1 q2
      have m14 := h5.cells 14
      have m15 := h5.cells 15
      have m16 := h5.cells 16
      have m17 := h5.cells 17
      have f14 := h5.m.m.frozen 14
      have f15 := h5.m.m.frozen 15
      have f16 := h5.m.m.frozen 16
      have f17 := h5.m.m.frozen 17
      simp only [mRow, List.getElem?_toArray, List.getElem?_cons_zero, List.getElem?_cons_succ] at m14 m15 m16 m17
      go_wp2
      go_ret
      have h6 := ((((h5.set 14 (.int .i64 (p : Int)) (s' := { s with odd := ⟨p, s.odd.fr, s.odd.tt⟩ }) rfl rfl rfl).set 15 (.int .i64 (F : Int)) (s' := { s with odd := ⟨p, F, s.odd.tt⟩ }) rfl rfl rfl).set 16 (.int .i64 (M : Int)) (s' := { s with odd := ⟨p, F, M⟩ }) rfl rfl rfl).set 17 (.bool tpv) (s' := { s with odd := ⟨p, F, M⟩, ans := tpv }) rfl rfl rfl)
      have x1 := HX.out.1
      refine ⟨_, h6, ((((hb6.setCell (p := ⟨a.g, 14, none⟩) x1 _).setCell (p := ⟨a.g, 15, none⟩) x1 _).setCell (p := ⟨a.g, 16, none⟩) x1 _).setCell (p := ⟨a.g, 17, none⟩) x1 _), rfl, .inr (.inr ⟨rfl, ?_, ho, ?_⟩)⟩
      · have := hp.lo HNE.out HOD.out
        rw [HLO.out, ← HTP.out] at this
        exact this
      · obtain ⟨eF, _, eT, l1, l2⟩ := HE.out
        unfold mu
        simp only
        rw [← eF, ← eT]
        omega
  · have K2 : Calls Try.prog 124 #[.pointer (some ⟨a.g, 0, none⟩), keyV (loQ s.odd)] w2 fun e w' => e = .returned (.bool false) ∧ MC C w' base a { s with nxt := loQ s.odd, opn := true } ∧ w2.grownBy w' (some a.g) := KN.mono fun e w' h => by
      rcases h with ⟨h', _⟩ | ⟨_, h⟩
      · exact absurd h' hm
      · exact h
    rw [HLO.out] at K2
    simp only [keyV] at K2
    have KH := hide K2
    have HM2 := hide hm
    clear KN K2 hm
    go_wp2_with (go_at_call 124; refine KH.out.mono ?_; rintro e w3 ⟨rfl, h3, hg3⟩)
    go_ret
    have hb3 := below_grown hb2 hg3 HX.out.1 (Nat.le_trans HX.out.1 (Nat.le_of_lt HX.out.2))
    have hw := hp.wait HNE.out HM2.out
    rw [HLO.out] at hw
    exact ⟨_, h3, hb3, rfl, .inl ⟨rfl, hw⟩⟩
end Go.Proofs.Ytchhkokpjdkkiaa

namespace Go.Proofs.Ytchhkokpjdkkiaa
open Go.RowKit

theorem halve_c {C : Crs} {w : World} {base : Nat} {a : MA} {s : Mst} (h : MC C w base a s) (hC : C.Ok) (hp : PHal C s) (ho : s.opn = false) :
    Calls Try.prog 91 #[.pointer (some ⟨a.g, 0, none⟩)] w (SHal C base a s w) := by
  by_cases h1 : s.odd.tt = s.odd.fr + 1
  · exact halve1_c h hC hp ho h1
  · exact halve2_c h hC hp ho h1
/-- What ask does. -/
def SAsk (C : Crs) (base : Nat) (a : MA) (s : Mst) (w : World) (e : Ending) (w' : World) : Prop :=
  ∃ s', MC C w' base a s' ∧ Below base w w' ∧ s'.told = s.told ∧
    ((e = .returned .nilFunc ∧ Rests C s') ∨ (e = .returned (.func (.func 125) #[ptrV a] #[]) ∧ PSea C s' ∧ s'.opn = false ∧ mu C s' 70 < mu C s 71))
set_option maxRecDepth 100000 in
set_option maxHeartbeats 3200000 in
theorem ask_c {C : Crs} {w : World} {base : Nat} {a : MA} {s : Mst} (h : MC C w base a s) (hC : C.Ok) (hp : PAsk C s) (ho : s.opn = false) :
    Calls Try.prog 90 #[.pointer (some ⟨a.g, 0, none⟩)] w (SAsk C base a s w) := by
  have m1 := h.cells 1
  have m11 := h.cells 11
  simp only [mRow, List.getElem?_toArray, List.getElem?_cons_zero, List.getElem?_cons_succ] at m1 m11
  have HM := hide h
  have HX := hide (show base ≤ a.g ∧ a.g < w.heap.size from ⟨h.m.hg, h.lt⟩)
  have hps := hp.1.ps
  have hp6 := hC.hp
  have hn64 := hC.hn
  unfold SAsk ptrV
  obtain ⟨P, hP⟩ : ∃ q, q = s.ps := ⟨_, rfl⟩
  obtain ⟨K, hK⟩ : ∃ q, q = C.c.p := ⟨_, rfl⟩
  rw [← hP] at m11 hps
  rw [← hK] at m1 hps hp6
  have HE := hide (And.intro hP hK)
  clear hP hK
  by_cases hend : P = K
  · subst hend
    go_enter Try.func90, Try.ntmps90
    go_wp2
    go_quiet (fail)
    go_wp2
    go_ret
    exact ⟨s, HM.out.on (below_drewN (Below.refl _ _) nq), below_drewN (Below.refl _ _) nq, rfl, .inl ⟨rfl, .inr ⟨ho, HE.out.1.symm.trans HE.out.2, hp⟩⟩⟩
  · have hne : ¬ ((P : Int) = (K : Int)) := by omega
    have hlt : P < K := by omega
    have HLT := hide (show s.ps < C.c.p by rw [← HE.out.1, ← HE.out.2]; exact hlt)
    go_enter Try.func90, Try.ntmps90
    go_wp2
    go_quiet (fail)
    go_wp2
    have h1 := HM.out.on (below_drewN (Below.refl _ _) nq)
    have hb1 := below_drewN (Below.refl base w) nq
    obtain ⟨w1, hw1⟩ : ∃ q, q = w.drewN nq := ⟨_, rfl⟩
    rw [← hw1] at h1 hb1 ⊢
    clear hw1 m1 m11 h
    have H1 := hide (And.intro h1 hb1)
    clear h1 hb1
    obtain ⟨bb, hbb⟩ : ∃ q, q = ((P : Int) == (K : Int)) := ⟨_, rfl⟩
    rw [← hbb]
    clear hbb
    go_loopw [2] (fun rv wr => rv = .nilFunc ∧ ∃ k : Nat, MC C wr base a { s with bk := k } ∧ PAsk C { s with bk := k } ∧ Below base w wr) (fun _ wr => C.n + 1 - (intOf ((wr.cell? ⟨a.g, 12, none⟩).getD undef)).toNat)
    case atStart => exact ⟨rfl, s.bk, H1.out.1, hp, H1.out.2⟩
    case round =>
      obtain ⟨rfl, k, hm, hpk, hbw⟩ := hrel
      obtain ⟨bo, bA, bm, bd, eB, hbo, x0, oB⟩ := hm.blk HLT.out
      have m5 := hm.cells 5
      have m11 := hm.cells 11
      have m12 := hm.cells 12
      simp only [mRow, List.getElem?_toArray, List.getElem?_cons_zero, List.getElem?_cons_succ, eB, hm.qn] at m5 m11 m12
      rw [← HE.out.1] at m11 x0
      rw [← HE.out.2] at m5
      have hP1 : (P : Int) < (K : Int) := by omega
      have HL := hide oB.len
      have hbl : bm ≤ C.n := by rw [← oB.len]; exact hC.lB _ HLT.out
      have HHM := hide (And.intro hm (And.intro hpk hbw))
      by_cases hk : k < bm
      · obtain ⟨g, q, ebA, _, _, hq, hcq⟩ := oB.get hk
        have q0 := hcq 0 _ rfl
        have q1 := hcq 1 _ rfl
        have q2 := hcq 2 _ rfl
        simp only [eQs, Nat.add_zero] at q0 q1 q2
        have hkI : (k : Int) < (bm : Int) := by omega
        subst ebA
        have HQ := hide (And.intro (And.intro q0 (And.intro q1 q2)) (And.intro hq x0))
        have H5 := hide (And.intro m5 (And.intro m11 m12))
        clear hcq hq oB hm hpk hbw
        go_wp2
        go_quiet (fail)
        go_wp2
        have h2 := HHM.out.1.on (below_drewN (Below.refl _ _) nq)
        have hb2 := below_drewN HHM.out.2.2 nq
        have d := below_drewN (Below.refl wr.heap.size wr) nq
        have q0 : (wr.drewN nq).cell? _ = _ := HQ.out.1.1
        have q1 : (wr.drewN nq).cell? _ = _ := HQ.out.1.2.1
        have q2 : (wr.drewN nq).cell? _ = _ := HQ.out.1.2.2
        have x0 : (wr.drewN nq).cell? _ = _ := HQ.out.2.2
        have m5 : (wr.drewN nq).cell? _ = _ := H5.out.1
        have m11 : (wr.drewN nq).cell? _ = _ := H5.out.2.1
        have m12 : (wr.drewN nq).cell? _ = _ := H5.out.2.2
        obtain ⟨w2, hw2⟩ : ∃ q, q = wr.drewN nq := ⟨_, rfl⟩
        rw [← hw2] at h2 hb2 q0 q1 q2 x0 m5 m11 m12 ⊢
        clear hw2 d
        have KN := hide (fun W (h : MC C W base a { s with bk := k }) => mknows_c h q (okQ_of (hC.BL _ _ HLT.out (List.mem_of_getElem? HQ.out.2.1)).1 hC.hp hC.hn))
        have H2 := hide (And.intro h2 hb2)
        clear h2 hb2
        obtain ⟨qp, qf, qt⟩ := q
        simp only [keyV] at KN
        simp only at q0 q1 q2
        go_still_tail 17, (by kernel_rfl)
        change wpList _ _ _ _ _ w2.drew
        have h3 := H2.out.1.on (show Below w2.heap.size w2 w2.drew from below_drewN (Below.refl _ _) 1)
        have hb3 : Below base w w2.drew := below_drewN H2.out.2 1
        generalize w2.drew = w3 at h3 hb3 ⊢
        clear m5 m11 m12 q0 q1 q2 x0 H2
        by_cases hm : (⟨qp, qf, qt⟩ : Qs) ∈ s.told.map Ans.q
        · have K2 : Calls Try.prog 124 #[.pointer (some ⟨a.g, 0, none⟩), .agg #[.int .i64 (qp : Int), .int .i64 (qf : Int), .int .i64 (qt : Int)]] w3 fun e w' => e = .returned (.bool true) ∧ MC C w' base a { s with bk := k } ∧ w3.grownBy w' (some a.g) := (KN.out w3 h3).mono fun e w' h => by
            rcases h with ⟨_, h⟩ | ⟨h', _⟩
            · exact h
            · exact absurd hm h'
          have KH := hide K2
          have HM2 := hide hm
          have H3 := hide (And.intro h3 hb3)
          clear K2 hm h3 hb3
          go_upto_region 4 with (go_at_call 124; refine KH.out.mono ?_; rintro e w4 ⟨rfl, h4, hg4⟩)
          have m12 := h4.cells 12
          have f12 := h4.m.m.frozen 12
          simp only [mRow, List.getElem?_toArray, List.getElem?_cons_zero, List.getElem?_cons_succ] at m12
          have H4 := hide (And.intro h4 (below_grown H3.out.2 hg4 HX.out.1 (Nat.le_trans HX.out.1 (Nat.le_of_lt HX.out.2))))
          clear h4 hg4
          go_wp2
          go_roundw
          case rel => exact ⟨rfl, k + 1, H4.out.1.set 12 (.int .i64 ((k + 1 : Nat) : Int)) (s' := { s with bk := k + 1 }) rfl rfl rfl, HHM.out.2.1.next hC HLT.out HQ.out.2.1 HM2.out, H4.out.2.setCell (p := ⟨a.g, 12, none⟩) HX.out.1 _⟩
          case measure =>
            have e1 := (H4.out.1.set 12 (.int .i64 ((k + 1 : Nat) : Int)) (s' := { s with bk := k + 1 }) rfl rfl rfl).cells 12
            have e2 := HHM.out.1.cells 12
            simp only [mRow, List.getElem?_toArray, List.getElem?_cons_zero, List.getElem?_cons_succ] at e1 e2
            have hkn : k < C.n := by omega
            rw [show ((k : Int) + 1) = ((k + 1 : Nat) : Int) by omega, e1, e2]
            simp [intOf] <;> omega
        · have K2 : Calls Try.prog 124 #[.pointer (some ⟨a.g, 0, none⟩), .agg #[.int .i64 (qp : Int), .int .i64 (qf : Int), .int .i64 (qt : Int)]] w3 fun e w' => e = .returned (.bool false) ∧ MC C w' base a { s with bk := k, nxt := ⟨qp, qf, qt⟩, opn := true } ∧ w3.grownBy w' (some a.g) := (KN.out w3 h3).mono fun e w' h => by
            rcases h with ⟨h', _⟩ | ⟨_, h⟩
            · exact absurd h' hm
            · exact h
          have KH := hide K2
          have HM2 := hide hm
          have H3 := hide (And.intro h3 hb3)
          clear K2 hm h3 hb3
          go_wp2_with (go_at_call 124; refine KH.out.mono ?_; rintro e w4 ⟨rfl, h4, hg4⟩)
          go_ret
          exact ⟨_, h4, below_grown H3.out.2 hg4 HX.out.1 (Nat.le_trans HX.out.1 (Nat.le_of_lt HX.out.2)), rfl, .inl ⟨rfl, .inl (HHM.out.2.1.wait hC HLT.out HQ.out.2.1 HM2.out)⟩⟩
      · have hkI : ¬ ((k : Int) < (bm : Int)) := by omega
        have HK := hide (show ¬ k < (C.BL s.ps).length by rw [HL.out]; exact hk)
        clear oB hm hpk hbw
        go_wp2
        go_quiet (fail)
        go_wp2
        go_ret
        refine ⟨_, HHM.out.1.on (below_drewN (Below.refl _ _) nq), below_drewN HHM.out.2.2 nq, rfl, .inr ⟨rfl, HHM.out.2.1.search HLT.out HK.out, ho, ?_⟩⟩
        unfold mu
        simp only
        omega
end Go.Proofs.Ytchhkokpjdkkiaa
