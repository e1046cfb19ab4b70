/- Contract of the machine's search (the Top seat). -/
import Derived.Test.YtchhkokpjdkkiaaTopDisclosesa20
import Derived.WalkMore
import Derived.Deep.LoopGhost
import Derived.Test.YtchhkokpjdkkiaaTopDisclosesa21
namespace Go.Proofs.Ytchhkokpjdkkiaa
open Go.RowKit

def evn (C : Crs) (s : Mst) (q : Qs) : Prop := parL s.b (plQ C.O q) = C.tp q
/-- How far the search is: no odd block so far, or the best odd one. -/
def Scan (C : Crs) (s : Mst) (p j : Nat) (f : Bool) (bq : Qs) : Prop :=
  match f with
  | true => okQn C.c.p C.n bq ∧ bq ∈ s.told.map Ans.q ∧ ¬ evn C s bq
  | false => (∀ p' q, p' < p → q ∈ C.BL p' → evn C s q) ∧ (∀ i q, i < j → (C.BL p)[i]? = some q → evn C s q)
theorem Scan.start (C : Crs) (s : Mst) (bq : Qs) : Scan C s 0 0 false bq := ⟨fun _ _ h => absurd h (by omega), fun _ _ h => absurd h (by omega)⟩
theorem Scan.enter {C : Crs} {s : Mst} {p j : Nat} {f : Bool} {bq : Qs} (h : Scan C s p j f bq) (hj : j = 0) : Scan C s p 0 f bq := by subst hj; exact h
theorem Scan.even {C : Crs} {s : Mst} {p j : Nat} {f : Bool} {bq q : Qs} (h : Scan C s p j f bq) (hq : (C.BL p)[j]? = some q) (he : evn C s q) : Scan C s p (j + 1) f bq := by
  cases f
  · refine ⟨h.1, fun i r hi hr => ?_⟩
    by_cases e : i = j
    · subst e; rw [hq] at hr; obtain rfl := Option.some.inj hr; exact he
    · exact h.2 i r (by omega) hr
  · exact h
theorem Scan.stay {C : Crs} {s : Mst} {p j p' j' : Nat} {bq : Qs} (h : Scan C s p j true bq) : Scan C s p' j' true bq := h
theorem Scan.take {C : Crs} {s : Mst} {p j : Nat} {q : Qs} (h1 : okQn C.c.p C.n q) (h2 : q ∈ s.told.map Ans.q) (h3 : ¬ evn C s q) : Scan C s p j true q := ⟨h1, h2, h3⟩
theorem Scan.up {C : Crs} {s : Mst} {p j : Nat} {f : Bool} {bq : Qs} (h : Scan C s p j f bq) (hj : (C.BL p).length ≤ j) : Scan C s (p + 1) 0 f bq := by
  cases f
  · refine ⟨fun p' r hp hr => ?_, fun i r hi _ => absurd hi (by omega)⟩
    by_cases e : p' = p
    · subst e
      obtain ⟨i, hi⟩ := List.getElem?_of_mem hr
      exact h.2 i r (by have := (List.getElem?_eq_some_iff.1 hi).1; omega) hi
    · exact h.1 p' r (by omega) hr
  · exact h
section
variable {P : Program}
theorem yieldsIf_lookup {ops : Array Oper} {S : World → Prop} {op : Oper} {a : Act} (hw : Region.wanted op (yielded ops a.tmps) = true) (t : TypeId) (x y : Operand) (c : Bool) (ho : op.op = .lookup t x y c)
    (vx vy : Value) (hx : a.eval x = vx) (hy : a.eval y = vy) (v : Value) (hS : ∀ w, S w → (Instr.lookup t vx vy c).run P w = .ok v w) : YieldsIf P ops S op v a :=
  .inl ⟨hw, fun w hw' => by
    unfold execOp
    simp only [ho, hx, hy]
    simp [hS w hw']⟩
theorem yieldsIf_sub {ops : Array Oper} {S : World → Prop} {op : Oper} {a : Act} (hw : Region.wanted op (yielded ops a.tmps) = true) (t z : TypeId) (x y : Operand) (ho : op.op = .binOp .sub t x y z)
    (n m r : Int) (hx : a.eval x = .int .i64 n) (hy : a.eval y = .int .i64 m) (hr : IntKind.i64.wrap (n - m) = r) : YieldsIf P ops S op (.int .i64 r) a :=
  .inl ⟨hw, fun w _ => by
    unfold execOp
    simp only [ho, hx, hy]
    simp [eqGuard, binOp, Op.intArith, hr]⟩
theorem yieldsIf_geq {ops : Array Oper} {S : World → Prop} {op : Oper} {a : Act} (hw : Region.wanted op (yielded ops a.tmps) = true) (t z : TypeId) (x y : Operand) (ho : op.op = .binOp .geq t x y z)
    (n m : Int) (b : Bool) (hx : a.eval x = .int .i64 n) (hy : a.eval y = .int .i64 m) (hr : decide (m ≤ n) = b) : YieldsIf P ops S op (.bool b) a :=
  .inl ⟨hw, fun w _ => by
    unfold execOp
    simp only [ho, hx, hy]
    simp [eqGuard, binOp, Op.intCmp, ← hr]⟩
end
/-- What search does. -/
def SSea (C : Crs) (base : Nat) (a : MA) (s : Mst) (w : World) (e : Ending) (w' : World) : Prop :=
  ∃ s', MC C w' base a s' ∧ Below base w w' ∧ s'.told = s.told ∧
    ((e = .returned (.func (.func 90) #[ptrV a] #[]) ∧ PAsk C s' ∧ s'.opn = false ∧ mu C s' 71 < mu C s 70) ∨
      (e = .returned (.func (.func 91) #[ptrV a] #[]) ∧ PHal C s' ∧ s'.opn = false ∧ mu C s' (s'.odd.tt - s'.odd.fr) < mu C s 70))
set_option maxRecDepth 100000 in
set_option maxHeartbeats 6400000 in
theorem search_c {C : Crs} {w : World} {base : Nat} {a : MA} {s : Mst} (h : MC C w base a s) (hC : C.Ok) (hp : PSea C s) (ho : s.opn = false) :
    Calls Try.prog 125 #[.pointer (some ⟨a.g, 0, none⟩)] w (SSea C base a s w) := by
  have hal := below_alloc w (.cells #[.int .i64 0, .int .i64 0, .int .i64 0] 45)
  have hB0 := Blk.newAt w 45 #[.int .i64 0, .int .i64 0, .int .i64 0] w.heap.size rfl
  have hbw : base ≤ w.heap.size := Nat.le_trans h.m.hg (Nat.le_of_lt h.lt)
  have HX := hide (show base ≤ a.g ∧ a.g < w.heap.size ∧ base ≤ w.heap.size from ⟨h.m.hg, h.lt, hbw⟩)
  have hps := hp.2.2.1
  have hp6 := hC.hp
  have hn64 := hC.hn
  have m11 := h.cells 11
  simp only [mRow, List.getElem?_toArray, List.getElem?_cons_zero, List.getElem?_cons_succ] at m11
  have HM := hide h
  unfold SSea ptrV
  obtain ⟨P, hP⟩ : ∃ q, q = s.ps := ⟨_, rfl⟩
  obtain ⟨K, hK⟩ : ∃ q, q = C.c.p := ⟨_, rfl⟩
  rw [← hP, ← hK] at hps
  rw [← hK] at hp6
  rw [← hP] at m11
  have HE := hide (And.intro hP hK)
  have m11 := (hal.cell (p := ⟨a.g, 11, none⟩) HX.out.2.1).trans m11
  clear hP hK h hbw
  go_enter Try.func125, Try.ntmps125
  go_wp2
  go_step3
  go_wp2
  go_step3
  go_wp2
  obtain ⟨gB, hgB⟩ : ∃ q, q = w.heap.size := ⟨_, rfl⟩
  have HGB := hide hgB
  obtain ⟨w1, hw1⟩ : ∃ q, q = w.alloc (.cells #[.int .i64 0, .int .i64 0, .int .i64 0] 45) := ⟨_, rfl⟩
  rw [← hw1] at hal hB0 ⊢
  rw [← hgB] at hal hB0 ⊢
  clear hw1 hgB m11
  have H1 := hide (And.intro hal hB0)
  clear hal hB0
  go_loopg [13, 4] (P + 1) (fun g pv fv wr => ∃ (p : Nat) (f : Bool) (bq : Qs), p + g = P + 1 ∧ pv = .int .i64 p ∧ fv = .bool f ∧ Below gB w wr ∧ Blk wr gB 45 #[.int .i64 (bq.p : Int), .int .i64 (bq.fr : Int), .int .i64 (bq.tt : Int)] ∧ Scan C s p 0 f bq)
  case atStart => exact ⟨0, false, ⟨0, 0, 0⟩, by omega, rfl, rfl, H1.out.1, H1.out.2, Scan.start _ _ _⟩
  case round =>
    obtain ⟨p, f, bq, hpg, rfl, rfl, hb, hB, hsc⟩ := hrel
    cases gk with
    | zero =>
      have hltI : ¬ ((p : Int) < (P : Int) + 1) := by omega
      have HT := hide (And.intro hb hB)
      have HSC := hide hsc
      have HPP := hide (show p = P + 1 by omega)
      clear hb hB hsc
      cases f with
      | true =>
        obtain ⟨xp, xf, xt⟩ := bq
        simp only at HT
        have HO := hide (show okQn C.c.p C.n ⟨xp, xf, xt⟩ ∧ (⟨xp, xf, xt⟩ : Qs) ∈ s.told.map Ans.q ∧ ¬ evn C s ⟨xp, xf, xt⟩ from HSC.out)
        obtain ⟨wT, hwT⟩ : ∃ q, q = wr := ⟨_, rfl⟩
        rw [← hwT] at HT ⊢
        clear hwT
        have hT := HM.out.on (HGB.out ▸ HT.out.1)
        have m6 := hT.cells 6
        have m9 := hT.cells 9
        simp only [mRow, List.getElem?_toArray, List.getElem?_cons_zero, List.getElem?_cons_succ, hT.m.bn] at m6 m9
        obtain ⟨fl, hfl⟩ : ∃ q, q = s.fl := ⟨_, rfl⟩
        rw [← hfl] at m9
        have hfn : fl < C.n := by rw [hfl]; exact (hp.halve hC HO.out.1 HO.out.2.2).1
        have hfn' : ¬ ((fl : Int) = (C.n : Int)) := by omega
        have HFL := hide hfl
        clear hfl hT
        go_wp2
        go_quiet (fail)
        go_wp2
        have hT := HM.out.on (HGB.out ▸ below_drewN HT.out.1 nq)
        have hbT := below_drewN HT.out.1 nq
        have hBT := HT.out.2.drewN nq
        obtain ⟨wU, hwU⟩ : ∃ q, q = wT.drewN nq := ⟨_, rfl⟩
        rw [← hwU] at hT hbT hBT ⊢
        clear hwU m6 m9 HT
        have lk : ∀ n, (Instr.lookup 94 (.map (some a.k)) (.agg #[.int .i64 (xp : Int), .int .i64 (xf : Int), .int .i64 (xt : Int)]) false).run Try.prog (wU.drewN n) = .ok (.bool (C.tp ⟨xp, xf, xt⟩)) (wU.drewN n) := by
          rcases hT.look (okQ_of HO.out.1 hC.hp hC.hn) false with ⟨_, h⟩ | ⟨h', _⟩
          · exact h
          · exact absurd HO.out.2.1 h'
        obtain ⟨tq, htq⟩ : ∃ q, q = C.tp ⟨xp, xf, xt⟩ := ⟨_, rfl⟩
        rw [← htq] at lk
        have HTQ := hide htq
        clear htq
        have lk1 : (Instr.lookup 94 (.map (some a.k)) (.agg #[.int .i64 (xp : Int), .int .i64 (xf : Int), .int .i64 (xt : Int)]) false).run Try.prog wU.drew = .ok (.bool tq) wU.drew := lk 1
        have lk0 : (Instr.lookup 94 (.map (some a.k)) (.agg #[.int .i64 (xp : Int), .int .i64 (xf : Int), .int .i64 (xt : Int)]) false).run Try.prog wU = .ok (.bool tq) wU := lk 0
        have m7 := hT.cells 7
        have m13 := hT.cells 13
        have m14 := hT.cells 14
        have m15 := hT.cells 15
        have m16 := hT.cells 16
        have m17 := hT.cells 17
        simp only [mRow, List.getElem?_toArray, List.getElem?_cons_zero, List.getElem?_cons_succ] at m7 m13 m14 m15 m16 m17
        have x0 := hBT.cell 0
        have x1 := hBT.cell 1
        have x2 := hBT.cell 2
        simp only [List.getElem?_toArray, List.getElem?_cons_zero, List.getElem?_cons_succ] at x0 x1 x2
        have f13 := hT.m.m.frozen 13
        have f14 := hT.m.m.frozen 14
        have f15 := hT.m.m.frozen 15
        have f16 := hT.m.m.frozen 16
        have f17 := hT.m.m.frozen 17
        have HU := hide (And.intro hT hbT)
        clear hT hbT hBT
        go_region
        go_wp2
        rw [Exit.noGoto_ret]
        go_ret
        have h6 := fun k => ((((((HU.out.1.on (below_drewN (Below.refl _ _) k)).set 14 (.int .i64 (xp : Int)) (s' := { s with odd := ⟨xp, s.odd.fr, s.odd.tt⟩ }) rfl rfl rfl).set 15 (.int .i64 (xf : Int)) (s' := { s with odd := ⟨xp, xf, s.odd.tt⟩ }) rfl rfl rfl).set 16 (.int .i64 (xt : Int)) (s' := { s with odd := ⟨xp, xf, xt⟩ }) rfl rfl rfl).set 17 (.bool tq) (s' := { s with odd := ⟨xp, xf, xt⟩, ans := tq }) rfl rfl rfl).set 13 (.bool true) (s' := { s with odd := ⟨xp, xf, xt⟩, ans := tq, srch := true }) rfl rfl rfl)
        have y1 := HX.out.1
        have hbU : ∀ k, Below base w (wU.drewN k) := fun k => below_drewN (HU.out.2.mono (by rw [HGB.out]; exact HX.out.2.2)) k
        have hph := hp.halve hC HO.out.1 HO.out.2.2
        rw [← HTQ.out] at hph
        refine ⟨_, h6 1, ((((((hbU 1).setCell (p := ⟨a.g, 14, none⟩) y1 _).setCell (p := ⟨a.g, 15, none⟩) y1 _).setCell (p := ⟨a.g, 16, none⟩) y1 _).setCell (p := ⟨a.g, 17, none⟩) y1 _).setCell (p := ⟨a.g, 13, none⟩) y1 _), rfl, .inr ⟨rfl, hph.2, ho, ?_⟩⟩
        have := HO.out.1.2
        simp only at this
        unfold mu
        simp only
        omega
      | false =>
        have hT := HM.out.on (HGB.out ▸ HT.out.1)
        have m11 := hT.cells 11
        have m12 := hT.cells 12
        simp only [mRow, List.getElem?_toArray, List.getElem?_cons_zero, List.getElem?_cons_succ] at m11 m12
        rw [← HE.out.1] at m11
        have f11 := hT.m.m.frozen 11
        have f12 := hT.m.m.frozen 12
        have HU := hide hT
        clear hT
        go_wp2
        go_ret
        have h6 := (HU.out.set 11 (.int .i64 ((P + 1 : Nat) : Int)) (s' := { s with ps := P + 1 }) rfl rfl rfl).set 12 (.int .i64 0) (s' := { s with ps := P + 1, bk := 0 }) rfl rfl rfl
        have y1 := HX.out.1
        have hbU : Below base w wr := HT.out.1.mono (by rw [HGB.out]; exact HX.out.2.2)
        have hup := hp.up (fun p' q h1 h2 => HSC.out.1 p' q (by rw [HPP.out, HE.out.1]; exact h1) h2)
        rw [← HE.out.1] at hup
        refine ⟨_, h6, ((hbU.setCell (p := ⟨a.g, 11, none⟩) y1 _).setCell (p := ⟨a.g, 12, none⟩) y1 _), rfl, .inl ⟨rfl, hup, ho, ?_⟩⟩
        have := hp.2.2.1
        have h8 := HE.out.1
        unfold mu
        simp only
        omega
    | succ g =>
      have hltI : (p : Int) < (P : Int) + 1 := by omega
      have hpK : p < C.c.p := by rw [← HE.out.2]; omega
      obtain ⟨bo, bA, bm, bd, eB, hbo, x0, oB⟩ := HM.out.blk hpK
      have m5 := HM.out.cells 5
      simp only [mRow, List.getElem?_toArray, List.getElem?_cons_zero, List.getElem?_cons_succ, eB, HM.out.qn] at m5
      rw [← HE.out.2] at m5
      have m5 := (hb.cell (p := ⟨a.g, 5, none⟩) (by rw [HGB.out]; exact HX.out.2.1)).trans m5
      have x0 := (hb.cell (p := ⟨bo, p, none⟩) (by rw [HGB.out]; exact hbo)).trans x0
      have hpI : (p : Int) < (K : Int) := by omega
      have HL := hide oB.len
      have hbl : bm ≤ C.n := by rw [← oB.len]; exact hC.lB _ hpK
      have HR := hide (And.intro oB.rd hpK)
      have HW := hide (And.intro hb (And.intro hB hsc))
      clear hb hB hsc oB
      go_wp2
      clear m5 x0
      go_loopg [24, 4] bm (fun g2 jv fv wy => ∃ (j : Nat) (f : Bool) (bq : Qs), j + g2 = bm ∧ jv = .int .i64 j ∧ fv = .bool f ∧ Below gB w wy ∧ Blk wy gB 45 #[.int .i64 (bq.p : Int), .int .i64 (bq.fr : Int), .int .i64 (bq.tt : Int)] ∧ Scan C s p j f bq)
      case atStart => exact ⟨0, f, bq, by omega, rfl, rfl, HW.out.1, HW.out.2.1, HW.out.2.2⟩
      case round =>
        clear HW
        obtain ⟨j, f, bq, hjg, rfl, rfl, hb, hB, hsc⟩ := hrel
        cases gk with
        | zero =>
          have hjI : ¬ ((j : Int) < (bm : Int)) := by omega
          have HW := hide (And.intro hb (And.intro hB hsc))
          have HJ := hide (show (C.BL p).length ≤ j by rw [HL.out]; omega)
          clear hb hB hsc
          go_wp2
          go_roundg g
          case measure => omega
          case rel => exact ⟨p + 1, f, bq, by omega, by go_num, rfl, HW.out.1, HW.out.2.1, HW.out.2.2.up HJ.out⟩
        | succ g2 =>
          have hjI : (j : Int) < (bm : Int) := by omega
          have hjm : j < bm := by omega
          obtain ⟨bg, bof, q, ebA, _, hq, hcq⟩ := (HR.out.1.on (HGB.out ▸ hb)).get hjm
          have q0 := hcq 0 _ rfl
          have q1 := hcq 1 _ rfl
          have q2 := hcq 2 _ rfl
          simp only [eQs, Nat.add_zero] at q0 q1 q2
          subst ebA
          have hmem := List.mem_of_getElem? hq
          have hokq := (hC.BL p q hpK hmem).1
          have HK := hide (And.intro hokq (And.intro (hp.known (by rw [← HE.out.1]; omega) hmem) hq))
          have hokq' := okQ_of hokq hC.hp hC.hn
          have HW := hide (And.intro hb (And.intro hB hsc))
          obtain ⟨qp, qf, qt⟩ := q
          obtain ⟨bp, bf, bt⟩ := bq
          simp only at q0 q1 q2
          clear hb hB hsc hcq hq hmem hokq
          go_upto_region 9 with fail
          have hal := below_alloc wr (.cells #[.int .i64 (qp : Int), .int .i64 (qf : Int), .int .i64 (qt : Int)] 45)
          have hQ := Blk.newAt wr 45 #[.int .i64 (qp : Int), .int .i64 (qf : Int), .int .i64 (qt : Int)] wr.heap.size rfl
          have hb2 : Below w.heap.size w _ := below_on (HGB.out ▸ HW.out.1) hal
          have hB2 := HW.out.2.1.keep hal
          have hgQ : gB < wr.heap.size := HW.out.2.1.lt
          obtain ⟨w2, hw2⟩ : ∃ x, x = wr.alloc (.cells #[.int .i64 (qp : Int), .int .i64 (qf : Int), .int .i64 (qt : Int)] 45) := ⟨_, rfl⟩
          rw [← hw2] at hal hQ hb2 hB2 ⊢
          obtain ⟨gQ, hgQ'⟩ : ∃ x, x = wr.heap.size := ⟨_, rfl⟩
          rw [← hgQ'] at hQ hgQ ⊢
          clear hw2 hgQ' hal q0 q1 q2
          have h2 := HM.out.on hb2
          obtain ⟨tpv, htp⟩ : ∃ x, x = C.tp ⟨qp, qf, qt⟩ := ⟨_, rfl⟩
          have HTP := hide htp
          have hIsO := hide (show ∀ W, Below w2.heap.size w2 W → Calls Try.prog 126 #[.pointer (some ⟨a.g, 0, none⟩), .agg #[.int .i64 (qp : Int), .int .i64 (qf : Int), .int .i64 (qt : Int)], .bool tpv] W fun e w' => e = .returned (.bool (parL s.b (plQ C.O ⟨qp, qf, qt⟩) != tpv)) ∧ Below w2.heap.size w2 w' from fun W hW => ((h2.on hW).isOdd hC ⟨qp, qf, qt⟩ tpv HK.out.1).mono fun e w' ⟨h1, h2⟩ => ⟨h1, below_on hW h2⟩)
          have HKP := hide (show ∀ W, Below w2.heap.size w2 W → Blk W gQ 45 #[.int .i64 (qp : Int), .int .i64 (qf : Int), .int .i64 (qt : Int)] ∧ Blk W gB 45 #[.int .i64 (bp : Int), .int .i64 (bf : Int), .int .i64 (bt : Int)] ∧ W.cell? ⟨a.g, 7, none⟩ = some (.map (some a.k)) ∧ (Instr.lookup 94 (.map (some a.k)) (.agg #[.int .i64 (qp : Int), .int .i64 (qf : Int), .int .i64 (qt : Int)]) false).run Try.prog W = .ok (.bool tpv) W from fun W hW => ⟨hQ.keep hW, hB2.keep hW, by
              have := (h2.on hW).cells 7
              simpa only [mRow, List.getElem?_toArray, List.getElem?_cons_zero, List.getElem?_cons_succ] using this, by
              rcases (h2.on hW).look hokq' false with ⟨_, h⟩ | ⟨h', _⟩
              · rw [htp]; exact h 0
              · exact absurd HK.out.2.1 h'⟩)
          have H2 := hide (And.intro h2 (And.intro hb2 (And.intro hB2 hQ)))
          have HD2 := hide (show Below w2.heap.size w2 w2.drew from below_drewN (Below.refl _ _) 1)
          clear h2 hb2 hB2 hQ htp
          by_cases he : evn C s ⟨qp, qf, qt⟩
          · have hv : (parL s.b (plQ C.O ⟨qp, qf, qt⟩) != tpv) = false := by rw [HTP.out, he]; simp
            rw [hv] at hIsO
            have HV := hide he
            clear he hv
            refine wp_region_noPanic ?_
            refine wp_region_held_drew (S := fun W => Below w2.heap.size w2 W) (by kernel_rfl) HD2.out (fun hHeld => ?_)
            refine wpAnyH_take (i := 0) (v := .pointer (some ⟨a.g, 0, none⟩)) rfl (by kernel_rfl) (by kernel_rfl) (by kernel_rfl) (fun _ _ _ h => h) (yieldsIf_move (by rfl) _ (Or.inl rfl) _ rfl) hHeld ?_
            try simp only [Act.put, List.getElem_toArray, List.getElem_cons_zero, List.setIfInBounds_toArray, List.set_cons_zero, List.set_cons_succ]
            refine wpAnyH_take (i := 1) (v := .agg #[.int .i64 (qp : Int), .int .i64 (qf : Int), .int .i64 (qt : Int)]) rfl (by kernel_rfl) (by kernel_rfl) (by kernel_rfl) (fun _ _ _ h => h) (yieldsIf_load_blk (by rfl) 45 _ rfl gQ rfl 45 #[.int .i64 (qp : Int), .int .i64 (qf : Int), .int .i64 (qt : Int)] _ (fun W hW => HKP.out W hW |>.1) Try.underlying45 rfl (by kernel_rfl)) hHeld ?_
            try simp only [Act.put, List.getElem_toArray, List.getElem_cons_succ, List.getElem_cons_zero, List.setIfInBounds_toArray, List.set_cons_zero, List.set_cons_succ]
            refine wpAnyH_take (i := 2) (v := .pointer (some ⟨a.g, 0, none⟩)) rfl (by kernel_rfl) (by kernel_rfl) (by kernel_rfl) (fun _ _ _ h => h) (yieldsIf_move (by rfl) _ (Or.inl rfl) _ rfl) hHeld ?_
            try simp only [Act.put, List.getElem_toArray, List.getElem_cons_succ, List.getElem_cons_zero, List.setIfInBounds_toArray, List.set_cons_zero, List.set_cons_succ]
            refine wpAnyH_take (i := 3) (v := .pointer (some ⟨a.g, 0, none⟩)) rfl (by kernel_rfl) (by kernel_rfl) (by kernel_rfl) (fun _ _ _ h => h) (yieldsIf_op (by rfl) _ (fun _ => by kernel_rfl)) hHeld ?_
            try simp only [Act.put, List.getElem_toArray, List.getElem_cons_succ, List.getElem_cons_zero, List.setIfInBounds_toArray, List.set_cons_zero, List.set_cons_succ]
            refine wpAnyH_take (i := 4) (v := .pointer (some ⟨a.g, 7, none⟩)) rfl (by kernel_rfl) (by kernel_rfl) (by kernel_rfl) (fun _ _ _ h => h) (yieldsIf_op (by rfl) _ (fun _ => by kernel_rfl)) hHeld ?_
            try simp only [Act.put, List.getElem_toArray, List.getElem_cons_succ, List.getElem_cons_zero, List.setIfInBounds_toArray, List.set_cons_zero, List.set_cons_succ]
            refine wpAnyH_take (i := 5) (v := .map (some a.k)) rfl (by kernel_rfl) (by kernel_rfl) (by kernel_rfl) (fun _ _ _ h => h) (yieldsIf_load1 (by rfl) _ _ rfl ⟨a.g, 7, none⟩ rfl _ (fun _ => by kernel_rfl) (fun W hW => (HKP.out W hW).2.2.1)) hHeld ?_
            try simp only [Act.put, List.getElem_toArray, List.getElem_cons_succ, List.getElem_cons_zero, List.setIfInBounds_toArray, List.set_cons_zero, List.set_cons_succ]
            refine wpAnyH_take (i := 6) (v := .agg #[.int .i64 (qp : Int), .int .i64 (qf : Int), .int .i64 (qt : Int)]) rfl (by kernel_rfl) (by kernel_rfl) (by kernel_rfl) (fun _ _ _ h => h) (yieldsIf_load_blk (by rfl) 45 _ rfl gQ rfl 45 #[.int .i64 (qp : Int), .int .i64 (qf : Int), .int .i64 (qt : Int)] _ (fun W hW => HKP.out W hW |>.1) Try.underlying45 rfl (by kernel_rfl)) hHeld ?_
            try simp only [Act.put, List.getElem_toArray, List.getElem_cons_succ, List.getElem_cons_zero, List.setIfInBounds_toArray, List.set_cons_zero, List.set_cons_succ]
            refine wpAnyH_take (i := 7) (v := .bool tpv) rfl (by kernel_rfl) (by kernel_rfl) (by kernel_rfl) (fun _ _ _ h => h) (yieldsIf_lookup (by rfl) _ _ _ _ rfl _ _ rfl rfl _ (fun W hW => (HKP.out W hW).2.2.2)) hHeld ?_
            try simp only [Act.put, List.getElem_toArray, List.getElem_cons_succ, List.getElem_cons_zero, List.setIfInBounds_toArray, List.set_cons_zero, List.set_cons_succ]
            refine wpAnyH_ready (rs := [8]) (by kernel_rfl) (by simp) ?_
            refine AllReadyH.cons (i := 8) rfl (fun K hK => ?_) AllReadyH.nil
            go_simp
            refine (hIsO.out _ hHeld).mono ?_
            rintro e w7 ⟨rfl, hb7⟩
            refine hK.out _ _ hb7 (fun hHeld => ?_)
            clear hK K
            try simp only [Act.put, List.getElem_toArray, List.getElem_cons_succ, List.getElem_cons_zero, List.setIfInBounds_toArray, List.set_cons_zero, List.set_cons_succ]
            refine wpAnyH_take (i := 9) (v := .bool true) rfl (by kernel_rfl) (by kernel_rfl) (by kernel_rfl) (fun _ _ _ h => h) (yieldsIf_op (by rfl) _ (fun _ => by kernel_rfl)) hHeld ?_
            try simp only [Act.put, List.getElem_toArray, List.getElem_cons_succ, List.getElem_cons_zero, List.setIfInBounds_toArray, List.set_cons_zero, List.set_cons_succ]
            refine wpAnyH_take (i := 10) (v := .bool true) rfl (by kernel_rfl) (by kernel_rfl) (by kernel_rfl) (fun _ _ _ h => h) (yieldsIf_move (by rfl) _ (Or.inl rfl) _ rfl) hHeld ?_
            try simp only [Act.put, List.getElem_toArray, List.getElem_cons_succ, List.getElem_cons_zero, List.setIfInBounds_toArray, List.set_cons_zero, List.set_cons_succ]
            refine wpAnyH_take (i := 11) (v := undef) rfl (by kernel_rfl) (by kernel_rfl) (by kernel_rfl) (fun _ _ _ h => h) (Or.inr ⟨by rfl, rfl⟩) hHeld ?_
            try simp only [Act.put, List.getElem_toArray, List.getElem_cons_succ, List.getElem_cons_zero, List.setIfInBounds_toArray, List.set_cons_zero, List.set_cons_succ]
            refine wpAnyH_take (i := 12) (v := undef) rfl (by kernel_rfl) (by kernel_rfl) (by kernel_rfl) (fun _ _ _ h => h) (Or.inr ⟨by rfl, rfl⟩) hHeld ?_
            try simp only [Act.put, List.getElem_toArray, List.getElem_cons_succ, List.getElem_cons_zero, List.setIfInBounds_toArray, List.set_cons_zero, List.set_cons_succ]
            refine wpAnyH_take (i := 13) (v := undef) rfl (by kernel_rfl) (by kernel_rfl) (by kernel_rfl) (fun _ _ _ h => h) (Or.inr ⟨by rfl, rfl⟩) hHeld ?_
            try simp only [Act.put, List.getElem_toArray, List.getElem_cons_succ, List.getElem_cons_zero, List.setIfInBounds_toArray, List.set_cons_zero, List.set_cons_succ]
            refine wpAnyH_take (i := 14) (v := undef) rfl (by kernel_rfl) (by kernel_rfl) (by kernel_rfl) (fun _ _ _ h => h) (Or.inr ⟨by rfl, rfl⟩) hHeld ?_
            try simp only [Act.put, List.getElem_toArray, List.getElem_cons_succ, List.getElem_cons_zero, List.setIfInBounds_toArray, List.set_cons_zero, List.set_cons_succ]
            refine wpAnyH_take (i := 15) (v := undef) rfl (by kernel_rfl) (by kernel_rfl) (by kernel_rfl) (fun _ _ _ h => h) (Or.inr ⟨by rfl, rfl⟩) hHeld ?_
            try simp only [Act.put, List.getElem_toArray, List.getElem_cons_succ, List.getElem_cons_zero, List.setIfInBounds_toArray, List.set_cons_zero, List.set_cons_succ]
            refine wpAnyH_take (i := 16) (v := undef) rfl (by kernel_rfl) (by kernel_rfl) (by kernel_rfl) (fun _ _ _ h => h) (Or.inr ⟨by rfl, rfl⟩) hHeld ?_
            try simp only [Act.put, List.getElem_toArray, List.getElem_cons_succ, List.getElem_cons_zero, List.setIfInBounds_toArray, List.set_cons_zero, List.set_cons_succ]
            refine wpAnyH_take (i := 17) (v := undef) rfl (by kernel_rfl) (by kernel_rfl) (by kernel_rfl) (fun _ _ _ h => h) (Or.inr ⟨by rfl, rfl⟩) hHeld ?_
            try simp only [Act.put, List.getElem_toArray, List.getElem_cons_succ, List.getElem_cons_zero, List.setIfInBounds_toArray, List.set_cons_zero, List.set_cons_succ]
            refine wpAnyH_take (i := 18) (v := undef) rfl (by kernel_rfl) (by kernel_rfl) (by kernel_rfl) (fun _ _ _ h => h) (Or.inr ⟨by rfl, rfl⟩) hHeld ?_
            try simp only [Act.put, List.getElem_toArray, List.getElem_cons_succ, List.getElem_cons_zero, List.setIfInBounds_toArray, List.set_cons_zero, List.set_cons_succ]
            refine wpAnyH_take (i := 19) (v := undef) rfl (by kernel_rfl) (by kernel_rfl) (by kernel_rfl) (fun _ _ _ h => h) (Or.inr ⟨by rfl, rfl⟩) hHeld ?_
            try simp only [Act.put, List.getElem_toArray, List.getElem_cons_succ, List.getElem_cons_zero, List.setIfInBounds_toArray, List.set_cons_zero, List.set_cons_succ]
            refine wpAnyH_take (i := 20) (v := undef) rfl (by kernel_rfl) (by kernel_rfl) (by kernel_rfl) (fun _ _ _ h => h) (Or.inr ⟨by rfl, rfl⟩) hHeld ?_
            try simp only [Act.put, List.getElem_toArray, List.getElem_cons_succ, List.getElem_cons_zero, List.setIfInBounds_toArray, List.set_cons_zero, List.set_cons_succ]
            refine wpAnyH_take (i := 21) (v := undef) rfl (by kernel_rfl) (by kernel_rfl) (by kernel_rfl) (fun _ _ _ h => h) (Or.inr ⟨by rfl, rfl⟩) hHeld ?_
            try simp only [Act.put, List.getElem_toArray, List.getElem_cons_succ, List.getElem_cons_zero, List.setIfInBounds_toArray, List.set_cons_zero, List.set_cons_succ]
            refine wpAnyH_take (i := 22) (v := undef) rfl (by kernel_rfl) (by kernel_rfl) (by kernel_rfl) (fun _ _ _ h => h) (Or.inr ⟨by rfl, rfl⟩) hHeld ?_
            try simp only [Act.put, List.getElem_toArray, List.getElem_cons_succ, List.getElem_cons_zero, List.setIfInBounds_toArray, List.set_cons_zero, List.set_cons_succ]
            refine wpAnyH_take (i := 23) (v := undef) rfl (by kernel_rfl) (by kernel_rfl) (by kernel_rfl) (fun _ _ _ h => h) (Or.inr ⟨by rfl, rfl⟩) hHeld ?_
            try simp only [Act.put, List.getElem_toArray, List.getElem_cons_succ, List.getElem_cons_zero, List.setIfInBounds_toArray, List.set_cons_zero, List.set_cons_succ]
            refine wpAnyH_take (i := 24) (v := undef) rfl (by kernel_rfl) (by kernel_rfl) (by kernel_rfl) (fun _ _ _ h => h) (Or.inr ⟨by rfl, rfl⟩) hHeld ?_
            try simp only [Act.put, List.getElem_toArray, List.getElem_cons_succ, List.getElem_cons_zero, List.setIfInBounds_toArray, List.set_cons_zero, List.set_cons_succ]
            refine wpAnyH_take (i := 25) (v := .bool true) rfl (by kernel_rfl) (by kernel_rfl) (by kernel_rfl) (fun _ _ _ h => h) (yieldsIf_pick_true (by rfl) _ _ _ rfl rfl _ rfl) hHeld ?_
            try simp only [Act.put, List.getElem_toArray, List.getElem_cons_succ, List.getElem_cons_zero, List.setIfInBounds_toArray, List.set_cons_zero, List.set_cons_succ]
            refine wpAnyH_done (by kernel_rfl) ?_ _
            refine NoPanic.normal ?_
            have H7 := hide (And.intro (show Below gB w w7 from HGB.out ▸ below_on H2.out.2.1 hHeld) (And.intro (HKP.out w7 hHeld).2.1 (H2.out.1.on hHeld)))
            clear hHeld
            go_wp2
            go_roundg g2
            case measure => omega
            case rel => exact ⟨j + 1, f, ⟨bp, bf, bt⟩, by omega, by go_num, rfl, H7.out.1, H7.out.2.1, HW.out.2.2.even HK.out.2.2 HV.out⟩
          · have hv : (parL s.b (plQ C.O ⟨qp, qf, qt⟩) != tpv) = true := by rw [HTP.out]; simpa [evn] using he
            rw [hv] at hIsO
            have HO := hide (And.intro HK.out.1 (And.intro HK.out.2.1 he))
            clear he hv
            have HSC := hide HW.out.2.2
            clear HW
            obtain ⟨sz, hsz⟩ : ∃ x, x = qt - qf := ⟨_, rfl⟩
            have hsI : (qt : Int) - (qf : Int) = (sz : Int) := by have := HO.out.1.2; simp only at this; omega
            have hsn : sz ≤ C.n := by have := HO.out.1.2; simp only at this; omega
            have HSZ := hide (show IntKind.i64.wrap ((qt : Int) - (qf : Int)) = (sz : Int) by rw [hsI]; simp only [IntKind.wrap, IntKind.bits, IntKind.signed]; simp; omega)
            clear hsz
            cases f with
            | false =>
              refine wp_region_noPanic ?_
              refine wp_region_held_drew (S := fun W => Below w2.heap.size w2 W) (by kernel_rfl) HD2.out (fun hHeld => ?_)
              refine wpAnyH_take (i := 0) (v := .pointer (some ⟨a.g, 0, none⟩)) rfl (by kernel_rfl) (by kernel_rfl) (by kernel_rfl) (fun _ _ _ h => h) (yieldsIf_move (by rfl) _ (Or.inl rfl) _ rfl) hHeld ?_
              try simp only [Act.put, List.getElem_toArray, List.getElem_cons_zero, List.setIfInBounds_toArray, List.set_cons_zero, List.set_cons_succ]
              refine wpAnyH_take (i := 1) (v := .agg #[.int .i64 (qp : Int), .int .i64 (qf : Int), .int .i64 (qt : Int)]) rfl (by kernel_rfl) (by kernel_rfl) (by kernel_rfl) (fun _ _ _ h => h) (yieldsIf_load_blk (by rfl) 45 _ rfl gQ rfl 45 #[.int .i64 (qp : Int), .int .i64 (qf : Int), .int .i64 (qt : Int)] _ (fun W hW => HKP.out W hW |>.1) Try.underlying45 rfl (by kernel_rfl)) hHeld ?_
              try simp only [Act.put, List.getElem_toArray, List.getElem_cons_succ, List.getElem_cons_zero, List.setIfInBounds_toArray, List.set_cons_zero, List.set_cons_succ]
              refine wpAnyH_take (i := 2) (v := .pointer (some ⟨a.g, 0, none⟩)) rfl (by kernel_rfl) (by kernel_rfl) (by kernel_rfl) (fun _ _ _ h => h) (yieldsIf_move (by rfl) _ (Or.inl rfl) _ rfl) hHeld ?_
              try simp only [Act.put, List.getElem_toArray, List.getElem_cons_succ, List.getElem_cons_zero, List.setIfInBounds_toArray, List.set_cons_zero, List.set_cons_succ]
              refine wpAnyH_take (i := 3) (v := .pointer (some ⟨a.g, 0, none⟩)) rfl (by kernel_rfl) (by kernel_rfl) (by kernel_rfl) (fun _ _ _ h => h) (yieldsIf_op (by rfl) _ (fun _ => by kernel_rfl)) hHeld ?_
              try simp only [Act.put, List.getElem_toArray, List.getElem_cons_succ, List.getElem_cons_zero, List.setIfInBounds_toArray, List.set_cons_zero, List.set_cons_succ]
              refine wpAnyH_take (i := 4) (v := .pointer (some ⟨a.g, 7, none⟩)) rfl (by kernel_rfl) (by kernel_rfl) (by kernel_rfl) (fun _ _ _ h => h) (yieldsIf_op (by rfl) _ (fun _ => by kernel_rfl)) hHeld ?_
              try simp only [Act.put, List.getElem_toArray, List.getElem_cons_succ, List.getElem_cons_zero, List.setIfInBounds_toArray, List.set_cons_zero, List.set_cons_succ]
              refine wpAnyH_take (i := 5) (v := .map (some a.k)) rfl (by kernel_rfl) (by kernel_rfl) (by kernel_rfl) (fun _ _ _ h => h) (yieldsIf_load1 (by rfl) _ _ rfl ⟨a.g, 7, none⟩ rfl _ (fun _ => by kernel_rfl) (fun W hW => (HKP.out W hW).2.2.1)) hHeld ?_
              try simp only [Act.put, List.getElem_toArray, List.getElem_cons_succ, List.getElem_cons_zero, List.setIfInBounds_toArray, List.set_cons_zero, List.set_cons_succ]
              refine wpAnyH_take (i := 6) (v := .agg #[.int .i64 (qp : Int), .int .i64 (qf : Int), .int .i64 (qt : Int)]) rfl (by kernel_rfl) (by kernel_rfl) (by kernel_rfl) (fun _ _ _ h => h) (yieldsIf_load_blk (by rfl) 45 _ rfl gQ rfl 45 #[.int .i64 (qp : Int), .int .i64 (qf : Int), .int .i64 (qt : Int)] _ (fun W hW => HKP.out W hW |>.1) Try.underlying45 rfl (by kernel_rfl)) hHeld ?_
              try simp only [Act.put, List.getElem_toArray, List.getElem_cons_succ, List.getElem_cons_zero, List.setIfInBounds_toArray, List.set_cons_zero, List.set_cons_succ]
              refine wpAnyH_take (i := 7) (v := .bool tpv) rfl (by kernel_rfl) (by kernel_rfl) (by kernel_rfl) (fun _ _ _ h => h) (yieldsIf_lookup (by rfl) _ _ _ _ rfl _ _ rfl rfl _ (fun W hW => (HKP.out W hW).2.2.2)) hHeld ?_
              try simp only [Act.put, List.getElem_toArray, List.getElem_cons_succ, List.getElem_cons_zero, List.setIfInBounds_toArray, List.set_cons_zero, List.set_cons_succ]
              refine wpAnyH_ready (rs := [8]) (by kernel_rfl) (by simp) ?_
              refine AllReadyH.cons (i := 8) rfl (fun K hK => ?_) AllReadyH.nil
              go_simp
              refine (hIsO.out _ hHeld).mono ?_
              rintro e w7 ⟨rfl, hb7⟩
              refine hK.out _ _ hb7 (fun hHeld => ?_)
              clear hK K
              try simp only [Act.put, List.getElem_toArray, List.getElem_cons_succ, List.getElem_cons_zero, List.setIfInBounds_toArray, List.set_cons_zero, List.set_cons_succ]
              refine wpAnyH_take (i := 9) (v := .bool false) rfl (by kernel_rfl) (by kernel_rfl) (by kernel_rfl) (fun _ _ _ h => h) (yieldsIf_op (by rfl) _ (fun _ => by kernel_rfl)) hHeld ?_
              try simp only [Act.put, List.getElem_toArray, List.getElem_cons_succ, List.getElem_cons_zero, List.setIfInBounds_toArray, List.set_cons_zero, List.set_cons_succ]
              refine wpAnyH_take (i := 10) (v := .bool false) rfl (by kernel_rfl) (by kernel_rfl) (by kernel_rfl) (fun _ _ _ h => h) (yieldsIf_move (by rfl) _ (Or.inl rfl) _ rfl) hHeld ?_
              try simp only [Act.put, List.getElem_toArray, List.getElem_cons_succ, List.getElem_cons_zero, List.setIfInBounds_toArray, List.set_cons_zero, List.set_cons_succ]
              refine wpAnyH_take (i := 11) (v := .bool false) rfl (by kernel_rfl) (by kernel_rfl) (by kernel_rfl) (fun _ _ _ h => h) (yieldsIf_move (by rfl) _ (Or.inl rfl) _ rfl) hHeld ?_
              try simp only [Act.put, List.getElem_toArray, List.getElem_cons_succ, List.getElem_cons_zero, List.setIfInBounds_toArray, List.set_cons_zero, List.set_cons_succ]
              refine wpAnyH_take (i := 12) (v := .bool false) rfl (by kernel_rfl) (by kernel_rfl) (by kernel_rfl) (fun _ _ _ h => h) (yieldsIf_move (by rfl) _ (Or.inl rfl) _ rfl) hHeld ?_
              try simp only [Act.put, List.getElem_toArray, List.getElem_cons_succ, List.getElem_cons_zero, List.setIfInBounds_toArray, List.set_cons_zero, List.set_cons_succ]
              refine wpAnyH_take (i := 13) (v := undef) rfl (by kernel_rfl) (by kernel_rfl) (by kernel_rfl) (fun _ _ _ h => h) (Or.inr ⟨by rfl, rfl⟩) hHeld ?_
              try simp only [Act.put, List.getElem_toArray, List.getElem_cons_succ, List.getElem_cons_zero, List.setIfInBounds_toArray, List.set_cons_zero, List.set_cons_succ]
              refine wpAnyH_take (i := 14) (v := undef) rfl (by kernel_rfl) (by kernel_rfl) (by kernel_rfl) (fun _ _ _ h => h) (Or.inr ⟨by rfl, rfl⟩) hHeld ?_
              try simp only [Act.put, List.getElem_toArray, List.getElem_cons_succ, List.getElem_cons_zero, List.setIfInBounds_toArray, List.set_cons_zero, List.set_cons_succ]
              refine wpAnyH_take (i := 15) (v := undef) rfl (by kernel_rfl) (by kernel_rfl) (by kernel_rfl) (fun _ _ _ h => h) (Or.inr ⟨by rfl, rfl⟩) hHeld ?_
              try simp only [Act.put, List.getElem_toArray, List.getElem_cons_succ, List.getElem_cons_zero, List.setIfInBounds_toArray, List.set_cons_zero, List.set_cons_succ]
              refine wpAnyH_take (i := 16) (v := undef) rfl (by kernel_rfl) (by kernel_rfl) (by kernel_rfl) (fun _ _ _ h => h) (Or.inr ⟨by rfl, rfl⟩) hHeld ?_
              try simp only [Act.put, List.getElem_toArray, List.getElem_cons_succ, List.getElem_cons_zero, List.setIfInBounds_toArray, List.set_cons_zero, List.set_cons_succ]
              refine wpAnyH_take (i := 17) (v := undef) rfl (by kernel_rfl) (by kernel_rfl) (by kernel_rfl) (fun _ _ _ h => h) (Or.inr ⟨by rfl, rfl⟩) hHeld ?_
              try simp only [Act.put, List.getElem_toArray, List.getElem_cons_succ, List.getElem_cons_zero, List.setIfInBounds_toArray, List.set_cons_zero, List.set_cons_succ]
              refine wpAnyH_take (i := 18) (v := undef) rfl (by kernel_rfl) (by kernel_rfl) (by kernel_rfl) (fun _ _ _ h => h) (Or.inr ⟨by rfl, rfl⟩) hHeld ?_
              try simp only [Act.put, List.getElem_toArray, List.getElem_cons_succ, List.getElem_cons_zero, List.setIfInBounds_toArray, List.set_cons_zero, List.set_cons_succ]
              refine wpAnyH_take (i := 19) (v := undef) rfl (by kernel_rfl) (by kernel_rfl) (by kernel_rfl) (fun _ _ _ h => h) (Or.inr ⟨by rfl, rfl⟩) hHeld ?_
              try simp only [Act.put, List.getElem_toArray, List.getElem_cons_succ, List.getElem_cons_zero, List.setIfInBounds_toArray, List.set_cons_zero, List.set_cons_succ]
              refine wpAnyH_take (i := 20) (v := undef) rfl (by kernel_rfl) (by kernel_rfl) (by kernel_rfl) (fun _ _ _ h => h) (Or.inr ⟨by rfl, rfl⟩) hHeld ?_
              try simp only [Act.put, List.getElem_toArray, List.getElem_cons_succ, List.getElem_cons_zero, List.setIfInBounds_toArray, List.set_cons_zero, List.set_cons_succ]
              refine wpAnyH_take (i := 21) (v := undef) rfl (by kernel_rfl) (by kernel_rfl) (by kernel_rfl) (fun _ _ _ h => h) (Or.inr ⟨by rfl, rfl⟩) hHeld ?_
              try simp only [Act.put, List.getElem_toArray, List.getElem_cons_succ, List.getElem_cons_zero, List.setIfInBounds_toArray, List.set_cons_zero, List.set_cons_succ]
              refine wpAnyH_take (i := 22) (v := undef) rfl (by kernel_rfl) (by kernel_rfl) (by kernel_rfl) (fun _ _ _ h => h) (Or.inr ⟨by rfl, rfl⟩) hHeld ?_
              try simp only [Act.put, List.getElem_toArray, List.getElem_cons_succ, List.getElem_cons_zero, List.setIfInBounds_toArray, List.set_cons_zero, List.set_cons_succ]
              refine wpAnyH_take (i := 23) (v := undef) rfl (by kernel_rfl) (by kernel_rfl) (by kernel_rfl) (fun _ _ _ h => h) (Or.inr ⟨by rfl, rfl⟩) hHeld ?_
              try simp only [Act.put, List.getElem_toArray, List.getElem_cons_succ, List.getElem_cons_zero, List.setIfInBounds_toArray, List.set_cons_zero, List.set_cons_succ]
              refine wpAnyH_take (i := 24) (v := .bool false) rfl (by kernel_rfl) (by kernel_rfl) (by kernel_rfl) (fun _ _ _ h => h) (yieldsIf_pick_false (by rfl) _ _ _ rfl rfl _ rfl) hHeld ?_
              try simp only [Act.put, List.getElem_toArray, List.getElem_cons_succ, List.getElem_cons_zero, List.setIfInBounds_toArray, List.set_cons_zero, List.set_cons_succ]
              refine wpAnyH_take (i := 25) (v := .bool false) rfl (by kernel_rfl) (by kernel_rfl) (by kernel_rfl) (fun _ _ _ h => h) (yieldsIf_pick_false (by rfl) _ _ _ rfl rfl _ rfl) hHeld ?_
              try simp only [Act.put, List.getElem_toArray, List.getElem_cons_succ, List.getElem_cons_zero, List.setIfInBounds_toArray, List.set_cons_zero, List.set_cons_succ]
              refine wpAnyH_done (by kernel_rfl) ?_ _
              refine NoPanic.normal ?_
              have h7 := H2.out.1.on hHeld
              have hb7 : Below gB w w7 := HGB.out ▸ below_on H2.out.2.1 hHeld
              have hB7 := (HKP.out w7 hHeld).2.1
              have hQ7 := (HKP.out w7 hHeld).1
              have q0 := hQ7.cell 0
              have q1 := hQ7.cell 1
              have q2 := hQ7.cell 2
              have b0 := hB7.cell 0
              have b1 := hB7.cell 1
              have b2 := hB7.cell 2
              simp only [List.getElem?_toArray, List.getElem?_cons_zero, List.getElem?_cons_succ] at q0 q1 q2 b0 b1 b2
              have fb0 := hB7.frozen 0
              have fb1 := hB7.frozen 1
              have fb2 := hB7.frozen 2
              have H7 := hide (And.intro hb7 (And.intro hB7 hQ7))
              clear h7 hb7 hB7 hQ7 hHeld
              go_upto_region 11 with fail
              have hbT : Below gB w (((w7.setCell ⟨gB, 0, none⟩ (.int .i64 (qp : Int))).setCell ⟨gB, 1, none⟩ (.int .i64 (qf : Int))).setCell ⟨gB, 2, none⟩ (.int .i64 (qt : Int))) := ((H7.out.1.setCell (p := ⟨gB, 0, none⟩) (Nat.le_refl _) _).setCell (p := ⟨gB, 1, none⟩) (Nat.le_refl _) _).setCell (p := ⟨gB, 2, none⟩) (Nat.le_refl _) _
              have hBT := ((H7.out.2.1.set_ 0 (.int .i64 (qp : Int))).set_ 1 (.int .i64 (qf : Int))).set_ 2 (.int .i64 (qt : Int))
              have hQT := ((H7.out.2.2.far (p := ⟨gB, 0, none⟩) (show gQ ≠ gB by omega) (.int .i64 (qp : Int))).far (p := ⟨gB, 1, none⟩) (show gQ ≠ gB by omega) (.int .i64 (qf : Int))).far (p := ⟨gB, 2, none⟩) (show gQ ≠ gB by omega) (.int .i64 (qt : Int))
              obtain ⟨wT, hwT⟩ : ∃ q, q = ((w7.setCell ⟨gB, 0, none⟩ (.int .i64 (qp : Int))).setCell ⟨gB, 1, none⟩ (.int .i64 (qf : Int))).setCell ⟨gB, 2, none⟩ (.int .i64 (qt : Int)) := ⟨_, rfl⟩
              rw [← hwT] at hbT hBT hQT ⊢
              simp only [List.setIfInBounds_toArray, List.set_cons_zero, List.set_cons_succ] at hBT
              clear hwT q0 q1 q2 b0 b1 b2 fb0 fb1 fb2 H7
              have q1 := hQT.cell 1
              have q2 := hQT.cell 2
              simp only [List.getElem?_toArray, List.getElem?_cons_zero, List.getElem?_cons_succ] at q1 q2
              have HT := hide (And.intro hbT hBT)
              clear hbT hBT hQT
              by_cases hone : sz = 1
              · have hone' : (sz : Int) = 1 := by omega
                subst hone
                have hT := HM.out.on (HGB.out ▸ HT.out.1)
                have m6 := hT.cells 6
                have m9 := hT.cells 9
                simp only [mRow, List.getElem?_toArray, List.getElem?_cons_zero, List.getElem?_cons_succ, hT.m.bn] at m6 m9
                obtain ⟨fl, hfl⟩ : ∃ q, q = s.fl := ⟨_, rfl⟩
                rw [← hfl] at m9
                have hfn : fl < C.n := by rw [hfl]; exact (hp.halve hC HO.out.1 HO.out.2.2).1
                have hfn' : ¬ ((fl : Int) = (C.n : Int)) := by omega
                have HFL := hide hfl
                clear hfl hT
                go_wp2
                go_quiet (fail)
                go_wp2
                have hT := HM.out.on (HGB.out ▸ below_drewN HT.out.1 nq)
                have hbT := below_drewN HT.out.1 nq
                have hBT := HT.out.2.drewN nq
                obtain ⟨wU, hwU⟩ : ∃ q, q = wT.drewN nq := ⟨_, rfl⟩
                rw [← hwU] at hT hbT hBT ⊢
                clear hwU m6 m9 HT
                have lk : ∀ n, (Instr.lookup 94 (.map (some a.k)) (.agg #[.int .i64 (qp : Int), .int .i64 (qf : Int), .int .i64 (qt : Int)]) false).run Try.prog (wU.drewN n) = .ok (.bool (C.tp ⟨qp, qf, qt⟩)) (wU.drewN n) := by
                  rcases hT.look (okQ_of HO.out.1 hC.hp hC.hn) false with ⟨_, h⟩ | ⟨h', _⟩
                  · exact h
                  · exact absurd HO.out.2.1 h'
                obtain ⟨tq, htq⟩ : ∃ q, q = C.tp ⟨qp, qf, qt⟩ := ⟨_, rfl⟩
                rw [← htq] at lk
                have HTQ := hide htq
                clear htq
                have lk1 : (Instr.lookup 94 (.map (some a.k)) (.agg #[.int .i64 (qp : Int), .int .i64 (qf : Int), .int .i64 (qt : Int)]) false).run Try.prog wU.drew = .ok (.bool tq) wU.drew := lk 1
                have lk0 : (Instr.lookup 94 (.map (some a.k)) (.agg #[.int .i64 (qp : Int), .int .i64 (qf : Int), .int .i64 (qt : Int)]) false).run Try.prog wU = .ok (.bool tq) wU := lk 0
                have m7 := hT.cells 7
                have m13 := hT.cells 13
                have m14 := hT.cells 14
                have m15 := hT.cells 15
                have m16 := hT.cells 16
                have m17 := hT.cells 17
                simp only [mRow, List.getElem?_toArray, List.getElem?_cons_zero, List.getElem?_cons_succ] at m7 m13 m14 m15 m16 m17
                have x0 := hBT.cell 0
                have x1 := hBT.cell 1
                have x2 := hBT.cell 2
                simp only [List.getElem?_toArray, List.getElem?_cons_zero, List.getElem?_cons_succ] at x0 x1 x2
                have f13 := hT.m.m.frozen 13
                have f14 := hT.m.m.frozen 14
                have f15 := hT.m.m.frozen 15
                have f16 := hT.m.m.frozen 16
                have f17 := hT.m.m.frozen 17
                have HU := hide (And.intro hT hbT)
                clear hT hbT hBT
                go_region
                go_wp2
                rw [Exit.noGoto_ret]
                go_ret
                have h6 := fun k => ((((((HU.out.1.on (below_drewN (Below.refl _ _) k)).set 14 (.int .i64 (qp : Int)) (s' := { s with odd := ⟨qp, s.odd.fr, s.odd.tt⟩ }) rfl rfl rfl).set 15 (.int .i64 (qf : Int)) (s' := { s with odd := ⟨qp, qf, s.odd.tt⟩ }) rfl rfl rfl).set 16 (.int .i64 (qt : Int)) (s' := { s with odd := ⟨qp, qf, qt⟩ }) rfl rfl rfl).set 17 (.bool tq) (s' := { s with odd := ⟨qp, qf, qt⟩, ans := tq }) rfl rfl rfl).set 13 (.bool true) (s' := { s with odd := ⟨qp, qf, qt⟩, ans := tq, srch := true }) rfl rfl rfl)
                have y1 := HX.out.1
                have hbU : ∀ k, Below base w (wU.drewN k) := fun k => below_drewN (HU.out.2.mono (by rw [HGB.out]; exact HX.out.2.2)) k
                have hph := hp.halve hC HO.out.1 HO.out.2.2
                rw [← HTQ.out] at hph
                refine ⟨_, h6 1, ((((((hbU 1).setCell (p := ⟨a.g, 14, none⟩) y1 _).setCell (p := ⟨a.g, 15, none⟩) y1 _).setCell (p := ⟨a.g, 16, none⟩) y1 _).setCell (p := ⟨a.g, 17, none⟩) y1 _).setCell (p := ⟨a.g, 13, none⟩) y1 _), rfl, .inr ⟨rfl, hph.2, ho, ?_⟩⟩
                have := HO.out.1.2
                simp only at this
                unfold mu
                simp only
                omega
              · have hone' : ¬ ((sz : Int) = 1) := by omega
                go_wp2
                go_roundg g2
                case measure => omega
                case rel => exact ⟨j + 1, true, ⟨qp, qf, qt⟩, by omega, by go_num, rfl, HT.out.1, HT.out.2, Scan.take HO.out.1 HO.out.2.1 HO.out.2.2⟩
            | true =>
              obtain ⟨bz, hbz⟩ : ∃ x, x = bt - bf := ⟨_, rfl⟩
              have hbI : (bt : Int) - (bf : Int) = (bz : Int) := by have := HSC.out.1.2; simp only at this; omega
              have hbn : bz ≤ C.n := by have := HSC.out.1.2; simp only at this; omega
              have HBZ := hide (show IntKind.i64.wrap ((bt : Int) - (bf : Int)) = (bz : Int) by rw [hbI]; simp only [IntKind.wrap, IntKind.bits, IntKind.signed]; simp; omega)
              clear hbz hbI
              by_cases hge : bz ≤ sz
              · have _tk := hge
                refine wp_region_noPanic ?_
                refine wp_region_held_drew (S := fun W => Below w2.heap.size w2 W) (by kernel_rfl) HD2.out (fun hHeld => ?_)
                refine wpAnyH_take (i := 0) (v := .pointer (some ⟨a.g, 0, none⟩)) rfl (by kernel_rfl) (by kernel_rfl) (by kernel_rfl) (fun _ _ _ h => h) (yieldsIf_move (by rfl) _ (Or.inl rfl) _ rfl) hHeld ?_
                try simp only [Act.put, List.getElem_toArray, List.getElem_cons_zero, List.setIfInBounds_toArray, List.set_cons_zero, List.set_cons_succ]
                refine wpAnyH_take (i := 1) (v := .agg #[.int .i64 (qp : Int), .int .i64 (qf : Int), .int .i64 (qt : Int)]) rfl (by kernel_rfl) (by kernel_rfl) (by kernel_rfl) (fun _ _ _ h => h) (yieldsIf_load_blk (by rfl) 45 _ rfl gQ rfl 45 #[.int .i64 (qp : Int), .int .i64 (qf : Int), .int .i64 (qt : Int)] _ (fun W hW => HKP.out W hW |>.1) Try.underlying45 rfl (by kernel_rfl)) hHeld ?_
                try simp only [Act.put, List.getElem_toArray, List.getElem_cons_succ, List.getElem_cons_zero, List.setIfInBounds_toArray, List.set_cons_zero, List.set_cons_succ]
                refine wpAnyH_take (i := 2) (v := .pointer (some ⟨a.g, 0, none⟩)) rfl (by kernel_rfl) (by kernel_rfl) (by kernel_rfl) (fun _ _ _ h => h) (yieldsIf_move (by rfl) _ (Or.inl rfl) _ rfl) hHeld ?_
                try simp only [Act.put, List.getElem_toArray, List.getElem_cons_succ, List.getElem_cons_zero, List.setIfInBounds_toArray, List.set_cons_zero, List.set_cons_succ]
                refine wpAnyH_take (i := 3) (v := .pointer (some ⟨a.g, 0, none⟩)) rfl (by kernel_rfl) (by kernel_rfl) (by kernel_rfl) (fun _ _ _ h => h) (yieldsIf_op (by rfl) _ (fun _ => by kernel_rfl)) hHeld ?_
                try simp only [Act.put, List.getElem_toArray, List.getElem_cons_succ, List.getElem_cons_zero, List.setIfInBounds_toArray, List.set_cons_zero, List.set_cons_succ]
                refine wpAnyH_take (i := 4) (v := .pointer (some ⟨a.g, 7, none⟩)) rfl (by kernel_rfl) (by kernel_rfl) (by kernel_rfl) (fun _ _ _ h => h) (yieldsIf_op (by rfl) _ (fun _ => by kernel_rfl)) hHeld ?_
                try simp only [Act.put, List.getElem_toArray, List.getElem_cons_succ, List.getElem_cons_zero, List.setIfInBounds_toArray, List.set_cons_zero, List.set_cons_succ]
                refine wpAnyH_take (i := 5) (v := .map (some a.k)) rfl (by kernel_rfl) (by kernel_rfl) (by kernel_rfl) (fun _ _ _ h => h) (yieldsIf_load1 (by rfl) _ _ rfl ⟨a.g, 7, none⟩ rfl _ (fun _ => by kernel_rfl) (fun W hW => (HKP.out W hW).2.2.1)) hHeld ?_
                try simp only [Act.put, List.getElem_toArray, List.getElem_cons_succ, List.getElem_cons_zero, List.setIfInBounds_toArray, List.set_cons_zero, List.set_cons_succ]
                refine wpAnyH_take (i := 6) (v := .agg #[.int .i64 (qp : Int), .int .i64 (qf : Int), .int .i64 (qt : Int)]) rfl (by kernel_rfl) (by kernel_rfl) (by kernel_rfl) (fun _ _ _ h => h) (yieldsIf_load_blk (by rfl) 45 _ rfl gQ rfl 45 #[.int .i64 (qp : Int), .int .i64 (qf : Int), .int .i64 (qt : Int)] _ (fun W hW => HKP.out W hW |>.1) Try.underlying45 rfl (by kernel_rfl)) hHeld ?_
                try simp only [Act.put, List.getElem_toArray, List.getElem_cons_succ, List.getElem_cons_zero, List.setIfInBounds_toArray, List.set_cons_zero, List.set_cons_succ]
                refine wpAnyH_take (i := 7) (v := .bool tpv) rfl (by kernel_rfl) (by kernel_rfl) (by kernel_rfl) (fun _ _ _ h => h) (yieldsIf_lookup (by rfl) _ _ _ _ rfl _ _ rfl rfl _ (fun W hW => (HKP.out W hW).2.2.2)) hHeld ?_
                try simp only [Act.put, List.getElem_toArray, List.getElem_cons_succ, List.getElem_cons_zero, List.setIfInBounds_toArray, List.set_cons_zero, List.set_cons_succ]
                refine wpAnyH_ready (rs := [8]) (by kernel_rfl) (by simp) ?_
                refine AllReadyH.cons (i := 8) rfl (fun K hK => ?_) AllReadyH.nil
                go_simp
                refine (hIsO.out _ hHeld).mono ?_
                rintro e w7 ⟨rfl, hb7⟩
                refine hK.out _ _ hb7 (fun hHeld => ?_)
                clear hK K
                try simp only [Act.put, List.getElem_toArray, List.getElem_cons_succ, List.getElem_cons_zero, List.setIfInBounds_toArray, List.set_cons_zero, List.set_cons_succ]
                refine wpAnyH_take (i := 9) (v := .bool false) rfl (by kernel_rfl) (by kernel_rfl) (by kernel_rfl) (fun _ _ _ h => h) (yieldsIf_op (by rfl) _ (fun _ => by kernel_rfl)) hHeld ?_
                try simp only [Act.put, List.getElem_toArray, List.getElem_cons_succ, List.getElem_cons_zero, List.setIfInBounds_toArray, List.set_cons_zero, List.set_cons_succ]
                refine wpAnyH_take (i := 10) (v := .bool false) rfl (by kernel_rfl) (by kernel_rfl) (by kernel_rfl) (fun _ _ _ h => h) (yieldsIf_move (by rfl) _ (Or.inl rfl) _ rfl) hHeld ?_
                try simp only [Act.put, List.getElem_toArray, List.getElem_cons_succ, List.getElem_cons_zero, List.setIfInBounds_toArray, List.set_cons_zero, List.set_cons_succ]
                refine wpAnyH_take (i := 11) (v := .bool true) rfl (by kernel_rfl) (by kernel_rfl) (by kernel_rfl) (fun _ _ _ h => h) (yieldsIf_move (by rfl) _ (Or.inl rfl) _ rfl) hHeld ?_
                try simp only [Act.put, List.getElem_toArray, List.getElem_cons_succ, List.getElem_cons_zero, List.setIfInBounds_toArray, List.set_cons_zero, List.set_cons_succ]
                refine wpAnyH_take (i := 12) (v := .bool true) rfl (by kernel_rfl) (by kernel_rfl) (by kernel_rfl) (fun _ _ _ h => h) (yieldsIf_move (by rfl) _ (Or.inl rfl) _ rfl) hHeld ?_
                try simp only [Act.put, List.getElem_toArray, List.getElem_cons_succ, List.getElem_cons_zero, List.setIfInBounds_toArray, List.set_cons_zero, List.set_cons_succ]
                refine wpAnyH_take (i := 13) (v := .pointer (some ⟨gQ, 2, none⟩)) rfl (by kernel_rfl) (by kernel_rfl) (by kernel_rfl) (fun _ _ _ h => h) (yieldsIf_op (by rfl) _ (fun _ => by kernel_rfl)) hHeld ?_
                try simp only [Act.put, List.getElem_toArray, List.getElem_cons_succ, List.getElem_cons_zero, List.setIfInBounds_toArray, List.set_cons_zero, List.set_cons_succ]
                refine wpAnyH_take (i := 14) (v := .int .i64 (qt : Int)) rfl (by kernel_rfl) (by kernel_rfl) (by kernel_rfl) (fun _ _ _ h => h) (yieldsIf_load1 (by rfl) _ _ rfl ⟨gQ, 2, none⟩ rfl _ (fun _ => by kernel_rfl) (fun W hW => (HKP.out W hW).1.cell 2)) hHeld ?_
                try simp only [Act.put, List.getElem_toArray, List.getElem_cons_succ, List.getElem_cons_zero, List.setIfInBounds_toArray, List.set_cons_zero, List.set_cons_succ]
                refine wpAnyH_take (i := 15) (v := .pointer (some ⟨gQ, 1, none⟩)) rfl (by kernel_rfl) (by kernel_rfl) (by kernel_rfl) (fun _ _ _ h => h) (yieldsIf_op (by rfl) _ (fun _ => by kernel_rfl)) hHeld ?_
                try simp only [Act.put, List.getElem_toArray, List.getElem_cons_succ, List.getElem_cons_zero, List.setIfInBounds_toArray, List.set_cons_zero, List.set_cons_succ]
                refine wpAnyH_take (i := 16) (v := .int .i64 (qf : Int)) rfl (by kernel_rfl) (by kernel_rfl) (by kernel_rfl) (fun _ _ _ h => h) (yieldsIf_load1 (by rfl) _ _ rfl ⟨gQ, 1, none⟩ rfl _ (fun _ => by kernel_rfl) (fun W hW => (HKP.out W hW).1.cell 1)) hHeld ?_
                try simp only [Act.put, List.getElem_toArray, List.getElem_cons_succ, List.getElem_cons_zero, List.setIfInBounds_toArray, List.set_cons_zero, List.set_cons_succ]
                refine wpAnyH_take (i := 17) (v := .int .i64 (sz : Int)) rfl (by kernel_rfl) (by kernel_rfl) (by kernel_rfl) (fun _ _ _ h => h) (yieldsIf_sub (by rfl) _ _ _ _ rfl _ _ _ rfl rfl HSZ.out) hHeld ?_
                try simp only [Act.put, List.getElem_toArray, List.getElem_cons_succ, List.getElem_cons_zero, List.setIfInBounds_toArray, List.set_cons_zero, List.set_cons_succ]
                refine wpAnyH_take (i := 18) (v := .pointer (some ⟨gB, 2, none⟩)) rfl (by kernel_rfl) (by kernel_rfl) (by kernel_rfl) (fun _ _ _ h => h) (yieldsIf_op (by rfl) _ (fun _ => by kernel_rfl)) hHeld ?_
                try simp only [Act.put, List.getElem_toArray, List.getElem_cons_succ, List.getElem_cons_zero, List.setIfInBounds_toArray, List.set_cons_zero, List.set_cons_succ]
                refine wpAnyH_take (i := 19) (v := .int .i64 (bt : Int)) rfl (by kernel_rfl) (by kernel_rfl) (by kernel_rfl) (fun _ _ _ h => h) (yieldsIf_load1 (by rfl) _ _ rfl ⟨gB, 2, none⟩ rfl _ (fun _ => by kernel_rfl) (fun W hW => (HKP.out W hW).2.1.cell 2)) hHeld ?_
                try simp only [Act.put, List.getElem_toArray, List.getElem_cons_succ, List.getElem_cons_zero, List.setIfInBounds_toArray, List.set_cons_zero, List.set_cons_succ]
                refine wpAnyH_take (i := 20) (v := .pointer (some ⟨gB, 1, none⟩)) rfl (by kernel_rfl) (by kernel_rfl) (by kernel_rfl) (fun _ _ _ h => h) (yieldsIf_op (by rfl) _ (fun _ => by kernel_rfl)) hHeld ?_
                try simp only [Act.put, List.getElem_toArray, List.getElem_cons_succ, List.getElem_cons_zero, List.setIfInBounds_toArray, List.set_cons_zero, List.set_cons_succ]
                refine wpAnyH_take (i := 21) (v := .int .i64 (bf : Int)) rfl (by kernel_rfl) (by kernel_rfl) (by kernel_rfl) (fun _ _ _ h => h) (yieldsIf_load1 (by rfl) _ _ rfl ⟨gB, 1, none⟩ rfl _ (fun _ => by kernel_rfl) (fun W hW => (HKP.out W hW).2.1.cell 1)) hHeld ?_
                try simp only [Act.put, List.getElem_toArray, List.getElem_cons_succ, List.getElem_cons_zero, List.setIfInBounds_toArray, List.set_cons_zero, List.set_cons_succ]
                refine wpAnyH_take (i := 22) (v := .int .i64 (bz : Int)) rfl (by kernel_rfl) (by kernel_rfl) (by kernel_rfl) (fun _ _ _ h => h) (yieldsIf_sub (by rfl) _ _ _ _ rfl _ _ _ rfl rfl HBZ.out) hHeld ?_
                try simp only [Act.put, List.getElem_toArray, List.getElem_cons_succ, List.getElem_cons_zero, List.setIfInBounds_toArray, List.set_cons_zero, List.set_cons_succ]
                refine wpAnyH_take (i := 23) (v := .bool true) rfl (by kernel_rfl) (by kernel_rfl) (by kernel_rfl) (fun _ _ _ h => h) (yieldsIf_geq (by rfl) _ _ _ _ rfl _ _ _ rfl rfl (decide_eq_true (by omega))) hHeld ?_
                try simp only [Act.put, List.getElem_toArray, List.getElem_cons_succ, List.getElem_cons_zero, List.setIfInBounds_toArray, List.set_cons_zero, List.set_cons_succ]
                refine wpAnyH_take (i := 24) (v := .bool true) rfl (by kernel_rfl) (by kernel_rfl) (by kernel_rfl) (fun _ _ _ h => h) (yieldsIf_pick_true (by rfl) _ _ _ rfl rfl _ rfl) hHeld ?_
                try simp only [Act.put, List.getElem_toArray, List.getElem_cons_succ, List.getElem_cons_zero, List.setIfInBounds_toArray, List.set_cons_zero, List.set_cons_succ]
                refine wpAnyH_take (i := 25) (v := .bool true) rfl (by kernel_rfl) (by kernel_rfl) (by kernel_rfl) (fun _ _ _ h => h) (yieldsIf_pick_false (by rfl) _ _ _ rfl rfl _ rfl) hHeld ?_
                try simp only [Act.put, List.getElem_toArray, List.getElem_cons_succ, List.getElem_cons_zero, List.setIfInBounds_toArray, List.set_cons_zero, List.set_cons_succ]
                refine wpAnyH_done (by kernel_rfl) ?_ _
                refine NoPanic.normal ?_
                have H7 := hide (And.intro (show Below gB w w7 from HGB.out ▸ below_on H2.out.2.1 hHeld) (HKP.out w7 hHeld).2.1)
                clear hHeld
                go_wp2
                go_roundg g2
                case measure => omega
                case rel => exact ⟨j + 1, true, ⟨bp, bf, bt⟩, by omega, by go_num, rfl, H7.out.1, H7.out.2, HSC.out.stay⟩
              · have _tk := hge
                refine wp_region_noPanic ?_
                refine wp_region_held_drew (S := fun W => Below w2.heap.size w2 W) (by kernel_rfl) HD2.out (fun hHeld => ?_)
                refine wpAnyH_take (i := 0) (v := .pointer (some ⟨a.g, 0, none⟩)) rfl (by kernel_rfl) (by kernel_rfl) (by kernel_rfl) (fun _ _ _ h => h) (yieldsIf_move (by rfl) _ (Or.inl rfl) _ rfl) hHeld ?_
                try simp only [Act.put, List.getElem_toArray, List.getElem_cons_zero, List.setIfInBounds_toArray, List.set_cons_zero, List.set_cons_succ]
                refine wpAnyH_take (i := 1) (v := .agg #[.int .i64 (qp : Int), .int .i64 (qf : Int), .int .i64 (qt : Int)]) rfl (by kernel_rfl) (by kernel_rfl) (by kernel_rfl) (fun _ _ _ h => h) (yieldsIf_load_blk (by rfl) 45 _ rfl gQ rfl 45 #[.int .i64 (qp : Int), .int .i64 (qf : Int), .int .i64 (qt : Int)] _ (fun W hW => HKP.out W hW |>.1) Try.underlying45 rfl (by kernel_rfl)) hHeld ?_
                try simp only [Act.put, List.getElem_toArray, List.getElem_cons_succ, List.getElem_cons_zero, List.setIfInBounds_toArray, List.set_cons_zero, List.set_cons_succ]
                refine wpAnyH_take (i := 2) (v := .pointer (some ⟨a.g, 0, none⟩)) rfl (by kernel_rfl) (by kernel_rfl) (by kernel_rfl) (fun _ _ _ h => h) (yieldsIf_move (by rfl) _ (Or.inl rfl) _ rfl) hHeld ?_
                try simp only [Act.put, List.getElem_toArray, List.getElem_cons_succ, List.getElem_cons_zero, List.setIfInBounds_toArray, List.set_cons_zero, List.set_cons_succ]
                refine wpAnyH_take (i := 3) (v := .pointer (some ⟨a.g, 0, none⟩)) rfl (by kernel_rfl) (by kernel_rfl) (by kernel_rfl) (fun _ _ _ h => h) (yieldsIf_op (by rfl) _ (fun _ => by kernel_rfl)) hHeld ?_
                try simp only [Act.put, List.getElem_toArray, List.getElem_cons_succ, List.getElem_cons_zero, List.setIfInBounds_toArray, List.set_cons_zero, List.set_cons_succ]
                refine wpAnyH_take (i := 4) (v := .pointer (some ⟨a.g, 7, none⟩)) rfl (by kernel_rfl) (by kernel_rfl) (by kernel_rfl) (fun _ _ _ h => h) (yieldsIf_op (by rfl) _ (fun _ => by kernel_rfl)) hHeld ?_
                try simp only [Act.put, List.getElem_toArray, List.getElem_cons_succ, List.getElem_cons_zero, List.setIfInBounds_toArray, List.set_cons_zero, List.set_cons_succ]
                refine wpAnyH_take (i := 5) (v := .map (some a.k)) rfl (by kernel_rfl) (by kernel_rfl) (by kernel_rfl) (fun _ _ _ h => h) (yieldsIf_load1 (by rfl) _ _ rfl ⟨a.g, 7, none⟩ rfl _ (fun _ => by kernel_rfl) (fun W hW => (HKP.out W hW).2.2.1)) hHeld ?_
                try simp only [Act.put, List.getElem_toArray, List.getElem_cons_succ, List.getElem_cons_zero, List.setIfInBounds_toArray, List.set_cons_zero, List.set_cons_succ]
                refine wpAnyH_take (i := 6) (v := .agg #[.int .i64 (qp : Int), .int .i64 (qf : Int), .int .i64 (qt : Int)]) rfl (by kernel_rfl) (by kernel_rfl) (by kernel_rfl) (fun _ _ _ h => h) (yieldsIf_load_blk (by rfl) 45 _ rfl gQ rfl 45 #[.int .i64 (qp : Int), .int .i64 (qf : Int), .int .i64 (qt : Int)] _ (fun W hW => HKP.out W hW |>.1) Try.underlying45 rfl (by kernel_rfl)) hHeld ?_
                try simp only [Act.put, List.getElem_toArray, List.getElem_cons_succ, List.getElem_cons_zero, List.setIfInBounds_toArray, List.set_cons_zero, List.set_cons_succ]
                refine wpAnyH_take (i := 7) (v := .bool tpv) rfl (by kernel_rfl) (by kernel_rfl) (by kernel_rfl) (fun _ _ _ h => h) (yieldsIf_lookup (by rfl) _ _ _ _ rfl _ _ rfl rfl _ (fun W hW => (HKP.out W hW).2.2.2)) hHeld ?_
                try simp only [Act.put, List.getElem_toArray, List.getElem_cons_succ, List.getElem_cons_zero, List.setIfInBounds_toArray, List.set_cons_zero, List.set_cons_succ]
                refine wpAnyH_ready (rs := [8]) (by kernel_rfl) (by simp) ?_
                refine AllReadyH.cons (i := 8) rfl (fun K hK => ?_) AllReadyH.nil
                go_simp
                refine (hIsO.out _ hHeld).mono ?_
                rintro e w7 ⟨rfl, hb7⟩
                refine hK.out _ _ hb7 (fun hHeld => ?_)
                clear hK K
                try simp only [Act.put, List.getElem_toArray, List.getElem_cons_succ, List.getElem_cons_zero, List.setIfInBounds_toArray, List.set_cons_zero, List.set_cons_succ]
                refine wpAnyH_take (i := 9) (v := .bool false) rfl (by kernel_rfl) (by kernel_rfl) (by kernel_rfl) (fun _ _ _ h => h) (yieldsIf_op (by rfl) _ (fun _ => by kernel_rfl)) hHeld ?_
                try simp only [Act.put, List.getElem_toArray, List.getElem_cons_succ, List.getElem_cons_zero, List.setIfInBounds_toArray, List.set_cons_zero, List.set_cons_succ]
                refine wpAnyH_take (i := 10) (v := .bool false) rfl (by kernel_rfl) (by kernel_rfl) (by kernel_rfl) (fun _ _ _ h => h) (yieldsIf_move (by rfl) _ (Or.inl rfl) _ rfl) hHeld ?_
                try simp only [Act.put, List.getElem_toArray, List.getElem_cons_succ, List.getElem_cons_zero, List.setIfInBounds_toArray, List.set_cons_zero, List.set_cons_succ]
                refine wpAnyH_take (i := 11) (v := .bool true) rfl (by kernel_rfl) (by kernel_rfl) (by kernel_rfl) (fun _ _ _ h => h) (yieldsIf_move (by rfl) _ (Or.inl rfl) _ rfl) hHeld ?_
                try simp only [Act.put, List.getElem_toArray, List.getElem_cons_succ, List.getElem_cons_zero, List.setIfInBounds_toArray, List.set_cons_zero, List.set_cons_succ]
                refine wpAnyH_take (i := 12) (v := .bool true) rfl (by kernel_rfl) (by kernel_rfl) (by kernel_rfl) (fun _ _ _ h => h) (yieldsIf_move (by rfl) _ (Or.inl rfl) _ rfl) hHeld ?_
                try simp only [Act.put, List.getElem_toArray, List.getElem_cons_succ, List.getElem_cons_zero, List.setIfInBounds_toArray, List.set_cons_zero, List.set_cons_succ]
                refine wpAnyH_take (i := 13) (v := .pointer (some ⟨gQ, 2, none⟩)) rfl (by kernel_rfl) (by kernel_rfl) (by kernel_rfl) (fun _ _ _ h => h) (yieldsIf_op (by rfl) _ (fun _ => by kernel_rfl)) hHeld ?_
                try simp only [Act.put, List.getElem_toArray, List.getElem_cons_succ, List.getElem_cons_zero, List.setIfInBounds_toArray, List.set_cons_zero, List.set_cons_succ]
                refine wpAnyH_take (i := 14) (v := .int .i64 (qt : Int)) rfl (by kernel_rfl) (by kernel_rfl) (by kernel_rfl) (fun _ _ _ h => h) (yieldsIf_load1 (by rfl) _ _ rfl ⟨gQ, 2, none⟩ rfl _ (fun _ => by kernel_rfl) (fun W hW => (HKP.out W hW).1.cell 2)) hHeld ?_
                try simp only [Act.put, List.getElem_toArray, List.getElem_cons_succ, List.getElem_cons_zero, List.setIfInBounds_toArray, List.set_cons_zero, List.set_cons_succ]
                refine wpAnyH_take (i := 15) (v := .pointer (some ⟨gQ, 1, none⟩)) rfl (by kernel_rfl) (by kernel_rfl) (by kernel_rfl) (fun _ _ _ h => h) (yieldsIf_op (by rfl) _ (fun _ => by kernel_rfl)) hHeld ?_
                try simp only [Act.put, List.getElem_toArray, List.getElem_cons_succ, List.getElem_cons_zero, List.setIfInBounds_toArray, List.set_cons_zero, List.set_cons_succ]
                refine wpAnyH_take (i := 16) (v := .int .i64 (qf : Int)) rfl (by kernel_rfl) (by kernel_rfl) (by kernel_rfl) (fun _ _ _ h => h) (yieldsIf_load1 (by rfl) _ _ rfl ⟨gQ, 1, none⟩ rfl _ (fun _ => by kernel_rfl) (fun W hW => (HKP.out W hW).1.cell 1)) hHeld ?_
                try simp only [Act.put, List.getElem_toArray, List.getElem_cons_succ, List.getElem_cons_zero, List.setIfInBounds_toArray, List.set_cons_zero, List.set_cons_succ]
                refine wpAnyH_take (i := 17) (v := .int .i64 (sz : Int)) rfl (by kernel_rfl) (by kernel_rfl) (by kernel_rfl) (fun _ _ _ h => h) (yieldsIf_sub (by rfl) _ _ _ _ rfl _ _ _ rfl rfl HSZ.out) hHeld ?_
                try simp only [Act.put, List.getElem_toArray, List.getElem_cons_succ, List.getElem_cons_zero, List.setIfInBounds_toArray, List.set_cons_zero, List.set_cons_succ]
                refine wpAnyH_take (i := 18) (v := .pointer (some ⟨gB, 2, none⟩)) rfl (by kernel_rfl) (by kernel_rfl) (by kernel_rfl) (fun _ _ _ h => h) (yieldsIf_op (by rfl) _ (fun _ => by kernel_rfl)) hHeld ?_
                try simp only [Act.put, List.getElem_toArray, List.getElem_cons_succ, List.getElem_cons_zero, List.setIfInBounds_toArray, List.set_cons_zero, List.set_cons_succ]
                refine wpAnyH_take (i := 19) (v := .int .i64 (bt : Int)) rfl (by kernel_rfl) (by kernel_rfl) (by kernel_rfl) (fun _ _ _ h => h) (yieldsIf_load1 (by rfl) _ _ rfl ⟨gB, 2, none⟩ rfl _ (fun _ => by kernel_rfl) (fun W hW => (HKP.out W hW).2.1.cell 2)) hHeld ?_
                try simp only [Act.put, List.getElem_toArray, List.getElem_cons_succ, List.getElem_cons_zero, List.setIfInBounds_toArray, List.set_cons_zero, List.set_cons_succ]
                refine wpAnyH_take (i := 20) (v := .pointer (some ⟨gB, 1, none⟩)) rfl (by kernel_rfl) (by kernel_rfl) (by kernel_rfl) (fun _ _ _ h => h) (yieldsIf_op (by rfl) _ (fun _ => by kernel_rfl)) hHeld ?_
                try simp only [Act.put, List.getElem_toArray, List.getElem_cons_succ, List.getElem_cons_zero, List.setIfInBounds_toArray, List.set_cons_zero, List.set_cons_succ]
                refine wpAnyH_take (i := 21) (v := .int .i64 (bf : Int)) rfl (by kernel_rfl) (by kernel_rfl) (by kernel_rfl) (fun _ _ _ h => h) (yieldsIf_load1 (by rfl) _ _ rfl ⟨gB, 1, none⟩ rfl _ (fun _ => by kernel_rfl) (fun W hW => (HKP.out W hW).2.1.cell 1)) hHeld ?_
                try simp only [Act.put, List.getElem_toArray, List.getElem_cons_succ, List.getElem_cons_zero, List.setIfInBounds_toArray, List.set_cons_zero, List.set_cons_succ]
                refine wpAnyH_take (i := 22) (v := .int .i64 (bz : Int)) rfl (by kernel_rfl) (by kernel_rfl) (by kernel_rfl) (fun _ _ _ h => h) (yieldsIf_sub (by rfl) _ _ _ _ rfl _ _ _ rfl rfl HBZ.out) hHeld ?_
                try simp only [Act.put, List.getElem_toArray, List.getElem_cons_succ, List.getElem_cons_zero, List.setIfInBounds_toArray, List.set_cons_zero, List.set_cons_succ]
                refine wpAnyH_take (i := 23) (v := .bool false) rfl (by kernel_rfl) (by kernel_rfl) (by kernel_rfl) (fun _ _ _ h => h) (yieldsIf_geq (by rfl) _ _ _ _ rfl _ _ _ rfl rfl (decide_eq_false (by omega))) hHeld ?_
                try simp only [Act.put, List.getElem_toArray, List.getElem_cons_succ, List.getElem_cons_zero, List.setIfInBounds_toArray, List.set_cons_zero, List.set_cons_succ]
                refine wpAnyH_take (i := 24) (v := .bool false) rfl (by kernel_rfl) (by kernel_rfl) (by kernel_rfl) (fun _ _ _ h => h) (yieldsIf_pick_true (by rfl) _ _ _ rfl rfl _ rfl) hHeld ?_
                try simp only [Act.put, List.getElem_toArray, List.getElem_cons_succ, List.getElem_cons_zero, List.setIfInBounds_toArray, List.set_cons_zero, List.set_cons_succ]
                refine wpAnyH_take (i := 25) (v := .bool false) rfl (by kernel_rfl) (by kernel_rfl) (by kernel_rfl) (fun _ _ _ h => h) (yieldsIf_pick_false (by rfl) _ _ _ rfl rfl _ rfl) hHeld ?_
                try simp only [Act.put, List.getElem_toArray, List.getElem_cons_succ, List.getElem_cons_zero, List.setIfInBounds_toArray, List.set_cons_zero, List.set_cons_succ]
                refine wpAnyH_done (by kernel_rfl) ?_ _
                refine NoPanic.normal ?_
                have h7 := H2.out.1.on hHeld
                have hb7 : Below gB w w7 := HGB.out ▸ below_on H2.out.2.1 hHeld
                have hB7 := (HKP.out w7 hHeld).2.1
                have hQ7 := (HKP.out w7 hHeld).1
                have q0 := hQ7.cell 0
                have q1 := hQ7.cell 1
                have q2 := hQ7.cell 2
                have b0 := hB7.cell 0
                have b1 := hB7.cell 1
                have b2 := hB7.cell 2
                simp only [List.getElem?_toArray, List.getElem?_cons_zero, List.getElem?_cons_succ] at q0 q1 q2 b0 b1 b2
                have fb0 := hB7.frozen 0
                have fb1 := hB7.frozen 1
                have fb2 := hB7.frozen 2
                have H7 := hide (And.intro hb7 (And.intro hB7 hQ7))
                clear h7 hb7 hB7 hQ7 hHeld
                go_upto_region 11 with fail
                have hbT : Below gB w (((w7.setCell ⟨gB, 0, none⟩ (.int .i64 (qp : Int))).setCell ⟨gB, 1, none⟩ (.int .i64 (qf : Int))).setCell ⟨gB, 2, none⟩ (.int .i64 (qt : Int))) := ((H7.out.1.setCell (p := ⟨gB, 0, none⟩) (Nat.le_refl _) _).setCell (p := ⟨gB, 1, none⟩) (Nat.le_refl _) _).setCell (p := ⟨gB, 2, none⟩) (Nat.le_refl _) _
                have hBT := ((H7.out.2.1.set_ 0 (.int .i64 (qp : Int))).set_ 1 (.int .i64 (qf : Int))).set_ 2 (.int .i64 (qt : Int))
                have hQT := ((H7.out.2.2.far (p := ⟨gB, 0, none⟩) (show gQ ≠ gB by omega) (.int .i64 (qp : Int))).far (p := ⟨gB, 1, none⟩) (show gQ ≠ gB by omega) (.int .i64 (qf : Int))).far (p := ⟨gB, 2, none⟩) (show gQ ≠ gB by omega) (.int .i64 (qt : Int))
                obtain ⟨wT, hwT⟩ : ∃ q, q = ((w7.setCell ⟨gB, 0, none⟩ (.int .i64 (qp : Int))).setCell ⟨gB, 1, none⟩ (.int .i64 (qf : Int))).setCell ⟨gB, 2, none⟩ (.int .i64 (qt : Int)) := ⟨_, rfl⟩
                rw [← hwT] at hbT hBT hQT ⊢
                simp only [List.setIfInBounds_toArray, List.set_cons_zero, List.set_cons_succ] at hBT
                clear hwT q0 q1 q2 b0 b1 b2 fb0 fb1 fb2 H7
                have q1 := hQT.cell 1
                have q2 := hQT.cell 2
                simp only [List.getElem?_toArray, List.getElem?_cons_zero, List.getElem?_cons_succ] at q1 q2
                have HT := hide (And.intro hbT hBT)
                clear hbT hBT hQT
                by_cases hone : sz = 1
                · have hone' : (sz : Int) = 1 := by omega
                  subst hone
                  have hT := HM.out.on (HGB.out ▸ HT.out.1)
                  have m6 := hT.cells 6
                  have m9 := hT.cells 9
                  simp only [mRow, List.getElem?_toArray, List.getElem?_cons_zero, List.getElem?_cons_succ, hT.m.bn] at m6 m9
                  obtain ⟨fl, hfl⟩ : ∃ q, q = s.fl := ⟨_, rfl⟩
                  rw [← hfl] at m9
                  have hfn : fl < C.n := by rw [hfl]; exact (hp.halve hC HO.out.1 HO.out.2.2).1
                  have hfn' : ¬ ((fl : Int) = (C.n : Int)) := by omega
                  have HFL := hide hfl
                  clear hfl hT
                  go_wp2
                  go_quiet (fail)
                  go_wp2
                  have hT := HM.out.on (HGB.out ▸ below_drewN HT.out.1 nq)
                  have hbT := below_drewN HT.out.1 nq
                  have hBT := HT.out.2.drewN nq
                  obtain ⟨wU, hwU⟩ : ∃ q, q = wT.drewN nq := ⟨_, rfl⟩
                  rw [← hwU] at hT hbT hBT ⊢
                  clear hwU m6 m9 HT
                  have lk : ∀ n, (Instr.lookup 94 (.map (some a.k)) (.agg #[.int .i64 (qp : Int), .int .i64 (qf : Int), .int .i64 (qt : Int)]) false).run Try.prog (wU.drewN n) = .ok (.bool (C.tp ⟨qp, qf, qt⟩)) (wU.drewN n) := by
                    rcases hT.look (okQ_of HO.out.1 hC.hp hC.hn) false with ⟨_, h⟩ | ⟨h', _⟩
                    · exact h
                    · exact absurd HO.out.2.1 h'
                  obtain ⟨tq, htq⟩ : ∃ q, q = C.tp ⟨qp, qf, qt⟩ := ⟨_, rfl⟩
                  rw [← htq] at lk
                  have HTQ := hide htq
                  clear htq
                  have lk1 : (Instr.lookup 94 (.map (some a.k)) (.agg #[.int .i64 (qp : Int), .int .i64 (qf : Int), .int .i64 (qt : Int)]) false).run Try.prog wU.drew = .ok (.bool tq) wU.drew := lk 1
                  have lk0 : (Instr.lookup 94 (.map (some a.k)) (.agg #[.int .i64 (qp : Int), .int .i64 (qf : Int), .int .i64 (qt : Int)]) false).run Try.prog wU = .ok (.bool tq) wU := lk 0
                  have m7 := hT.cells 7
                  have m13 := hT.cells 13
                  have m14 := hT.cells 14
                  have m15 := hT.cells 15
                  have m16 := hT.cells 16
                  have m17 := hT.cells 17
                  simp only [mRow, List.getElem?_toArray, List.getElem?_cons_zero, List.getElem?_cons_succ] at m7 m13 m14 m15 m16 m17
                  have x0 := hBT.cell 0
                  have x1 := hBT.cell 1
                  have x2 := hBT.cell 2
                  simp only [List.getElem?_toArray, List.getElem?_cons_zero, List.getElem?_cons_succ] at x0 x1 x2
                  have f13 := hT.m.m.frozen 13
                  have f14 := hT.m.m.frozen 14
                  have f15 := hT.m.m.frozen 15
                  have f16 := hT.m.m.frozen 16
                  have f17 := hT.m.m.frozen 17
                  have HU := hide (And.intro hT hbT)
                  clear hT hbT hBT
                  go_region
                  go_wp2
                  rw [Exit.noGoto_ret]
                  go_ret
                  have h6 := fun k => ((((((HU.out.1.on (below_drewN (Below.refl _ _) k)).set 14 (.int .i64 (qp : Int)) (s' := { s with odd := ⟨qp, s.odd.fr, s.odd.tt⟩ }) rfl rfl rfl).set 15 (.int .i64 (qf : Int)) (s' := { s with odd := ⟨qp, qf, s.odd.tt⟩ }) rfl rfl rfl).set 16 (.int .i64 (qt : Int)) (s' := { s with odd := ⟨qp, qf, qt⟩ }) rfl rfl rfl).set 17 (.bool tq) (s' := { s with odd := ⟨qp, qf, qt⟩, ans := tq }) rfl rfl rfl).set 13 (.bool true) (s' := { s with odd := ⟨qp, qf, qt⟩, ans := tq, srch := true }) rfl rfl rfl)
                  have y1 := HX.out.1
                  have hbU : ∀ k, Below base w (wU.drewN k) := fun k => below_drewN (HU.out.2.mono (by rw [HGB.out]; exact HX.out.2.2)) k
                  have hph := hp.halve hC HO.out.1 HO.out.2.2
                  rw [← HTQ.out] at hph
                  refine ⟨_, h6 1, ((((((hbU 1).setCell (p := ⟨a.g, 14, none⟩) y1 _).setCell (p := ⟨a.g, 15, none⟩) y1 _).setCell (p := ⟨a.g, 16, none⟩) y1 _).setCell (p := ⟨a.g, 17, none⟩) y1 _).setCell (p := ⟨a.g, 13, none⟩) y1 _), rfl, .inr ⟨rfl, hph.2, ho, ?_⟩⟩
                  have := HO.out.1.2
                  simp only at this
                  unfold mu
                  simp only
                  omega
                · have hone' : ¬ ((sz : Int) = 1) := by omega
                  go_wp2
                  go_roundg g2
                  case measure => omega
                  case rel => exact ⟨j + 1, true, ⟨qp, qf, qt⟩, by omega, by go_num, rfl, HT.out.1, HT.out.2, Scan.take HO.out.1 HO.out.2.1 HO.out.2.2⟩
end Go.Proofs.Ytchhkokpjdkkiaa
