/- Contract of the machine's Tell (the Top seat). Contract of reconcile.Run (the Top seat). Contracts of algebra.Count, Parity, and of the small example of the layers up to 4 (the Top seat). Contract of the law's works06 (the Top seat). -/
import Derived.Test.YtchhkokpjdkkiaaTopDisclosesa23
import Derived.StillTailTactics
import Derived.Deep.RegionLaw
import Derived.Test.YtchhkokpjdkkiaaTopDisclosesa24
import Derived.BigQuiet
import Derived.Deep.LoopGhost
import Derived.Test.YtchhkokpjdkkiaaTopDisclosesa15
import Derived.Test.YtchhkokpjdkkiaaTopDisclosesa21
namespace Go.Proofs.Ytchhkokpjdkkiaa
open Go.RowKit

theorem info_ans : (Try.prog.info? 47).map (fun i => (i.zero, i.size, i.bytes)) = some (some (.agg #[.int .i64 0, .int .i64 0, .int .i64 0, .bool false]), 4, 32) := by kernel_rfl
set_option maxRecDepth 100000 in
set_option maxHeartbeats 6400000 in
theorem tell_c {C : Crs} {w : World} {base : Nat} {a : MA} {s : Mst} (h : MC C w base a s) (hC : C.Ok) (hw : Waits C s) :
    Calls Try.prog 25 #[.pointer (some ⟨a.g, 0, none⟩), .bool (C.tp s.nxt)] w fun e w' => e = .returned (.int .i64 0) ∧ ∃ a' s', a'.g = a.g ∧ MC C w' base a' s' ∧ Below base w w' ∧ s'.told.length = s.told.length + 1 ∧ Rests C s' := by
  have hq : okQ s.nxt := okQ_of hw.2.1 hC.hp hC.hn
  have hpt := hw.tell
  have hopn := hw.1
  have htl := hw.told_lt
  have hC1 := hC.hp
  have hC2 := hC.hn
  have htl2 : s.told.length < 1000000 := by
    have h1 : C.c.p * (C.n + 1) * (C.n + 1) ≤ 6 * 65 * 65 := Nat.mul_le_mul (Nat.mul_le_mul hC1 (by omega)) (by omega)
    omega
  have HAD := hide (fun (W : World) (a' : MA) (h : MC C W base a' { s with told := s.told ++ [⟨s.nxt, C.tp s.nxt⟩] }) => advance_c h hC hpt)
  have m7 := h.cells 7
  have m8 := h.cells 8
  have m18 := h.cells 18
  have m19 := h.cells 19
  have m20 := h.cells 20
  have m21 := h.cells 21
  simp only [mRow, List.getElem?_toArray, List.getElem?_cons_zero, List.getElem?_cons_succ, hopn] at m7 m8 m18 m19 m20 m21
  have h1 := h.on (below_drewN (Below.refl w.heap.size w) 1)
  have hst := h1.m.k.store hq (by rw [List.length_map]; exact htl2)
  have HV := hide (mvalid_c h)
  have hX : base ≤ a.g ∧ a.g < w.heap.size ∧ base ≤ a.k := ⟨h.m.hg, h.lt, h.m.hk⟩
  have HX := hide hX
  have HTL := hide htl2
  have hb1 := below_drewN (Below.refl base w) 1
  change MC C w.drew base a s at h1
  change Below base w w.drew at hb1
  change ∃ w', (Instr.mapUpdate _ _ _ _).run _ w.drew = _ ∧ _ ∧ w.drew.grownBy w' _ at hst
  obtain ⟨q, hqq⟩ : ∃ q, q = s.nxt := ⟨_, rfl⟩
  obtain ⟨tv, htv⟩ : ∃ v, v = C.tp s.nxt := ⟨_, rfl⟩
  rw [← htv] at HAD
  rw [← hqq] at HAD m18 m19 m20 hst htv
  have HNX := hide hqq.symm
  rw [← htv] at hst
  rw [hqq] at htv
  rw [← htv]
  clear hqq htv hq hpt hopn htl hw htl2 hX
  obtain ⟨w2, hrun, hk2, hg2⟩ := hst
  have hB2 := h1.m.m.grown hg2 (fun e => h1.m.k.ne_blk h1.m.m (Option.some.inj e).symm)
  have o2 := h1.m.t.grown hg2 (fun g e hh => h1.m.k.ne_own h1.m.t g e (Option.some.inj hh))
  have hz2 : base ≤ w2.heap.size := by have h1 : w.heap.size ≤ w2.heap.size := hg2.size; have := HX.out; omega
  have hbk := below_grown hb1 hg2 HX.out.2.2 (by have := HX.out; omega)
  have HM := hide (And.intro h1 (And.intro hk2 (And.intro hg2 (And.intro hbk hz2))))
  clear h1 hk2 hg2 hbk hb1 h
  obtain ⟨qp, qf, qt⟩ := q
  simp only [keyV] at hrun
  simp only at m18 m19 m20
  go_enter Try.func25, Try.ntmps25
  go_upto_region 5 with (go_at_call 58; refine HV.out.mono ?_; rintro e w1 ⟨rfl, hqe⟩; rw [← hqe]; clear hqe)
  go_still_tail 9, (by kernel_rfl)
  change wpList _ _ _ _ _ w.drew
  go_upto_region 6 with fail
  clear hrun m7 m8 m18 m19 m20 m21
  have hal := below_alloc w2 (.cells #[.int .i64 (qp : Int), .int .i64 (qf : Int), .int .i64 (qt : Int), .bool tv] 47)
  have hB3 := hB2.keep hal
  have o3 := o2.on hal
  have hR := Rd.newAt (e := eAns) w2 47 (⟨⟨qp, qf, qt⟩, tv⟩ : Ans) #[.int .i64 (qp : Int), .int .i64 (qf : Int), .int .i64 (qt : Int), .bool tv] rfl w2.heap.size rfl
  have m8 := hB2.cell 8
  have m18 := hB2.cell 18
  have m19 := hB2.cell 19
  have m20 := hB2.cell 20
  have n8 := hB3.cell 8
  have hnx : s.nxt = ⟨qp, qf, qt⟩ := HNX.out
  simp only [mRow, List.getElem?_toArray, List.getElem?_cons_zero, List.getElem?_cons_succ, hnx] at m8 m18 m19 m20 n8
  have htn : a.T.n = s.told.length := o2.len.symm
  have htl := HTL.out
  rw [htn] at o3
  have HO3 := hide (show Ow eAns (w2.alloc (.cells #[.int .i64 (qp : Int), .int .i64 (qf : Int), .int .i64 (qt : Int), .bool tv] 47)).drew base 47 a.T.A s.told.length a.T.c s.told from o3.drew)
  have HR := hide hR.drew
  have HB3 := hide (show Blk (w2.alloc (.cells #[.int .i64 (qp : Int), .int .i64 (qf : Int), .int .i64 (qt : Int), .bool tv] 47)).drew a.g 96 (mRow C.c a s) from hB3.drew)
  have HAL := hide (show Below w2.heap.size w2 (w2.alloc (.cells #[.int .i64 (qp : Int), .int .i64 (qf : Int), .int .i64 (qt : Int), .bool tv] 47)).drew from below_drewN hal 1)
  have HBA := hide (show base ≤ (w2.alloc (.cells #[.int .i64 (qp : Int), .int .i64 (qf : Int), .int .i64 (qt : Int), .bool tv] 47)).drew.heap.size from Nat.le_trans HM.out.2.2.2.2 HAL.out.size)
  clear hnx hB2 o2 hB3 o3 hR hal
  go_region_law (refine step_app eAns _ (by rfl) (.tmp 26) (.tmp 33) _ (by rfl) base 47 (.agg #[.int .i64 0, .int .i64 0, .int .i64 0, .bool false]) 32 Try.underlying29 info_ans rfl (by omega) _ _ _ _ (by rfl) HO3.out _ 1 1 [⟨⟨qp, qf, qt⟩, tv⟩] (by rfl) _ HR.out (by omega) HBA.out ?_; intro A5 c5 w5 o5 hg5 hA5; have b5 := HO3.out.otherB hg5 (by decide) HB3.out; have m5 := b5.cell 8; simp only [mRow, List.getElem?_toArray, List.getElem?_cons_zero, List.getElem?_cons_succ] at m5; have f5 := b5.frozen 8; have HG5 := hide (And.intro hg5 o5); clear hg5 o5 hA5 b5)
  all_goals
    have hp5 := HM.out.1.m.pushT HM.out.2.1 HM.out.2.2.1 HAL.out HG5.out.2 HG5.out.1
    have hm5 : MC C (w5.setCell ⟨a.g, 8, none⟩ (.slice A5 (s.told.length + 1) c5)) base { a with T := ⟨A5, s.told.length + 1, c5⟩ } { s with told := s.told ++ [⟨⟨qp, qf, qt⟩, tv⟩] } := ⟨hp5, HM.out.1.pn, HM.out.1.qn⟩
    have hbx := (below_app (HM.out.2.2.2.1.trans (HAL.out.mono HM.out.2.2.2.2)) HO3.out HG5.out.1 (Nat.le_refl _) (by have := HX.out; omega)).setCell (p := ⟨a.g, 8, none⟩) HX.out.1 (.slice A5 (s.told.length + 1) c5)
    rw [HNX.out] at hm5
    have HKA := hide (HAD.out _ _ hm5)
    have HBX := hide hbx
    clear hp5 hm5 hbx
    obtain ⟨w6, hw6⟩ : ∃ q, q = w5.setCell ⟨a.g, 8, none⟩ (.slice A5 (s.told.length + 1) c5) := ⟨_, rfl⟩
    rw [← hw6] at HKA HBX ⊢
    clear hw6 m5 f5 m8 n8 m18 m19 m20
    go_wp2_with (go_at_call 57; refine HKA.out.mono ?_; rintro e w9 ⟨rfl, s9, hm9, hb9, ht9, hr9⟩)
    go_ret
    exact ⟨rfl, { a with T := ⟨A5, s.told.length + 1, c5⟩ }, s9, rfl, hm9, HBX.out.trans hb9, by rw [ht9]; simp, hr9⟩
end Go.Proofs.Ytchhkokpjdkkiaa

namespace Go.Proofs.Ytchhkokpjdkkiaa
open Go.RowKit

theorem Mach.mono {w : World} {base base' n : Nat} {c : Cas} {O : Nat → List Nat} {BL : Nat → List Qs} {tp : Qs → Bool} {a : MA} {s : Mst} (h : Mach w base c n O BL tp a s) (hb : base' ≤ base) : Mach w base' c n O BL tp a s := by
  obtain ⟨HO, HB, hr⟩ := h.r
  exact ⟨h.m, ⟨HO, HB, hr.hO.mono hb, hr.hB.mono hb, fun i x hx => ⟨(hr.rO i x hx).1, (hr.rO i x hx).2.mono hb⟩, fun i x hx => (hr.rB i x hx).mono hb⟩, h.b.mono hb, h.k, h.t.mono hb, h.bn, Nat.le_trans hb h.hg, Nat.le_trans hb h.hk⟩
theorem MC.mono {C : Crs} {w : World} {base base' : Nat} {a : MA} {s : Mst} (h : MC C w base a s) (hb : base' ≤ base) : MC C w base' a s := ⟨h.m.mono hb, h.pn, h.qn⟩
theorem Rests.cases {C : Crs} {s : Mst} (h : Rests C s) : (s.opn = true ∧ Waits C s) ∨ (s.opn = false ∧ Ended C s) := by
  rcases h with h | h
  · exact .inl ⟨h.1, h⟩
  · exact .inr ⟨h.1, h⟩
set_option maxRecDepth 100000 in
set_option maxHeartbeats 6400000 in
theorem mrun_c (c : Cas) (n cc cc' : Nat) (A A' : Option Addr) (b tr : List Bool) (w : World) (r : Rd eBool w w.heap.size A n cc b) (r' : Rd eBool w w.heap.size A' n cc' tr) (hc : okCas c) (hn : n ≤ 64) (hsz : ∀ p, p < c.p → szOf c p ≤ 512) :
    Calls Try.prog 7 #[.agg (casV c), .slice A n cc, .slice A' n cc'] w fun e w' => ∃ a s, e = .returned (.tuple #[.slice a.b.A a.b.n a.b.c, .slice a.T.A a.T.n a.T.c, .int .i64 0]) ∧ MC (crs c n tr (dist b tr)) w' w.heap.size a s ∧ Below w.heap.size w w' ∧ Ended (crs c n tr (dist b tr)) s := by
  have ht := r'.len
  have HCH := hide (fun W => rcCheck_c c hc W)
  have HNW := hide (fun (W : World) (h : Below w.heap.size w W) => mnew_c c n cc A b tr W (r.on h) hc hn ht hsz)
  have hC := crs_ok hc hn ht (dist b tr)
  have HTL := hide (fun (W : World) (a : MA) (s : Mst) (h : MC (crs c n tr (dist b tr)) W w.heap.size a s) (hw : Waits (crs c n tr (dist b tr)) s) => tell_c h hC hw)
  have HPA := hide (show ∀ (A1 : Option Addr) (m d : Nat) (q : Qs) (W : World), Below w.heap.size w W → Rd eNat W W.heap.size A1 m d (plQ (crs c n tr (dist b tr)).O q) → (∀ j ∈ plQ (crs c n tr (dist b tr)).O q, j < n) → Calls Try.prog 26 #[.slice A' n cc', .slice A1 m d] W fun e w' => e = .returned (.bool ((crs c n tr (dist b tr)).tp q)) ∧ w' = W from fun A1 m d q W hb h hL => parity_c A' n cc' tr A1 m d _ W (r'.on hb) h hL)
  have HOO := hide hC.O
  have hCp : (crs c n tr (dist b tr)).c.p = c.p := rfl
  have hCn : (crs c n tr (dist b tr)).n = n := rfl
  obtain ⟨C, hCC⟩ : ∃ C, C = crs c n tr (dist b tr) := ⟨_, rfl⟩
  rw [← hCC] at HTL HNW HOO HPA hCp hCn ⊢
  clear hCC hC
  have hmax := r.max
  have hcap := r.cap
  have hmax' := r'.max
  have hcap' := r'.cap
  have hpp := hc.2.1
  have HPP := hide hpp
  clear r r' ht hsz hc
  obtain ⟨cp, cb, sd⟩ := c
  simp only at hpp hCp HPP
  have hb1 := below_alloc w (.cells (casV ⟨cp, cb, sd⟩) 34)
  have hB1 := Blk.newAt w 34 (casV ⟨cp, cb, sd⟩) w.heap.size rfl
  simp only [casV] at hb1 hB1 HCH HNW ⊢
  have HCN := hide (And.intro hCp hCn)
  clear hCp hCn
  go_enter Try.func7, Try.ntmps7
  go_upto_region 1 with fail
  obtain ⟨wA, hwA⟩ : ∃ x, x = w.alloc (.cells #[.int .i64 (cp : Int), .int .i64 (cb : Int), .int .u64 (sd : Int)] 34) := ⟨_, rfl⟩
  rw [← hwA] at hb1 hB1 ⊢
  obtain ⟨gC, hgC⟩ : ∃ x, x = w.heap.size := ⟨_, rfl⟩
  have HGC := hide hgC
  rw [← hgC] at hB1 ⊢
  clear hwA hgC
  have c0 := hB1.cell 0
  have c1 := hB1.cell 1
  have c2 := hB1.cell 2
  simp only [List.getElem?_toArray, List.getElem?_cons_zero, List.getElem?_cons_succ] at c0 c1 c2
  have HW := hide (And.intro hb1 hB1)
  clear hb1 hB1
  have g1 : ¬ ((n : Int) > 512) := by omega
  have g2 : ¬ (512 < n) := by omega
  go_upto_region 10 with (first | (go_at_call 23; refine (HCH.out _).mono ?_; rintro e w1 ⟨rfl, hb⟩; have hB1 := HW.out.2.keep hb; have c0 := hB1.cell 0; have c1 := hB1.cell 1; have c2 := hB1.cell 2; simp only [List.getElem?_toArray, List.getElem?_cons_zero, List.getElem?_cons_succ] at c0 c1 c2; have HB1 := hide (below_on HW.out.1 hb); clear hb hB1) | (go_at_call 24; refine (HNW.out _ HB1.out).mono ?_; rintro e w2 ⟨a, s, rfl, hm, hb2, hr, ht⟩))
  have hm0 := hm.mono (base' := w.heap.size) HB1.out.size
  have HM0 := hide (And.intro hm0 (And.intro (below_on HB1.out hb2) (And.intro hr ht)))
  obtain ⟨g, hg⟩ : ∃ q, q = a.g := ⟨_, rfl⟩
  have HG := hide hg.symm
  obtain ⟨M, hM⟩ : ∃ M, M = C.c.p * (C.n + 1) * (C.n + 1) := ⟨_, rfl⟩
  have HMM := hide hM
  rw [← hg]
  clear hm hm0 hb2 hr ht hg hM HNW HCH c0 c1 c2 HW
  go_loopg [11] (M) (fun k _ wr => ∃ a s, a.g = g ∧ MC C wr w.heap.size a s ∧ Below w.heap.size w wr ∧ Rests C s ∧ s.told.length + k = M)
  case atStart => exact ⟨a, s, HG.out, HM0.out.1, HM0.out.2.1, HM0.out.2.2.1, by rw [HM0.out.2.2.2]; simp⟩
  case round =>
    clear HM0 HG a s
    obtain ⟨a, s, hag, hm, hbw, hr, hk⟩ := hrel
    have m21 := hm.cells 21
    simp only [mRow, List.getElem?_toArray, List.getElem?_cons_zero, List.getElem?_cons_succ, hag] at m21
    rcases hr.cases with ⟨ho, hw⟩ | ⟨ho, he⟩
    · rw [ho] at m21
      have m4 := hm.cells 4
      have m18 := hm.cells 18
      have m19 := hm.cells 19
      have m20 := hm.cells 20
      have hok := hw.2.1
      have htl := hw.told_lt
      have HKT := hide (fun (W : World) (hb : Below wr.heap.size wr W) => HTL.out W a s (hm.on hb) hw)
      obtain ⟨q, hq⟩ : ∃ q, q = s.nxt := ⟨_, rfl⟩
      rw [← hq] at hok
      have hlt := plQ_lt (O := C.O) (q := q) (n := C.n) (HOO.out q.p)
      rw [hag, ← hq] at HKT
      obtain ⟨tv, htv⟩ : ∃ v, v = C.tp q := ⟨_, rfl⟩
      rw [← htv] at HKT
      obtain ⟨bo, oA, od, eO, hbo, x0, oO⟩ := hm.ord hok.1
      obtain ⟨og, x, eoA, _, hog, _, _⟩ := oO.get (i := q.fr) (by have := hok.2; omega)
      simp only [mRow, List.getElem?_toArray, List.getElem?_cons_zero, List.getElem?_cons_succ, hag, ← hq, eO, hm.pn] at m4 m18 m19 m20
      subst eoA
      have hd := oO.rd.cap
      have hdm := oO.rd.max
      have hsub := oO.rd.sub (f := q.fr) (t := q.tt) (Nat.le_of_lt hok.2.1) hok.2.2
      simp only [eNat, Nat.mul_one, Nat.zero_add] at hsub
      rw [HCN.out.2] at hd hok hlt x0
      rw [HCN.out.1] at hok m4
      have HKP := hide (fun (W : World) (hb : Below wr.heap.size wr W) => HPA.out _ _ _ q W (hbw.trans (hb.mono (by exact hbw.size))) (hsub.on hb) hlt)
      rw [← htv] at HKP
      have HR := hide (And.intro hbw (And.intro hk htl))
      have HA := hide hag
      have hgl := hm.lt
      rw [hag] at hgl
      clear hq hlt htv hm hr hw oO eO hsub hbw hk htl
      obtain ⟨qp, qf, qt⟩ := q
      obtain ⟨k1, k2, k3⟩ := hok
      simp only at k1 k2 k3 m18 m19 m20 HKP x0 hog
      have hal := below_alloc wr (.cells #[.int .i64 (qp : Int), .int .i64 (qf : Int), .int .i64 (qt : Int)] 45)
      have hB := Blk.newAt wr 45 #[.int .i64 (qp : Int), .int .i64 (qf : Int), .int .i64 (qt : Int)] wr.heap.size rfl
      have n4 := (hal.cell (p := ⟨g, 4, none⟩) hgl).trans m4
      have nx := (hal.cell (p := ⟨bo, qp, none⟩) hbo).trans x0
      have q0 := hB.cell 0
      have q1 := hB.cell 1
      have q2 := hB.cell 2
      simp only [List.getElem?_toArray, List.getElem?_cons_zero, List.getElem?_cons_succ] at q0 q1 q2
      go_upto_region 12 with fail
      obtain ⟨W1, hW1⟩ : ∃ x, x = wr.alloc (.cells #[.int .i64 (qp : Int), .int .i64 (qf : Int), .int .i64 (qt : Int)] 45) := ⟨_, rfl⟩
      rw [← hW1] at hal n4 nx q0 q1 q2 ⊢
      obtain ⟨gQ, hgQ⟩ : ∃ x, x = wr.heap.size := ⟨_, rfl⟩
      rw [← hgQ] at q0 q1 q2 ⊢
      have HAL := hide (show Below wr.heap.size wr W1.drew from below_drewN hal 1)
      clear hW1 hgQ hal hB m4 x0 m18 m19 m20 m21
      have e1 : ¬ (od = qf) := by omega
      have e2 : (0 : Int) ≤ (qf : Int) := by omega
      have e3 : (qf : Int) ≤ (qt : Int) := by omega
      have e4 : (qt : Int) ≤ (od : Int) := by omega
      have e5 : (qp : Int) < (cp : Int) := by omega
      go_still_tail 16, (by kernel_rfl)
      still_call (HKP.out _ HAL.out)
      refine wpStill_nil ?_
      change wpList _ _ _ _ _ W1.drew
      clear n4 nx q0 q1 q2
      have KT := hide (HKT.out _ HAL.out)
      obtain ⟨W2, hW2⟩ : ∃ x, x = W1.drew := ⟨_, rfl⟩
      rw [← hW2] at KT HAL ⊢
      clear hW2
      go_wp2_with (go_at_call 25; refine KT.out.mono ?_; rintro e w5 ⟨rfl, a', s', ha', hm', hb', hl', hr'⟩)
      obtain ⟨hbw, hk, htl⟩ := HR.out
      go_roundg (gk - 1)
      case measure => have := HMM.out; omega
      case rel => exact ⟨a', s', (by first | exact ha' | exact ha'.trans HA.out), hm', (hbw.trans (HAL.out.mono hbw.size)).trans hb', hr', by have := HMM.out; omega⟩
    · rw [ho] at m21
      have m6 := hm.cells 6
      have m8 := hm.cells 8
      simp only [mRow, List.getElem?_toArray, List.getElem?_cons_zero, List.getElem?_cons_succ, hag] at m6 m8
      have HM := hide (And.intro hm (And.intro hbw he))
      clear hm hbw he hr
      go_wp2
      go_quiet (fail)
      go_wp2
      go_ret3
      exact ⟨a, s, rfl, HM.out.1.on (below_drewN (Below.refl _ _) nq), below_drewN HM.out.2.1 nq, HM.out.2.2⟩
end Go.Proofs.Ytchhkokpjdkkiaa

namespace Go.Proofs.Ytchhkokpjdkkiaa
open Go.RowKit

def onesL (L : List Bool) : Nat := (L.filter id).length
theorem onesL_le (L : List Bool) : onesL L ≤ L.length := List.length_filter_le _ _
theorem onesL_yes {L : List Bool} {k : Nat} (h : L[k]? = some true) : onesL (L.take (k + 1)) = onesL (L.take k) + 1 := by
  unfold onesL; rw [List.take_add_one, h, List.filter_append, List.length_append]; simp
theorem onesL_no {L : List Bool} {k : Nat} (h : L[k]? = some false) : onesL (L.take (k + 1)) = onesL (L.take k) := by
  unfold onesL; rw [List.take_add_one, h, List.filter_append, List.length_append]; simp
set_option maxRecDepth 100000 in
set_option maxHeartbeats 1600000 in
theorem acount_c (A : Option Addr) (n c : Nat) (L : List Bool) (w : World) (r : Rd eBool w w.heap.size A n c L) : Calls Try.prog 88 #[.slice A n c] w fun e w' => e = .returned (.int .i64 (onesL L : Nat)) ∧ w' = w := by
  have hm := r.max
  have hcap := r.cap
  have HL := hide r.len
  go_enter Try.func88, Try.ntmps88
  go_wp2
  go_loopw [7, 2] (fun iv ov wr => ∃ k : Nat, k ≤ n ∧ iv = .int .i64 k ∧ ov = .int .i64 (onesL (L.take k) : Nat) ∧ wr = w) (fun iv _ _ => n - (intOf iv).toNat)
  case atStart => exact ⟨0, Nat.zero_le _, rfl, rfl, rfl⟩
  case round =>
    obtain ⟨k, hk, rfl, rfl, hwr⟩ := hrel
    rw [hwr]
    clear hwr
    have hcn := onesL_le (L.take k)
    rw [List.length_take] at hcn
    obtain ⟨cn, hcn'⟩ : ∃ q, q = onesL (L.take k) := ⟨_, rfl⟩
    rw [← hcn'] at hcn ⊢
    have HCN := hide hcn'
    clear hcn'
    by_cases hlt : k < n
    · obtain ⟨b, off, x, rfl, hb, hx, hc⟩ := r.get hlt
      have c0 := hc 0 _ rfl
      simp only [eBool, Nat.add_zero, Nat.mul_one] at c0
      have HX := hide hx
      clear hc hx hb
      cases x
      · go_wp2
        go_roundw
        case rel => exact ⟨k + 1, by omega, by go_num, by rw [onesL_no HX.out, HCN.out], trivial⟩
        case measure => simp [intOf] <;> omega
      · go_wp2
        go_roundw
        case rel => exact ⟨k + 1, by omega, by go_num, by rw [onesL_yes HX.out, HCN.out]; go_num, trivial⟩
        case measure => simp [intOf] <;> omega
    · have HR := hide (show cn = onesL L by rw [HCN.out, List.take_of_length_le (by have := HL.out; omega)])
      go_wp2
      go_ret
      exact ⟨by rw [HR.out]; rfl, rfl⟩
set_option maxRecDepth 100000 in
theorem tparity1_c (A : Option Addr) (w : World) (r : Rd eBool w w.heap.size A 1 1 [true]) : Calls Try.prog 51 #[.slice A 1 1] w fun e w' => e = .returned (.bool true) ∧ w' = w := by
  have HC := hide (show Calls Try.prog 88 #[.slice A 1 1] w fun e w' => e = .returned (.int .i64 1) ∧ w' = w from acount_c A 1 1 [true] w r)
  go_enter Try.func51, Try.ntmps51
  go_wp2_with (go_at_call 88; refine HC.out.mono ?_; rintro e w1 ⟨rfl, hq⟩; rw [hq]; clear hq)
  go_ret
  exact ⟨rfl, rfl⟩
theorem of1_c (w : World) : Calls Try.prog 49 #[.int .u64 1] w fun e w' => ∃ g c, e = .returned (.slice (some ⟨g, 0, none⟩) 1 c) ∧ Ex.Sl w' w'.heap.size .u32 (some ⟨g, 0, none⟩) 1 c [1] ∧ Below w.heap.size w w' := Ex.ofs_c 1 (by omega) (by omega) w
theorem of6_c (w : World) : Calls Try.prog 49 #[.int .u64 6] w fun e w' => ∃ g c, e = .returned (.slice (some ⟨g, 0, none⟩) 1 c) ∧ Ex.Sl w' w'.heap.size .u32 (some ⟨g, 0, none⟩) 1 c [6] ∧ Below w.heap.size w w' := Ex.ofs_c 6 (by omega) (by omega) w
set_option maxRecDepth 100000 in
set_option maxHeartbeats 3200000 in
theorem works04_c (w : World) : Calls Try.prog 21 #[] w fun e w' => e = .returned (.bool true) ∧ Below w.heap.size w w' := by
  have HT := hide (fun W => (Ex.tail_c 4 1 2 0 W (by omega) (by omega)).mono fun e w' h => (by
    obtain ⟨A, n, c, l, A', n', c', l', err, he, s1, s2, hS, hb⟩ := h
    obtain ⟨rfl, rfl, rfl⟩ := Ex.tail_small hS
    obtain rfl : 1 = n := s1.len
    obtain rfl : 1 = n' := s2.len
    exact ⟨A, c, A', c', he, s1, s2, hb⟩ : ∃ A c A' c', e = .returned (.tuple #[.agg #[.slice A 1 c, .slice A' 1 c'], .int .i64 0]) ∧ Ex.Sl w' w'.heap.size .u32 A 1 c [1] ∧ Ex.Sl w' w'.heap.size .u32 A' 1 c' [2] ∧ Below W.heap.size W w'))
  have HO1 := hide of1_c
  have HO6 := hide of6_c
  go_enter Try.func21, Try.ntmps21
  go_upto_region 2 with (go_at_call 47; refine (HT.out _).mono ?_; rintro e w1 ⟨A, c, A', c', rfl, s1, s2, hb1⟩)
  have hB := Blk.newAt w1 131 #[.slice A 1 c, .slice A' 1 c'] w1.heap.size rfl
  have hbA := below_alloc w1 (.cells #[.slice A 1 c, .slice A' 1 c'] 131)
  obtain ⟨wA, hwA⟩ : ∃ q, q = w1.alloc (.cells #[.slice A 1 c, .slice A' 1 c'] 131) := ⟨_, rfl⟩
  rw [← hwA] at hB hbA ⊢
  have t1 := (s1.below hbA).mono hbA.size
  have t2 := (s2.below hbA).mono hbA.size
  obtain ⟨gF, hgF⟩ : ∃ q, q = w1.heap.size := ⟨_, rfl⟩
  rw [← hgF] at hB ⊢
  have hbw := below_on hb1 hbA
  clear hwA hgF s1 s2 hb1 hbA HT
  go_upto_region 3 with (first | (go_at_call 49; (first | (with_reducible refine (HO1.out _).mono ?_; rintro e w2 ⟨g1, c1, rfl, s3, hb2⟩) | (with_reducible refine (HO6.out _).mono ?_; rintro e w3 ⟨g2, c2, rfl, s4, hb3⟩))) | (go_at_call 48; refine (rate_c _ _ _ _ _ ((s3.below hb3).mono hb3.size) s4).mono ?_; rintro e w4 ⟨rfl, hb4⟩))
  have hb14 := below_on (below_on hb2 hb3) hb4
  have hB4 := hB.keep hb14
  have t1 := (t1.below hb14).mono hb14.size
  have t2 := (t2.below hb14).mono hb14.size
  have hbw := below_on hbw hb14
  clear hb14 hb2 hb3 hb4 s3 s4 HO1 HO6 hB
  have hE := Blk.newAt w4 135 #[.int .i64 4, .int .i64 2, .int .i64 0, .int .i64 1, .int .i64 1] w4.heap.size rfl
  have hbE := below_alloc w4 (.cells #[.int .i64 4, .int .i64 2, .int .i64 0, .int .i64 1, .int .i64 1] 135)
  obtain ⟨w5, hw5⟩ : ∃ q, q = w4.alloc (.cells #[.int .i64 4, .int .i64 2, .int .i64 0, .int .i64 1, .int .i64 1] 135) := ⟨_, rfl⟩
  rw [← hw5] at hE hbE ⊢
  obtain ⟨gE, hgE⟩ : ∃ q, q = w4.heap.size := ⟨_, rfl⟩
  rw [← hgE] at hE ⊢
  have hB5 := hB4.keep hbE
  have t1 := (t1.below hbE).mono hbE.size
  have t2 := (t2.below hbE).mono hbE.size
  have hbw := below_on hbw hbE
  clear hw5 hgE hbE hB4
  have HF := hide (show Calls Try.prog 50 #[.agg #[.slice A 1 c, .slice A' 1 c'], .int .u64 1, .int .u64 2] w5 fun e w' => e = .returned (.bool true) ∧ Below w5.heap.size w5 w' from frac1_c 1 2 (by omega) (by omega) (by omega) (by omega) A A' c c' w5 t1 t2)
  clear t1 t2
  go_wp2_with (first | (refine wl_loadG (o := ⟨some 19, _, _, _, _, _⟩) (by rfl) 131 _ rfl gF rfl 131 #[.slice A 1 c, .slice A' 1 c'] _ hB5 Try.underlying131 rfl (by kernel_rfl) ?_) | (go_at_call 50; refine HF.out.mono ?_; rintro e w6 ⟨rfl, hb6⟩; have e3 := (hE.keep hb6).cell 3; simp only [List.getElem?_toArray, List.getElem?_cons_zero, List.getElem?_cons_succ] at e3) | (go_at_call 51; refine (tparity1_c _ _ (Rd.newAt (e := eBool) w6 4 true #[.bool true] rfl w6.heap.size rfl)).mono ?_; rintro e w7 ⟨rfl, hq⟩; rw [hq]; clear hq))
  go_ret
  exact ⟨rfl, below_on (below_on hbw hb6) (below_alloc _ _)⟩
end Go.Proofs.Ytchhkokpjdkkiaa

namespace Go.Proofs.Ytchhkokpjdkkiaa
open Go.RowKit

/-! ### What a course that has ended says -/
theorem Ended.even {C : Crs} {s : Mst} (h : Ended C s) {p : Nat} {q : Qs} (hp : p < C.c.p) (hq : q ∈ C.BL p) : parL s.b (plQ C.O q) = C.tp q := by
  obtain ⟨_, h2, h3⟩ := h
  exact h3.2.2 p q (by rw [h2]; exact hp) hq
theorem Ended.inv {C : Crs} {s : Mst} (h : Ended C s) : Inv C s := h.2.2.1
def c6 : Cas := ⟨1, 4, 0⟩
theorem c6_ok : okCas c6 := ⟨by decide, by decide, by decide, by decide, by decide⟩
theorem c6_sz (p : Nat) (h : p < c6.p) : szOf c6 p ≤ 512 := by
  have : p = 0 := by have : c6.p = 1 := rfl; omega
  subst this; decide
theorem bit6 : ∀ b0 b1 b2 b3 : Bool, dist [b0, b1, b2, b3] [false, true, false, false] ≤ 1 → parL [b0, b1, b2, b3] [0, 1, 2, 3] = true → b1 = true := by decide
theorem ended6 {s : Mst} (h : Ended (crs c6 4 [false, true, false, false] (dist (List.replicate 4 false) [false, true, false, false])) s) : s.b.getD 1 false = true := by
  have hl : s.b.length = 4 := h.inv.len
  have hd : dist s.b [false, true, false, false] ≤ 1 := h.inv.d0
  have he : parL s.b [0, 1, 2, 3] = parL [false, true, false, false] [0, 1, 2, 3] := h.even (p := 0) (q := ⟨0, 0, 4⟩) (by decide) (by
    show (⟨0, 0, 4⟩ : Qs) ∈ blkL c6 4 0
    have : blkL c6 4 0 = [⟨0, 0, 4⟩] := by rfl
    rw [this]; simp)
  obtain ⟨b, _⟩ := s
  simp only at hl hd he ⊢
  match b, hl with
  | [b0, b1, b2, b3], _ => exact bit6 b0 b1 b2 b3 hd he
set_option maxRecDepth 100000 in
set_option maxHeartbeats 3200000 in
theorem works06_c (w : World) : Calls Try.prog 12 #[] w fun e w' => e = .returned (.bool true) ∧ Below w.heap.size w w' := by
  have hal := below_alloc w (.cells #[.int .i64 3, .int .i64 16] 103)
  have HL := hide (length37_c (some ⟨w.heap.size, 0, none⟩) 1 (w.alloc (.cells #[.int .i64 3, .int .i64 16] 103)) (Rd.newAt (e := eItm) w 103 (3, 16) #[.int .i64 3, .int .i64 16] rfl w.heap.size rfl))
  have HW4 := hide works04_c
  have HRN := hide (fun (A A' : Option Addr) (cc cc' : Nat) (W : World) (r : Rd eBool W W.heap.size A 4 cc (List.replicate 4 false)) (r' : Rd eBool W W.heap.size A' 4 cc' [false, true, false, false]) => mrun_c c6 4 cc cc' A A' _ _ W r r' c6_ok (by omega) c6_sz)
  simp only [casV, c6] at HRN
  have HAL := hide hal
  clear hal
  go_enter Try.func12, Try.ntmps12
  go_upto_region 2 with (go_at_call 33; refine HL.out.mono ?_; rintro e w1 ⟨rfl, hb1⟩)
  have HB1 := hide (below_on HAL.out hb1)
  clear hb1
  go_upto_region 3 with (first | (at_make; refine wl_mk eBool _ rfl _ _ _ rfl 4 (.bool false) 1 false Try.underlying22 info_boolT rfl (by omega) _ _ 4 (by rfl) (by rfl) rfl rfl (by omega) ?_; intro w7 o7 hg7 hlt7) | (go_at_call 7; refine (HRN.out _ _ _ _ _ (o7.rd.alloc _) (Rd.many (e := eBool) w7 4 [false, true, false, false] #[.bool false, .bool true, .bool false, .bool false] rfl 4 rfl (by omega) w7.heap.size rfl)).mono ?_; rintro e w8 ⟨a, s, rfl, hm8, hb8, he8⟩))
  have hbit := ended6 he8
  have hbn : a.b.n = 4 := hm8.m.bn
  obtain ⟨g, eA, _, _, _, hc1, _⟩ := hm8.bit (x := 1) (by show 1 < 4; omega)
  rw [hbit] at hc1
  have hb7 : Below w1.heap.size w1 w7 := ⟨hg7.os, hg7.tape, hg7.output, hg7.size, fun i hi => hg7.block i hi (by simp)⟩
  have HB8 := hide (below_on HB1.out (below_on (below_on hb7 (below_alloc _ _)) hb8))
  clear hm8 he8 hb8 hb7 hg7 o7 hlt7 hbit
  go_wp2_with (go_at_call 21; refine (HW4.out _).mono ?_; rintro e w9 ⟨rfl, hb9⟩)
  go_ret
  exact ⟨rfl, below_on HB8.out hb9⟩
end Go.Proofs.Ytchhkokpjdkkiaa
