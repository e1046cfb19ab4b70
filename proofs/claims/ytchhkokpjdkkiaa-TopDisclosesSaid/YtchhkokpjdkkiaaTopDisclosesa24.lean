/- Contract of reconcile's New (the Top seat). -/
import Derived.Test.YtchhkokpjdkkiaaTopDisclosesa23
import Derived.Deep.DeepCutAuto
namespace Go.Proofs.Ytchhkokpjdkkiaa
open Go.RowKit

theorem eHd_info_o : (Try.prog.info? 61).map (fun i => (i.zero, i.size, i.bytes)) = some (some (.slice none 0 0), 1, 24) := by kernel_rfl
theorem eHd_info_b : (Try.prog.info? 145).map (fun i => (i.zero, i.size, i.bytes)) = some (some (.slice none 0 0), 1, 24) := by kernel_rfl
theorem cut2_c (c : Cas) (n p : Nat) (w : World) (hc : okCas c) (hp : p < 6) (hn : n ≤ 512) (h5 : szOf c p ≤ 512) :
    Calls Try.prog 56 #[.agg (casV c), .int .i64 (n : Int), .int .i64 (p : Int)] w fun e w' => ∃ A k d, e = .returned (.slice A k d) ∧ Ow eQs w' w.heap.size 45 A k d (blkL c n p) ∧ Below w.heap.size w w' :=
  (cut_c c n p w hc hp hn h5).mono fun e w' h => by
    obtain ⟨A, k, d, he, o, h1, h2, hb⟩ := h
    have := nblk_eq hc h1 h2
    subst this
    exact ⟨A, _, d, he, o, hb⟩
theorem blk_ne {w : World} {g g' : Nat} {T T' : TypeId} {cs cs' : Array Value} (h : Blk w g T cs) (k : Blk w g' T' cs') (hT : T ≠ T') : g ≠ g' := by
  rintro rfl
  have e := h.symm.trans k
  injection e with e; injection e with _ e
  exact hT e
theorem MR.on {w w' : World} {base n : Nat} {O : Nat → List Nat} {BL : Nat → List Qs} {a : MA} {HO HB : List Hd} (h : MR w base a HO HB n O BL) (hb : Below w.heap.size w w') : MR w' base a HO HB n O BL :=
  h.keep fun g _ _ hh _ => hb.block g (Array.getElem?_eq_some_iff.1 hh).1
theorem mach0 (W : World) (base g k n d : Nat) (c : Cas) (O : Nat → List Nat) (BL : Nat → List Qs) (tp : Qs → Bool) (B : Option Addr) (b : List Bool) (hm : Blk W g 96 (mRow c ⟨g, ⟨none, 0, 0⟩, ⟨none, 0, 0⟩, ⟨B, n, d⟩, k, ⟨none, 0, 0⟩⟩ (st0 b)))
    (hb : Ow eBool W base 4 B n d b) (hk : MapK W k [] tp) (h1 : base ≤ g) (h2 : base ≤ k) : Mach W base c n O BL tp ⟨g, ⟨none, 0, 0⟩, ⟨none, 0, 0⟩, ⟨B, n, d⟩, k, ⟨none, 0, 0⟩⟩ (st0 b) :=
  ⟨hm, ⟨[], [], ⟨Ow.nil _ _ _, Ow.nil _ _ _, fun i h e => (by simp at e), fun i h e => (by simp at e)⟩⟩, hb, hk, Ow.nil _ _ _, rfl, h1, h2⟩
set_option maxRecDepth 100000 in
set_option maxHeartbeats 6400000 in
theorem mnew_c (c : Cas) (n cc : Nat) (A : Option Addr) (b tr : List Bool) (w : World) (r : Rd eBool w w.heap.size A n cc b) (hc : okCas c) (hn : n ≤ 64) (ht : tr.length = n) (hsz : ∀ p, p < c.p → szOf c p ≤ 512) :
    Calls Try.prog 24 #[.agg (casV c), .slice A n cc] w fun e w' => ∃ a s, e = .returned (.tuple #[.pointer (some ⟨a.g, 0, none⟩), .int .i64 0]) ∧ MC (crs c n tr (dist b tr)) w' w.heap.size a s ∧ Below w.heap.size w w' ∧ Rests (crs c n tr (dist b tr)) s ∧ s.told = [] := by
  have HAD := hide (fun (W : World) (a : MA) (h : MC (crs c n tr (dist b tr)) W w.heap.size a (st0 b)) => advance_c h (crs_ok hc hn ht (dist b tr)) (.inl (st0_ask r.len)))
  have HS := hide (fun W => rsane_c c hc n (by omega) W)
  have HO := hide (fun (p : Nat) (hp : p < c.p) (W : World) => order_c c n p W hc.2.2.2.2 (by have := hc.2.1; omega) (by omega))
  have HCU := hide (fun (p : Nat) (hp : p < c.p) (W : World) => cut2_c c n p W hc (by have := hc.2.1; omega) (by omega) (hsz p hp))
  have HMC := hide (fun (W : World) (a : MA) (h : Mach W w.heap.size c n (ordL c n) (blkL c n) (crs c n tr (dist b tr)).tp a (st0 b)) (h1 : a.O.n = c.p) (h2 : a.B.n = c.p) => (⟨h, h1, h2⟩ : MC (crs c n tr (dist b tr)) W w.heap.size a (st0 b)))
  obtain ⟨C, hC⟩ : ∃ C, C = crs c n tr (dist b tr) := ⟨_, rfl⟩
  rw [← hC] at HAD HMC ⊢
  clear hC
  obtain ⟨tp, htp⟩ : ∃ tp, tp = C.tp := ⟨_, rfl⟩
  rw [← htp] at HMC
  clear htp
  obtain ⟨O, hO⟩ : ∃ O, O = ordL c n := ⟨_, rfl⟩
  obtain ⟨BL, hBL⟩ : ∃ BL, BL = blkL c n := ⟨_, rfl⟩
  rw [← hO, ← hBL] at HMC
  rw [← hO] at HO
  rw [← hBL] at HCU
  have hlen := r.len
  have hmax := r.max
  have hcap := r.cap
  have hpp := hc.2.1
  clear hO hBL hsz ht
  have HRC := hide (fun (W : World) (a : MA) (s : Mst) => (rfl : mRow c a s = mRow c a s))
  obtain ⟨cp, cb, sd⟩ := c
  simp only at hpp
  have hb1 := below_alloc w (.cells (casV ⟨cp, cb, sd⟩) 34)
  have hB1 := Blk.newAt w 34 (casV ⟨cp, cb, sd⟩) w.heap.size rfl
  simp only [casV] at hb1 hB1 HS HO HCU ⊢
  clear hc
  go_enter Try.func24, Try.ntmps24
  go_upto_region 1 with fail
  obtain ⟨wA, hwA⟩ : ∃ x, x = w.alloc (.cells #[.int .i64 (cp : Int), .int .i64 (cb : Int), .int .u64 (sd : Int)] 34) := ⟨_, rfl⟩
  rw [← hwA] at hb1 hB1 ⊢
  obtain ⟨gC, hgC⟩ : ∃ x, x = w.heap.size := ⟨_, rfl⟩
  have HGC := hide hgC
  rw [← hgC] at hB1 ⊢
  clear hwA hgC
  have c0 := hB1.cell 0
  have c1 := hB1.cell 1
  have c2 := hB1.cell 2
  simp only [List.getElem?_toArray, List.getElem?_cons_zero, List.getElem?_cons_succ] at c0 c1 c2
  have HW := hide (And.intro hb1 hB1)
  clear hb1 hB1
  go_upto_region 4 with (go_at_call 53; refine (HS.out _).mono ?_; rintro e w1 ⟨rfl, hb⟩)
  clear c0 c1 c2
  have hB1 := HW.out.2.keep hb
  have hb1 := below_on HW.out.1 hb
  have r1 := r.on hb1
  have HKP := hide (show ∀ W, Below w1.heap.size w1 W → (W.cell? ⟨gC, 0, none⟩ = some (.int .i64 (cp : Int)) ∧ W.cell? ⟨gC, 1, none⟩ = some (.int .i64 (cb : Int)) ∧ W.cell? ⟨gC, 2, none⟩ = some (.int .u64 (sd : Int))) from fun W hW => ⟨(hB1.keep hW).cell 0, (hB1.keep hW).cell 1, (hB1.keep hW).cell 2⟩)
  have H1 := hide (And.intro hb1 (And.intro hB1 r1))
  clear hb hB1 hb1 r1 r
  have HCL := hide (fun (W : World) (h : Below w1.heap.size w1 W) => cloneB_c A n cc b W (H1.out.2.2.on h) (by omega))
  go_cut [7] (fun mv wx => ∃ a', mv = .pointer (some ⟨a'.g, 0, none⟩) ∧ Mach wx gC ⟨cp, cb, sd⟩ n O BL tp a' (st0 b) ∧ a'.O.n = 0 ∧ a'.B.n = 0 ∧ Below gC w wx ∧ Blk wx gC 34 #[.int .i64 (cp : Int), .int .i64 (cb : Int), .int .u64 (sd : Int)])
  case first =>
    have hmm := @run_makeMap Try.prog
    have HD := hide (show Below w1.heap.size w1 w1.drew from below_drewN (Below.refl _ _) 1)
    have HDM := hide (show Below w1.heap.size w1 (w1.alloc (.map #[] 0)).drew from below_drewN (below_alloc w1 (.map #[] 0)) 1)
    go_region_held3 (fun W => W.cell? ⟨gC, 0, none⟩ = some (.int .i64 (cp : Int)) ∧ W.cell? ⟨gC, 1, none⟩ = some (.int .i64 (cb : Int)) ∧ W.cell? ⟨gC, 2, none⟩ = some (.int .u64 (sd : Int))) (first | exact HKP.out _ HD.out | exact HKP.out _ HDM.out | exact HKP.out _ HB2.out | exact HKP.out _ (below_on HB2.out (below_alloc _ _)) | exact HKP.out _ (below_on (below_on HB2.out (below_alloc _ _)) (below_alloc _ _))) ((go_at_call 54; (first | (with_reducible refine (HCL.out _ HD.out).mono ?_; rintro e w2 ⟨B, d, rfl, o2, hb2⟩; have HO2 := hide o2; have HB2 := hide (below_on HD.out hb2); clear o2 hb2) | (with_reducible refine (HCL.out _ HDM.out).mono ?_; rintro e w2 ⟨B, d, rfl, o2, hb2⟩; have HO2 := hide o2; have HB2 := hide (below_on HDM.out hb2); have HBC := hide hb2; clear o2 hb2))))
    all_goals
      go_wp2
      go_meet
      have hz1 : gC ≤ w1.heap.size := Nat.le_of_lt H1.out.2.1.lt
      have hz2 : w1.heap.size ≤ w2.heap.size := HB2.out.size
      have hbM := below_alloc w2 (.map #[] 0)
      first
        | (have hA := below_on HB2.out (below_on hbM (below_alloc _ (.cells #[.bool true, .int .i64 (cp : Int), .int .i64 (cb : Int), .int .u64 (sd : Int), .slice none 0 0, .slice none 0 0, .slice B n d, .map (some w2.heap.size), .slice none 0 0, .int .i64 0, .bool false, .int .i64 0, .int .i64 0, .bool false, .int .i64 0, .int .i64 0, .int .i64 0, .bool false, .int .i64 0, .int .i64 0, .int .i64 0, .bool false] 96)))
           exact ⟨⟨w2.heap.size + 1, ⟨none, 0, 0⟩, ⟨none, 0, 0⟩, ⟨B, n, d⟩, w2.heap.size, ⟨none, 0, 0⟩⟩, rfl,
            mach0 _ gC _ _ n d _ O BL tp B b (Blk.newAt (w2.alloc (.map #[] 0)) _ _ (w2.heap.size + 1) (by simp)) (((HO2.out.mono hz1).alloc _).alloc _) ((MapK.made w2 tp).grown (grownBy_below (below_alloc _ _) none) (by simp)) (by omega) (by omega), rfl, rfl,
            HGC.out ▸ below_on H1.out.1 hA, H1.out.2.1.keep hA⟩)
        | (have hA := below_on HB2.out (below_alloc w2 (.cells #[.bool true, .int .i64 (cp : Int), .int .i64 (cb : Int), .int .u64 (sd : Int), .slice none 0 0, .slice none 0 0, .slice B n d, .map (some w1.heap.size), .slice none 0 0, .int .i64 0, .bool false, .int .i64 0, .int .i64 0, .bool false, .int .i64 0, .int .i64 0, .int .i64 0, .bool false, .int .i64 0, .int .i64 0, .int .i64 0, .bool false] 96))
           exact ⟨⟨w2.heap.size, ⟨none, 0, 0⟩, ⟨none, 0, 0⟩, ⟨B, n, d⟩, w1.heap.size, ⟨none, 0, 0⟩⟩, rfl,
            mach0 _ gC _ _ n d _ O BL tp B b (Blk.newAt w2 _ _ w2.heap.size rfl) ((HO2.out.mono (by simp; omega)).alloc _) (((MapK.made w1 tp).grown (grownBy_drew (grownBy_below (Below.refl _ _) none)) (by simp)).grown (grownBy_below (below_on HBC.out (below_alloc _ _)) none) (by simp)) (by omega) (by omega), rfl, rfl,
            HGC.out ▸ below_on H1.out.1 hA, H1.out.2.1.keep hA⟩)
  case rest =>
    obtain ⟨a0, rfl, hM0, ho0, hb0, hbc, hBc⟩ := hcut
    have c0 := hBc.cell 0
    simp only [List.getElem?_toArray, List.getElem?_cons_zero] at c0
    have HC := hide (And.intro hM0 (And.intro hbc hBc))
    have HZ := hide (And.intro ho0 hb0)
    obtain ⟨g, hg⟩ : ∃ q, q = a0.g := ⟨_, rfl⟩
    rw [← hg]
    have HG := hide hg
    clear hM0 hbc hBc ho0 hb0 hg H1 HCL HKP
    go_wp2
    go_loopw [24] (fun iv wr => ∃ (p : Nat) (a : MA), iv = .int .i64 p ∧ p ≤ cp ∧ a.g = g ∧ Mach wr gC ⟨cp, cb, sd⟩ n O BL tp a (st0 b) ∧ a.O.n = p ∧ a.B.n = p ∧ Below gC w wr ∧ Blk wr gC 34 #[.int .i64 (cp : Int), .int .i64 (cb : Int), .int .u64 (sd : Int)]) (fun iv _ => cp - (intOf iv).toNat)
    case atStart => exact ⟨0, a0, rfl, Nat.zero_le _, HG.out.symm, HC.out.1, HZ.out.1, HZ.out.2, HC.out.2.1, HC.out.2.2⟩
    case round =>
      obtain ⟨p, a, rfl, hp, hag, hM, hoN, hbN, hbw, hBw⟩ := hrel
      by_cases hlt : p < cp
      · obtain ⟨HO1, HB1, hr⟩ := hM.r
        have o1 := hr.hO
        have m4 := hM.m.cell 4
        have f4 := hM.m.frozen 4
        simp only [mRow, List.getElem?_toArray, List.getElem?_cons_zero, List.getElem?_cons_succ, hag] at m4
        rw [hag] at f4
        have c0 := hBw.cell 0
        have c1 := hBw.cell 1
        have c2 := hBw.cell 2
        simp only [List.getElem?_toArray, List.getElem?_cons_zero, List.getElem?_cons_succ] at c0 c1 c2
        have hltI : (p : Int) < (cp : Int) := by omega
        have HP := hide (HO.out p hlt)
        rw [hoN] at m4 o1
        have hgl := hM.m.lt
        rw [hag] at hgl
        have hgg := hM.hg
        rw [hag] at hgg
        have hBm : Blk wr g 96 (mRow ⟨cp, cb, sd⟩ a (st0 b)) := hag ▸ hM.m
        have hMB : ∀ W, Below wr.heap.size wr W → W.cell? ⟨g, 4, none⟩ = some (.slice a.O.A p a.O.c) := fun W hW => (hW.cell (p := ⟨g, 4, none⟩) hgl).trans m4
        have HMB := hide hMB
        have HZ8 := hide (show gC ≤ wr.heap.size by omega)
        have HW8 := hide (And.intro hM (And.intro hbw hBw))
        have HO8 := hide (And.intro o1 (And.intro hr hBm))
        have HN8 := hide (And.intro hgg (And.intro (blk_ne hBw hBm (by decide)) (And.intro hoN (And.intro hbN hag))))
        clear hM hbw hBw o1 hr hMB hgl hBm hgg
        go_upto_region 8 with fail
        go_cut [8] (fun pv wx => pv = .int .i64 p ∧ ∃ a', a'.g = g ∧ Mach wx gC ⟨cp, cb, sd⟩ n O BL tp a' (st0 b) ∧ a'.O.n = p + 1 ∧ a'.B.n = p ∧ Below gC w wx ∧ Blk wx gC 34 #[.int .i64 (cp : Int), .int .i64 (cb : Int), .int .u64 (sd : Int)])
        case first =>
          have HD8 := hide (show Below wr.heap.size wr wr.drew from below_drewN (Below.refl _ _) 1)
          go_region_law (first | (refine step_app eHd _ (by rfl) (.tmp 31) (.tmp 37) _ (by rfl) gC 61 (.slice none 0 0) 24 Try.underlying92 eHd_info_o rfl (by omega) _ _ _ _ (by rfl) (HO8.out.1.on (below_on HB4.out (below_alloc w4 _))) _ 1 1 [⟨A4, n, n⟩] (by rfl) _ (Rd.newAt (e := eHd) w4 61 ⟨A4, n, n⟩ #[.slice A4 n n] rfl w4.heap.size rfl) (by omega) (by have h1 := HZ8.out; have h2 := HB4.out.size; simp; omega) ?_; intro A5 c5 w5 o5 hg5 hA5; have b5 := (HO8.out.1.on (below_on HB4.out (below_alloc w4 (.cells #[.slice A4 n n] 61)))).otherB hg5 (by decide) (HO8.out.2.2.keep (below_on HB4.out (below_alloc w4 (.cells #[.slice A4 n n] 61)))); have m5 := b5.cell 4; simp only [mRow, List.getElem?_toArray, List.getElem?_cons_zero, List.getElem?_cons_succ] at m5; have f5 := b5.frozen 4; have HG5 := hide (And.intro hg5 o5); clear hg5 o5 hA5 b5) | (go_simp; go_at_call 55; refine (HP.out _).mono ?_; rintro e w4 ⟨A4, rfl, o4, hb4⟩; have HB4 := hide (below_on HD8.out hb4); have HO4 := hide (show Ow eNat w4 gC 3 A4 n n (O p) from o4.mono (by have := HZ8.out; simp; omega)); have m4b := HMB.out _ HB4.out; have m4c := HMB.out _ (below_on HB4.out (below_alloc w4 (.cells #[.slice A4 n n] 61))); clear o4 hb4))
          all_goals
            go_wp2
            go_meet
            have hbl := below_on HB4.out (below_alloc w4 (.cells #[.slice A4 n n] 61))
            have h8 := HW8.out.1.on hbl
            have r8 := HO8.out.2.1.on hbl
            have o8 := HO4.out.alloc (.cells #[.slice A4 n n] 61)
            obtain ⟨n1, n2, n3, n4, n5⟩ := HN8.out
            rw [← n3] at o8
            have hp8 := h8.pushO r8 (hd := ⟨A4, n, n⟩) rfl o8 HG5.out.2 HG5.out.1
            rw [n5] at hp8
            have hbx := below_app (HW8.out.2.1.trans (hbl.mono HZ8.out)) r8.hO HG5.out.1 (Nat.le_refl _) (by rw [HGC.out]; exact Nat.le_refl _)
            exact ⟨rfl, ⟨g, ⟨A5, p + 1, c5⟩, a.B, a.b, a.k, a.T⟩, rfl, hp8, rfl, n4, hbx.setCell (p := ⟨g, 4, none⟩) n1 _, ((r8.hO.otherB HG5.out.1 (by decide) (HW8.out.2.2.keep hbl)).far n2 _)⟩
        case rest =>
          obtain ⟨rfl, a2, hag2, hM2, hoN2, hbN2, hbw2, hBw2⟩ := hcut
          clear HP HMB HW8 HO8 HN8 HZ8 hag hoN hbN m4 f4 c0 c1 c2
          obtain ⟨HO1, HB1, hr⟩ := hM2.r
          have o1 := hr.hB
          have m4 := hM2.m.cell 5
          have f4 := hM2.m.frozen 5
          simp only [mRow, List.getElem?_toArray, List.getElem?_cons_zero, List.getElem?_cons_succ, hag2] at m4
          rw [hag2] at f4
          have c0 := hBw2.cell 0
          have c1 := hBw2.cell 1
          have c2 := hBw2.cell 2
          simp only [List.getElem?_toArray, List.getElem?_cons_zero, List.getElem?_cons_succ] at c0 c1 c2
          have HP := hide (HCU.out p hlt)
          rw [hbN2] at m4 o1
          have hgl := hM2.m.lt
          rw [hag2] at hgl
          have hgg := hM2.hg
          rw [hag2] at hgg
          have hBm : Blk wc g 96 (mRow ⟨cp, cb, sd⟩ a2 (st0 b)) := hag2 ▸ hM2.m
          have hMB : ∀ W, Below wc.heap.size wc W → W.cell? ⟨g, 5, none⟩ = some (.slice a2.B.A p a2.B.c) := fun W hW => (hW.cell (p := ⟨g, 5, none⟩) hgl).trans m4
          have HMB := hide hMB
          have HZ8 := hide (show gC ≤ wc.heap.size by omega)
          have HW8 := hide (And.intro hM2 (And.intro hbw2 hBw2))
          have HO8 := hide (And.intro o1 (And.intro hr hBm))
          have HN8 := hide (And.intro hgg (And.intro (blk_ne hBw2 hBm (by decide)) (And.intro hoN2 (And.intro hbN2 hag2))))
          clear hM2 hbw2 hBw2 o1 hr hMB hgl hBm hgg hag2 hoN2 hbN2
          have HD8 := hide (show Below wc.heap.size wc wc.drew from below_drewN (Below.refl _ _) 1)
          go_upto_region 9 with fail
          go_region_law (first | (refine step_app eHd _ (by rfl) (.tmp 45) (.tmp 51) _ (by rfl) gC 145 (.slice none 0 0) 24 Try.underlying93 eHd_info_b rfl (by omega) _ _ _ _ (by rfl) (HO8.out.1.on (below_on HB4.out (below_alloc w4 _))) _ 1 1 [⟨A4, k4, d4⟩] (by rfl) _ (Rd.newAt (e := eHd) w4 145 ⟨A4, k4, d4⟩ #[.slice A4 k4 d4] rfl w4.heap.size rfl) (by omega) (by have h1 := HZ8.out; have h2 := HB4.out.size; simp; omega) ?_; intro A5 c5 w5 o5 hg5 hA5; have b5 := (HO8.out.1.on (below_on HB4.out (below_alloc w4 (.cells #[.slice A4 k4 d4] 145)))).otherB hg5 (by decide) (HO8.out.2.2.keep (below_on HB4.out (below_alloc w4 (.cells #[.slice A4 k4 d4] 145)))); have m5 := b5.cell 5; simp only [mRow, List.getElem?_toArray, List.getElem?_cons_zero, List.getElem?_cons_succ] at m5; have f5 := b5.frozen 5; have HG5 := hide (And.intro hg5 o5); clear hg5 o5 hA5 b5) | (go_simp; go_at_call 56; refine (HP.out _).mono ?_; rintro e w4 ⟨A4, k4, d4, rfl, o4, hb4⟩; have HB4 := hide (below_on HD8.out hb4); have HO4 := hide (show Ow eQs w4 gC 45 A4 k4 d4 (BL p) from o4.mono (by have := HZ8.out; simp; omega)); have m4b := HMB.out _ HB4.out; have m4c := HMB.out _ (below_on HB4.out (below_alloc w4 (.cells #[.slice A4 k4 d4] 145))); clear o4 hb4))
          all_goals
            go_wp2
            go_roundw
            case rel =>
              have hbl := below_on HB4.out (below_alloc w4 (.cells #[.slice A4 k4 d4] 145))
              have h8 := HW8.out.1.on hbl
              have r8 := HO8.out.2.1.on hbl
              have o8 := HO4.out.alloc (.cells #[.slice A4 k4 d4] 145)
              obtain ⟨n1, n2, n3, n4, n5⟩ := HN8.out
              rw [← n4] at o8
              have hp8 := h8.pushB r8 (hd := ⟨A4, k4, d4⟩) o8 HG5.out.2 HG5.out.1
              rw [n5] at hp8
              have hbx := below_app (HW8.out.2.1.trans (hbl.mono HZ8.out)) r8.hB HG5.out.1 (Nat.le_refl _) (by rw [HGC.out]; exact Nat.le_refl _)
              exact ⟨p + 1, ⟨g, a2.O, ⟨A5, p + 1, c5⟩, a2.b, a2.k, a2.T⟩, by go_num, by omega, rfl, hp8, n3, rfl, hbx.setCell (p := ⟨g, 5, none⟩) n1 _, ((r8.hB.otherB HG5.out.1 (by decide) (HW8.out.2.2.keep hbl)).far n2 _)⟩
            case measure => simp [intOf] <;> omega
      · have hpe : p = cp := by omega
        have hltI : ¬ ((p : Int) < (cp : Int)) := by omega
        have HM := hide (HMC.out wr a (HGC.out ▸ hM) (by rw [hoN]; exact hpe) (by rw [hbN]; exact hpe))
        have HBW := hide hbw
        have KA := HAD.out wr a HM.out
        rw [hag] at KA
        have HKA := hide KA
        have HAG := hide hag
        clear hM hoN hbN hBw hbw KA
        go_wp2_with (go_at_call 57; refine HKA.out.mono ?_; rintro e w9 ⟨rfl, s9, hm9, hb9, ht9, hr9⟩)
        go_ret2
        exact ⟨a, s9, (by rw [HAG.out]; rfl), hm9, (HGC.out ▸ HBW.out : Below w.heap.size w wr).trans hb9, hr9, ht9⟩
end Go.Proofs.Ytchhkokpjdkkiaa
