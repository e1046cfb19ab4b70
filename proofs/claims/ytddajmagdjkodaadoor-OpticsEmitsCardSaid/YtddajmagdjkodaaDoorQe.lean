/- Contract of the reference's Agree. -/
import Derived.Test.YtddajmagdjkodaaDoorQd
namespace Go.Proofs.YtddajmagdjkodaaDoor
open Go.RowKit

set_option maxRecDepth 100000 in
set_option maxHeartbeats 6400000 in
theorem ragree_c (A : Option Addr) (n c : Nat) (L : List Pu) (A' : Option Addr) (m d : Nat) (C : List Ck) (sh : Int) (w : World) (s : Rd ePu w w.heap.size A n c L) (t : Rd eCk w w.heap.size A' m d C) :
    Calls Tryd.prog 20 #[.slice A n c, .slice A' m d, .int .i64 sh] w (SAgree L C sh w) := by
  have hl := s.len
  have hm := s.max
  have hcap := s.cap
  have tl := t.len
  have tm := t.max
  have tcap := t.cap
  have HL := hide hl
  have TL := hide tl
  clear hl tl
  by_cases h1 : sh < -16 ∨ 16 < sh
  · have H1 := hide h1
    have hsf := (rshiftable_c sh)
    have hdd : decide (-16 ≤ sh ∧ sh ≤ 16) = false := by simpa using (by omega : ¬(-16 ≤ sh ∧ sh ≤ 16))
    rw [hdd] at hsf
    have HS := hide hsf
    clear h1 hsf hdd
    go_enter Tryd.func20, Tryd.ntmps20
    go_wp2_with (go_at_call 62; refine (HS.out _).mono ?_; rintro e w' ⟨rfl, rfl⟩)
    go_ret3
    exact SAgree.err (agreeErr_shift H1.out) (by omega) (Below.refl _ _)
  have hS : Hid (¬(sh < -16 ∨ 16 < sh)) := h1
  have hsf := (rshiftable_c sh)
  have hdd : decide (-16 ≤ sh ∧ sh ≤ 16) = true := by simpa using (by omega : (-16 ≤ sh ∧ sh ≤ 16))
  rw [hdd] at hsf
  have HS := hide hsf
  have h1a : -16 ≤ sh := by omega
  have h1b : sh ≤ 16 := by omega
  clear h1 hsf hdd
  by_cases h3 : 4096 < (n : Int)
  · go_enter Tryd.func20, Tryd.ntmps20
    go_wp2_with (go_at_call 62; refine (HS.out _).mono ?_; rintro e w' ⟨rfl, rfl⟩)
    go_ret3
    exact SAgree.err (agreeErr_many hS.out (.inl (by have := HL.out; omega))) (by omega) (Below.refl _ _)
  by_cases h4 : 4096 < (m : Int)
  · go_enter Tryd.func20, Tryd.ntmps20
    go_wp2_with (go_at_call 62; refine (HS.out _).mono ?_; rintro e w' ⟨rfl, rfl⟩)
    go_ret3
    exact SAgree.err (agreeErr_many hS.out (.inr (by have := TL.out; omega))) (by omega) (Below.refl _ _)
  have hM : Hid (¬(4096 < L.length ∨ 4096 < C.length)) := by have := HL.out; have := TL.out; show ¬ _; omega
  have hv := rpulses_c A n c L w s
  by_cases h5 : L.all okPu = true
  · rw [pulsesErr_ok (by have := HL.out; omega) h5] at hv
    have HV := hide hv
    have H5 := hide h5
    clear hv h5
    go_enter Tryd.func20, Tryd.ntmps20
    go_wp2_with (first | (go_at_call 62; refine (HS.out _).mono ?_; rintro e w' ⟨rfl, rfl⟩) | (go_at_call 63; refine HV.out.mono ?_; rintro e w1 ⟨rfl, hb1⟩))
    have s1 := s.on hb1
    have t1 := t.on hb1
    clear s t HV HS
    go_loopw [9] (fun iv wr => ∃ k : Nat, k ≤ m ∧ iv = .int .i64 k ∧ (C.take k).all okCk = true ∧ Below w1.heap.size w1 wr) (fun iv _ => m - (intOf iv).toNat)
    case atStart => exact ⟨0, by omega, rfl, by simp, Below.refl _ _⟩
    case round =>
      obtain ⟨k, hk, rfl, hall, hbw⟩ := hrel
      have HA := hide hall
      clear hall
      by_cases hlt : k < m
      · obtain ⟨b, off, x, rfl, hb, hx, hc⟩ := (t1.below hbw).get hlt
        have c0 := hc 0 _ rfl
        have c1 := hc 1 _ rfl
        simp only [eCk, Nat.add_zero] at c0 c1
        have HX := hide hx
        clear hc hx
        have htr := rtruth_c x.b
        by_cases hxb : x.b = 0 ∨ x.b = 1
        · rw [decide_eq_true hxb] at htr
          have HT := hide htr
          have HXB := hide hxb
          clear htr hxb
          go_wp2_with (go_at_call 64; refine (HT.out _).mono ?_; rintro e w' ⟨rfl, rfl⟩)
          all_goals first
            | (go_roundw
               case rel => exact ⟨k + 1, by omega, by go_num, all_take_succ HA.out HX.out (okCk_mk (by have := HXB.out; omega) (by have := HXB.out; omega) (by omega) (by omega)), hbw⟩
               case measure => simp [intOf] <;> omega)
            | (go_ret3
               exact SAgree.err (agreeErr_click hS.out hM.out H5.out (by rw [all_false HX.out (okCk_not (by omega))]; simp)) (by omega) (below_on hb1 hbw))
        · rw [decide_eq_false hxb] at htr
          have HT := hide htr
          have HXB := hide hxb
          clear htr hxb
          go_wp2_with (go_at_call 64; refine (HT.out _).mono ?_; rintro e w' ⟨rfl, rfl⟩)
          go_ret3
          exact SAgree.err (agreeErr_click hS.out hM.out H5.out (by rw [all_false HX.out (okCk_not (by have := HXB.out; omega))]; simp)) (by omega) (below_on hb1 hbw)
      · have hallC := all_whole HA.out TL.out hlt
        have HC := hide hallC
        clear hallC HA
        have s2 := s1.on hbw
        have t2 := t1.on hbw
        have hb2 := below_on hb1 hbw
        clear s1 t1 hbw hb1
        go_wp2
        obtain ⟨w2, rfl⟩ : ∃ wo : World, wo = wr := ⟨_, rfl⟩
        have hS2 := hS
        go_loopw [12, 10, 11] (fun iv av bv wr => ∃ (k : Nat) (A1 : Option Addr) (c1 : Nat) (A2 : Option Addr) (c2 : Nat), k ≤ n ∧ iv = .int .i64 k ∧ av = .slice A1 (slotsOf (agr C sh) L k).length c1 ∧ bv = .slice A2 (slotsOf (dif C sh) L k).length c2 ∧
            Ow eNat wr w2.heap.size 3 A1 (slotsOf (agr C sh) L k).length c1 (slotsOf (agr C sh) L k) ∧ Ow eNat wr w2.heap.size 3 A2 (slotsOf (dif C sh) L k).length c2 (slotsOf (dif C sh) L k) ∧
            Apart A1 A2 ∧ Below w2.heap.size w2 wr) (fun iv _ _ _ => n - (intOf iv).toNat)
        case atStart => exact ⟨0, none, 0, none, 0, by omega, rfl, rfl, rfl, Ow.nil _ _ _, Ow.nil _ _ _, Apart.nil _, Below.refl _ _⟩
        case round =>
          obtain ⟨k, A1, c1, A2, c2, hk, rfl, rfl, rfl, o1, o2, hne, hbw⟩ := hrel
          have hq1 := slotsOf_len (agr C sh) L k
          have hq2 := slotsOf_len (dif C sh) L k
          by_cases hlt : k < n
          · obtain ⟨b, off, x, rfl, hb, hx, hc⟩ := (s2.below hbw).get hlt
            have x0 := hc 0 _ rfl
            have x1 := hc 1 _ rfl
            have x4 := hc 4 _ rfl
            simp only [ePu, Nat.add_zero] at x0 x1 x4
            have HX := hide hx
            clear hc hx
            obtain ⟨xb, xbit, xcl, xph, xseen⟩ := x
            simp only at x0 x1 x4
            have hk0 : (0 : Int) ≤ (k : Int) := by omega
            have hk1 : (k : Int) < (n : Int) := by omega
            by_cases hj0 : (k : Int) + sh < 0
            · have hd : decide ((k : Int) + sh < 0) = true := by simpa using hj0
              have hn0 := agr_neg (C := C) (x := ⟨xb, xbit, xcl, xph, xseen⟩) hj0
              have HN := hide hn0
              clear hn0
              go_wp2
              go_quiet (fail)
              go_wp2
              go_roundw
              case rel => exact ⟨k + 1, A1, c1, A2, c2, by omega, by go_num, by rw [slotsOf_no HX.out HN.out], by rw [slotsOf_no HX.out (dif_no HN.out)], by rw [slotsOf_no HX.out HN.out]; exact o1.drewN _, by rw [slotsOf_no HX.out (dif_no HN.out)]; exact o2.drewN _, hne, below_drewN hbw _⟩
              case measure => simp [intOf] <;> omega
            obtain ⟨j, hj⟩ : ∃ j : Nat, (k : Int) + sh = (j : Int) := ⟨((k : Int) + sh).toNat, by omega⟩
            have hd : decide ((j : Int) < 0) = false := by simp
            by_cases hjm : m ≤ j
            · have hd1 : decide ((m : Int) ≤ (j : Int)) = true := by simpa using hjm
              have hd2 : decide (m ≤ j) = true := by simpa using hjm
              have hn0 := agr_far (C := C) (x := ⟨xb, xbit, xcl, xph, xseen⟩) TL.out (show (m : Int) ≤ (k : Int) + sh by omega)
              have HN := hide hn0
              clear hn0
              go_wp2
              go_quiet (fail)
              go_wp2
              go_roundw
              case rel => exact ⟨k + 1, A1, c1, A2, c2, by omega, by go_num, by rw [slotsOf_no HX.out HN.out], by rw [slotsOf_no HX.out (dif_no HN.out)], by rw [slotsOf_no HX.out HN.out]; exact o1.drewN _, by rw [slotsOf_no HX.out (dif_no HN.out)]; exact o2.drewN _, hne, below_drewN hbw _⟩
              case measure => simp [intOf] <;> omega
            have hd1 : decide ((m : Int) ≤ (j : Int)) = false := by simpa using hjm
            have hd2 : decide (m ≤ j) = false := by simpa using hjm
            obtain ⟨b', off', y, rfl, hb', hy, hc'⟩ := (t2.below hbw).get (show j < m by omega)
            have y0 := hc' 0 _ rfl
            have y1 := hc' 1 _ rfl
            simp only [eCk, Nat.add_zero] at y0 y1
            obtain ⟨yb, yk⟩ := y
            have ha := agr_at (x := ⟨xb, xbit, xcl, xph, xseen⟩) hj hy
            have hdif := dif_at (x := ⟨xb, xbit, xcl, xph, xseen⟩) hj hy
            simp only at y0 y1 ha hdif
            have HA2 := hide ha
            have HD2 := hide hdif
            clear hc' hy ha hdif
            have hi0 : (0 : Int) ≤ (j : Int) := by omega
            have hi1 : (j : Int) < (m : Int) := by omega
            cases xseen
            · clear HD2
              have hn0 : agr C sh k ⟨xb, xbit, xcl, xph, false⟩ = false := by rw [HA2.out]; rfl
              have HN := hide hn0
              clear hn0
              go_wp2
              go_quiet (fail)
              go_wp2
              go_roundw
              case rel => exact ⟨k + 1, A1, c1, A2, c2, by omega, by go_num, by rw [slotsOf_no HX.out HN.out], by rw [slotsOf_no HX.out (dif_no HN.out)], by rw [slotsOf_no HX.out HN.out]; exact o1.drewN _, by rw [slotsOf_no HX.out (dif_no HN.out)]; exact o2.drewN _, hne, below_drewN hbw _⟩
              case measure => simp [intOf] <;> omega
            by_cases hbb : yb = xb
            · subst hbb
              have hdb : (yb != yb) = false := by simp
              by_cases hk1 : yk = 1
              · subst hk1
                cases xbit
                · -- the bit is 0
                  have ht : agr C sh k ⟨yb, false, xcl, xph, true⟩ = true := by rw [HA2.out]; simp
                  have ht2 : dif C sh k ⟨yb, false, xcl, xph, true⟩ = false := by rw [HD2.out ht]; rfl
                  have HN := hide ht
                  have HN2 := hide ht2
                  clear ht ht2 HA2 HD2
                  go_wp2
                  go_quiet (fail)
                  go_wp2_with (at_builtin; refine wl_app eNat _ rfl (.tmp 111) (.tmp 113) _ rfl w2.heap.size 3 (.int .i64 0) 8 Tryd.underlying26 info_int rfl (by omega) _ _ _ _ (by rfl) ((o1.drewN nq).alloc _) _ 1 1 [k] (by rfl) _ (Rd.newAt _ _ k _ rfl _ (by simp)) (by omega) (by have := hbw.size; simp; omega) ?_; intro A3 c3 w3 o3 hg3 hA3; refine Hid.out ?_)
                  refine hide ?_
                  have hbz := below_app ((below_drewN hbw nq).alloc (by have := hbw.size; simp; omega) _) ((o1.drewN nq).alloc _) hg3 (Nat.le_refl _) (Nat.le_refl _)
                  have hne3 := hne.app hA3 ((o2.drewN nq).alloc _)
                  have o2' := ((o2.drewN nq).alloc _).app hg3 hne.symm
                  have x1' : w3.cell? ⟨b, off + k * 5 + 1, none⟩ = some (.bool false) := (hbz.cell (p := ⟨b, _, none⟩) hb).trans (((hbw.cell (p := ⟨b, _, none⟩) hb).symm).trans x1)
                  have y1' : w3.cell? ⟨b', off' + j * 2 + 1, none⟩ = some (.int .i64 1) := (hbz.cell (p := ⟨b', _, none⟩) hb').trans (((hbw.cell (p := ⟨b', _, none⟩) hb').symm).trans y1)
                  clear o1 o2 hne x0 x1 x4 y0 y1
                  go_wp2
                  go_quiet (fail)
                  go_wp2
                  go_roundw
                  case rel => exact ⟨k + 1, A3, c3, A2, c2, by omega, by go_num, by rw [slotsOf_yes HX.out HN.out, List.length_append]; rfl, by rw [slotsOf_no HX.out HN2.out], by rw [slotsOf_yes HX.out HN.out, List.length_append]; exact o3.drewN _, by rw [slotsOf_no HX.out HN2.out]; exact o2'.drewN _, hne3, below_drewN hbz _⟩
                  case measure => simp [intOf] <;> omega
                · -- the bit is 1
                  have ht : agr C sh k ⟨yb, true, xcl, xph, true⟩ = true := by rw [HA2.out]; simp
                  have ht2 : dif C sh k ⟨yb, true, xcl, xph, true⟩ = true := by rw [HD2.out ht]; rfl
                  have HN := hide ht
                  have HN2 := hide ht2
                  clear ht ht2 HA2 HD2
                  go_wp2
                  go_quiet (fail)
                  go_wp2_with (at_builtin; refine wl_app eNat _ rfl (.tmp 111) (.tmp 113) _ rfl w2.heap.size 3 (.int .i64 0) 8 Tryd.underlying26 info_int rfl (by omega) _ _ _ _ (by rfl) ((o1.drewN nq).alloc _) _ 1 1 [k] (by rfl) _ (Rd.newAt _ _ k _ rfl _ (by simp)) (by omega) (by have := hbw.size; simp; omega) ?_; intro A3 c3 w3 o3 hg3 hA3; refine Hid.out ?_)
                  refine hide ?_
                  have hbz := below_app ((below_drewN hbw nq).alloc (by have := hbw.size; simp; omega) _) ((o1.drewN nq).alloc _) hg3 (Nat.le_refl _) (Nat.le_refl _)
                  have hne3 := hne.app hA3 ((o2.drewN nq).alloc _)
                  have o2' := ((o2.drewN nq).alloc _).app hg3 hne.symm
                  have x1' : w3.cell? ⟨b, off + k * 5 + 1, none⟩ = some (.bool true) := (hbz.cell (p := ⟨b, _, none⟩) hb).trans (((hbw.cell (p := ⟨b, _, none⟩) hb).symm).trans x1)
                  have y1' : w3.cell? ⟨b', off' + j * 2 + 1, none⟩ = some (.int .i64 1) := (hbz.cell (p := ⟨b', _, none⟩) hb').trans (((hbw.cell (p := ⟨b', _, none⟩) hb').symm).trans y1)
                  clear o1 o2 hne x0 x1 x4 y0 y1
                  go_wp2
                  go_quiet (fail)
                  go_wp2_with (at_builtin; refine wl_app eNat _ rfl (.tmp 127) (.tmp 129) _ rfl w2.heap.size 3 (.int .i64 0) 8 Tryd.underlying26 info_int rfl (by omega) _ _ _ _ (by rfl) ((o2'.drewN nq).alloc _) _ 1 1 [k] (by rfl) _ (Rd.newAt _ _ k _ rfl _ (by simp)) (by omega) (by have := hbz.size; simp; omega) ?_; intro A4 c4 w4 o4 hg4 hA4)
                  go_roundw
                  case rel => exact ⟨k + 1, A3, c3, A4, c4, by omega, by go_num, by rw [slotsOf_yes HX.out HN.out, List.length_append]; rfl, by rw [slotsOf_yes HX.out HN2.out, List.length_append]; rfl, by rw [slotsOf_yes HX.out HN.out, List.length_append]; exact ((o3.drewN nq).alloc _).app hg4 hne3, by rw [slotsOf_yes HX.out HN2.out, List.length_append]; exact o4, (hne3.symm.app hA4 ((o3.drewN nq).alloc _)).symm, below_app ((below_drewN hbz nq).alloc (by have := hbz.size; simp; omega) _) ((o2'.drewN nq).alloc _) hg4 (Nat.le_refl _) (Nat.le_refl _)⟩
                  case measure => simp [intOf] <;> omega
              by_cases hk2 : yk = 2
              · subst hk2
                cases xbit
                · -- the bit is 0
                  have ht : agr C sh k ⟨yb, false, xcl, xph, true⟩ = true := by rw [HA2.out]; simp
                  have ht2 : dif C sh k ⟨yb, false, xcl, xph, true⟩ = true := by rw [HD2.out ht]; rfl
                  have HN := hide ht
                  have HN2 := hide ht2
                  clear ht ht2 HA2 HD2
                  go_wp2
                  go_quiet (fail)
                  go_wp2_with (at_builtin; refine wl_app eNat _ rfl (.tmp 111) (.tmp 113) _ rfl w2.heap.size 3 (.int .i64 0) 8 Tryd.underlying26 info_int rfl (by omega) _ _ _ _ (by rfl) ((o1.drewN nq).alloc _) _ 1 1 [k] (by rfl) _ (Rd.newAt _ _ k _ rfl _ (by simp)) (by omega) (by have := hbw.size; simp; omega) ?_; intro A3 c3 w3 o3 hg3 hA3; refine Hid.out ?_)
                  refine hide ?_
                  have hbz := below_app ((below_drewN hbw nq).alloc (by have := hbw.size; simp; omega) _) ((o1.drewN nq).alloc _) hg3 (Nat.le_refl _) (Nat.le_refl _)
                  have hne3 := hne.app hA3 ((o2.drewN nq).alloc _)
                  have o2' := ((o2.drewN nq).alloc _).app hg3 hne.symm
                  have x1' : w3.cell? ⟨b, off + k * 5 + 1, none⟩ = some (.bool false) := (hbz.cell (p := ⟨b, _, none⟩) hb).trans (((hbw.cell (p := ⟨b, _, none⟩) hb).symm).trans x1)
                  have y1' : w3.cell? ⟨b', off' + j * 2 + 1, none⟩ = some (.int .i64 2) := (hbz.cell (p := ⟨b', _, none⟩) hb').trans (((hbw.cell (p := ⟨b', _, none⟩) hb').symm).trans y1)
                  clear o1 o2 hne x0 x1 x4 y0 y1
                  go_wp2
                  go_quiet (fail)
                  go_wp2_with (at_builtin; refine wl_app eNat _ rfl (.tmp 127) (.tmp 129) _ rfl w2.heap.size 3 (.int .i64 0) 8 Tryd.underlying26 info_int rfl (by omega) _ _ _ _ (by rfl) ((o2'.drewN nq).alloc _) _ 1 1 [k] (by rfl) _ (Rd.newAt _ _ k _ rfl _ (by simp)) (by omega) (by have := hbz.size; simp; omega) ?_; intro A4 c4 w4 o4 hg4 hA4)
                  go_roundw
                  case rel => exact ⟨k + 1, A3, c3, A4, c4, by omega, by go_num, by rw [slotsOf_yes HX.out HN.out, List.length_append]; rfl, by rw [slotsOf_yes HX.out HN2.out, List.length_append]; rfl, by rw [slotsOf_yes HX.out HN.out, List.length_append]; exact ((o3.drewN nq).alloc _).app hg4 hne3, by rw [slotsOf_yes HX.out HN2.out, List.length_append]; exact o4, (hne3.symm.app hA4 ((o3.drewN nq).alloc _)).symm, below_app ((below_drewN hbz nq).alloc (by have := hbz.size; simp; omega) _) ((o2'.drewN nq).alloc _) hg4 (Nat.le_refl _) (Nat.le_refl _)⟩
                  case measure => simp [intOf] <;> omega
                · -- the bit is 1
                  have ht : agr C sh k ⟨yb, true, xcl, xph, true⟩ = true := by rw [HA2.out]; simp
                  have ht2 : dif C sh k ⟨yb, true, xcl, xph, true⟩ = false := by rw [HD2.out ht]; rfl
                  have HN := hide ht
                  have HN2 := hide ht2
                  clear ht ht2 HA2 HD2
                  go_wp2
                  go_quiet (fail)
                  go_wp2_with (at_builtin; refine wl_app eNat _ rfl (.tmp 111) (.tmp 113) _ rfl w2.heap.size 3 (.int .i64 0) 8 Tryd.underlying26 info_int rfl (by omega) _ _ _ _ (by rfl) ((o1.drewN nq).alloc _) _ 1 1 [k] (by rfl) _ (Rd.newAt _ _ k _ rfl _ (by simp)) (by omega) (by have := hbw.size; simp; omega) ?_; intro A3 c3 w3 o3 hg3 hA3; refine Hid.out ?_)
                  refine hide ?_
                  have hbz := below_app ((below_drewN hbw nq).alloc (by have := hbw.size; simp; omega) _) ((o1.drewN nq).alloc _) hg3 (Nat.le_refl _) (Nat.le_refl _)
                  have hne3 := hne.app hA3 ((o2.drewN nq).alloc _)
                  have o2' := ((o2.drewN nq).alloc _).app hg3 hne.symm
                  have x1' : w3.cell? ⟨b, off + k * 5 + 1, none⟩ = some (.bool true) := (hbz.cell (p := ⟨b, _, none⟩) hb).trans (((hbw.cell (p := ⟨b, _, none⟩) hb).symm).trans x1)
                  have y1' : w3.cell? ⟨b', off' + j * 2 + 1, none⟩ = some (.int .i64 2) := (hbz.cell (p := ⟨b', _, none⟩) hb').trans (((hbw.cell (p := ⟨b', _, none⟩) hb').symm).trans y1)
                  clear o1 o2 hne x0 x1 x4 y0 y1
                  go_wp2
                  go_quiet (fail)
                  go_wp2
                  go_roundw
                  case rel => exact ⟨k + 1, A3, c3, A2, c2, by omega, by go_num, by rw [slotsOf_yes HX.out HN.out, List.length_append]; rfl, by rw [slotsOf_no HX.out HN2.out], by rw [slotsOf_yes HX.out HN.out, List.length_append]; exact o3.drewN _, by rw [slotsOf_no HX.out HN2.out]; exact o2'.drewN _, hne3, below_drewN hbz _⟩
                  case measure => simp [intOf] <;> omega
              have hq1 : (yk != 1) = true := by simpa using hk1
              have hq2 : (yk != 2) = true := by simpa using hk2
              have hn0 : agr C sh k ⟨yb, xbit, xcl, xph, true⟩ = false := by rw [HA2.out]; simp [hk1, hk2]
              clear HA2 HD2 hk1 hk2
              have HN := hide hn0
              clear hn0
              go_wp2
              go_quiet (fail)
              go_wp2
              go_roundw
              case rel => exact ⟨k + 1, A1, c1, A2, c2, by omega, by go_num, by rw [slotsOf_no HX.out HN.out], by rw [slotsOf_no HX.out (dif_no HN.out)], by rw [slotsOf_no HX.out HN.out]; exact o1.drewN _, by rw [slotsOf_no HX.out (dif_no HN.out)]; exact o2.drewN _, hne, below_drewN hbw _⟩
              case measure => simp [intOf] <;> omega
            · have hdb : (yb != xb) = true := by simpa using hbb
              have hdb2 : (xb != yb) = true := by simpa using fun h => hbb h.symm
              have hn0 : agr C sh k ⟨xb, xbit, xcl, xph, true⟩ = false := by rw [HA2.out, decide_eq_false hbb]; rfl
              clear HA2 HD2
              have HN := hide hn0
              clear hn0
              go_wp2
              go_quiet (fail)
              go_wp2
              go_roundw
              case rel => exact ⟨k + 1, A1, c1, A2, c2, by omega, by go_num, by rw [slotsOf_no HX.out HN.out], by rw [slotsOf_no HX.out (dif_no HN.out)], by rw [slotsOf_no HX.out HN.out]; exact o1.drewN _, by rw [slotsOf_no HX.out (dif_no HN.out)]; exact o2.drewN _, hne, below_drewN hbw _⟩
              case measure => simp [intOf] <;> omega
          · have hL : k = L.length := by have := HL.out; omega
            go_wp2
            go_ret3
            subst hL
            exact SAgree.ok (agreeErr_ok hS.out hM.out H5.out HC.out) o1.rd o2.rd (below_on hb2 hbw)
  · have h6 : pulsesErr L = 2 := by unfold pulsesErr; rw [if_neg (by have := HL.out; omega), if_neg h5]
    rw [h6] at hv
    have HV := hide hv
    have H5 := hide h5
    clear hv h5 h6
    go_enter Tryd.func20, Tryd.ntmps20
    go_wp2_with (first | (go_at_call 62; refine (HS.out _).mono ?_; rintro e w' ⟨rfl, rfl⟩) | (go_at_call 63; refine HV.out.mono ?_; rintro e w1 ⟨rfl, hb1⟩))
    go_ret3
    exact SAgree.err (agreeErr_pulse hS.out hM.out H5.out) (by omega) hb1
end Go.Proofs.YtddajmagdjkodaaDoor
