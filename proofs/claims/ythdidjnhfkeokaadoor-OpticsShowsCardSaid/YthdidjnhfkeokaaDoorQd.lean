/- Contract of optics.Agree. -/
import Derived.Test.YthdidjnhfkeokaaDoorQb
namespace Go.Proofs.YthdidjnhfkeokaaDoor
open Go.RowKit

/-- What Agree returns. -/
def SAgree (L : List Pu) (C : List Ck) (sh : Int) (w : World) (e : Ending) (w' : World) : Prop :=
  ∃ A1 n1 c1 A2 n2 c2, e = .returned (.tuple #[.slice A1 n1 c1, .slice A2 n2 c2, .int .i64 (agreeErr L C sh)]) ∧ Rd eNat w' w'.heap.size A1 n1 c1 (agreeSame L C sh) ∧ Rd eNat w' w'.heap.size A2 n2 c2 (agreeWrong L C sh) ∧ Below w.heap.size w w'
theorem SAgree.err {L : List Pu} {C : List Ck} {sh err : Int} {w w' : World} (h : agreeErr L C sh = err) (h0 : err ≠ 0) (hb : Below w.heap.size w w') : SAgree L C sh w (.returned (.tuple #[.slice none 0 0, .slice none 0 0, .int .i64 err])) w' := by
  refine ⟨none, 0, 0, none, 0, 0, by rw [h], ?_, ?_, hb⟩
  · unfold agreeSame; rw [if_neg (by omega)]; exact Rd.nil _ _ _ _ (by omega)
  · unfold agreeWrong; rw [if_neg (by omega)]; exact Rd.nil _ _ _ _ (by omega)
theorem SAgree.ok {L : List Pu} {C : List Ck} {sh : Int} {w w' : World} {A1 A2 : Option Addr} {n1 c1 n2 c2 : Nat} (h : agreeErr L C sh = 0) (s1 : Rd eNat w' w'.heap.size A1 n1 c1 (slotsOf (agr C sh) L L.length)) (s2 : Rd eNat w' w'.heap.size A2 n2 c2 (slotsOf (dif C sh) L L.length)) (hb : Below w.heap.size w w') :
    SAgree L C sh w (.returned (.tuple #[.slice A1 n1 c1, .slice A2 n2 c2, .int .i64 0])) w' := by
  refine ⟨A1, n1, c1, A2, n2, c2, by rw [h], ?_, ?_, hb⟩
  · unfold agreeSame; rw [if_pos h]; exact s1
  · unfold agreeWrong; rw [if_pos h]; exact s2
theorem agreeErr_shift {L : List Pu} {C : List Ck} {sh : Int} (h : sh < -16 ∨ 16 < sh) : agreeErr L C sh = 3 := by unfold agreeErr; rw [if_pos h]
theorem agreeErr_many {L : List Pu} {C : List Ck} {sh : Int} (h : ¬(sh < -16 ∨ 16 < sh)) (h2 : 4096 < L.length ∨ 4096 < C.length) : agreeErr L C sh = 5 := by unfold agreeErr; rw [if_neg h, if_pos h2]
theorem agreeErr_pulse {L : List Pu} {C : List Ck} {sh : Int} (h : ¬(sh < -16 ∨ 16 < sh)) (h2 : ¬(4096 < L.length ∨ 4096 < C.length)) (h3 : ¬ L.all okPu = true) : agreeErr L C sh = 2 := by unfold agreeErr; rw [if_neg h, if_neg h2, if_neg h3]
theorem agreeErr_click {L : List Pu} {C : List Ck} {sh : Int} (h : ¬(sh < -16 ∨ 16 < sh)) (h2 : ¬(4096 < L.length ∨ 4096 < C.length)) (h3 : L.all okPu = true) (h4 : ¬ C.all okCk = true) : agreeErr L C sh = 2 := by unfold agreeErr; rw [if_neg h, if_neg h2, if_pos h3, if_neg h4]
theorem agreeErr_none {L : List Pu} {C : List Ck} {sh : Int} (h : ¬(sh < -16 ∨ 16 < sh)) (h2 : ¬(4096 < L.length ∨ 4096 < C.length)) (h3 : L.all okPu = true) (h4 : C.all okCk = true) : agreeErr L C sh = 0 := by unfold agreeErr; rw [if_neg h, if_neg h2, if_pos h3, if_pos h4]
theorem agr_neg {C : List Ck} {sh : Int} {k : Nat} {x : Pu} (h : (k : Int) + sh < 0) : agr C sh k x = false := by
  unfold agr; rw [decide_eq_false (by omega)]; rfl
theorem agr_far {C : List Ck} {sh : Int} {k m : Nat} {x : Pu} (hl : C.length = m) (h : (m : Int) ≤ (k : Int) + sh) : agr C sh k x = false := by
  unfold agr; rw [List.getElem?_eq_none (by omega)]; simp
theorem agr_at {C : List Ck} {sh : Int} {k j : Nat} {x : Pu} {y : Ck} (hj : (k : Int) + sh = (j : Int)) (hy : C[j]? = some y) : agr C sh k x = (x.seen && decide (y.b = x.b) && decide (y.k = 1 ∨ y.k = 2)) := by
  unfold agr; rw [hj]; simp [hy]
theorem dif_no {C : List Ck} {sh : Int} {k : Nat} {x : Pu} (h : agr C sh k x = false) : dif C sh k x = false := by unfold dif; rw [h]; rfl
theorem dif_at {C : List Ck} {sh : Int} {k j : Nat} {x : Pu} {y : Ck} (hj : (k : Int) + sh = (j : Int)) (hy : C[j]? = some y) (h : agr C sh k x = true) : dif C sh k x = (x.bit != decide (y.k = 2)) := by
  unfold dif; rw [h, hj]; simp [hy]
theorem okCk_mk {x : Ck} (h1 : 0 ≤ x.b) (h2 : x.b ≤ 1) (h3 : 0 ≤ x.k) (h4 : x.k ≤ 3) : okCk x = true := by unfold okCk; exact decide_eq_true ⟨h1, h2, h3, h4⟩
theorem okCk_not {x : Ck} (h : ¬(0 ≤ x.b ∧ x.b ≤ 1 ∧ 0 ≤ x.k ∧ x.k ≤ 3)) : okCk x = false := by unfold okCk; exact decide_eq_false h

set_option maxRecDepth 100000 in
set_option maxHeartbeats 3200000 in
theorem agree_c (A : Option Addr) (n c : Nat) (L : List Pu) (A' : Option Addr) (m d : Nat) (C : List Ck) (sh : Int) (w : World) (s : Rd ePu w w.heap.size A n c L) (t : Rd eCk w w.heap.size A' m d C) :
    Calls Tryd.prog 17 #[.slice A n c, .slice A' m d, .int .i64 sh] w (SAgree L C sh w) := by
  have hl := s.len
  have hm := s.max
  have hcap := s.cap
  have tl := t.len
  have tm := t.max
  have tcap := t.cap
  have HL := hide hl
  have TL := hide tl
  clear hl tl
  by_cases h1 : sh < -16
  · go_enter Tryd.func17, Tryd.ntmps17
    go_wp2
    go_ret3
    exact SAgree.err (agreeErr_shift (.inl h1)) (by omega) (Below.refl _ _)
  by_cases h2 : 16 < sh
  · go_enter Tryd.func17, Tryd.ntmps17
    go_wp2
    go_ret3
    exact SAgree.err (agreeErr_shift (.inr h2)) (by omega) (Below.refl _ _)
  have hS : Hid (¬(sh < -16 ∨ 16 < sh)) := by show ¬ _; omega
  by_cases h3 : 4096 < (n : Int)
  · go_enter Tryd.func17, Tryd.ntmps17
    go_wp2
    go_ret3
    exact SAgree.err (agreeErr_many hS.out (.inl (by have := HL.out; omega))) (by omega) (Below.refl _ _)
  by_cases h4 : 4096 < (m : Int)
  · go_enter Tryd.func17, Tryd.ntmps17
    go_wp2
    go_ret3
    exact SAgree.err (agreeErr_many hS.out (.inr (by have := TL.out; omega))) (by omega) (Below.refl _ _)
  have hM : Hid (¬(4096 < L.length ∨ 4096 < C.length)) := by have := HL.out; have := TL.out; show ¬ _; omega
  have hv := valid_c A n c L w s
  by_cases h5 : L.all okPu = true
  · rw [pulsesErr_ok (by have := HL.out; omega) h5] at hv
    have HV := hide hv
    have H5 := hide h5
    clear hv h5
    go_enter Tryd.func17, Tryd.ntmps17
    go_wp2_with (go_at_call 48; refine HV.out.mono ?_; rintro e w1 ⟨rfl, hb1⟩)
    have s1 := s.on hb1
    have t1 := t.on hb1
    clear s t HV
    go_loopw [39] (fun iv wr => ∃ k : Nat, k ≤ m ∧ iv = .int .i64 k ∧ (C.take k).all okCk = true ∧ Below w1.heap.size w1 wr) (fun iv _ => m - (intOf iv).toNat)
    case atStart => exact ⟨0, by omega, rfl, by simp, Below.refl _ _⟩
    case round =>
      obtain ⟨k, hk, rfl, hall, hbw⟩ := hrel
      have HA := hide hall
      clear hall
      by_cases hlt : k < m
      · obtain ⟨b, off, x, rfl, hb, hx, hc⟩ := (t1.below hbw).get hlt
        have c0 := hc 0 _ rfl
        have c1 := hc 1 _ rfl
        simp only [eCk, Nat.add_zero] at c0 c1
        have HX := hide hx
        clear hc hx
        go_wp2
        all_goals first
          | (go_roundw
             case rel => exact ⟨k + 1, by omega, by go_num, all_take_succ HA.out HX.out (okCk_mk (by omega) (by omega) (by omega) (by omega)), hbw.alloc hbw.size _⟩
             case measure => simp [intOf] <;> omega)
          | (go_ret3
             exact SAgree.err (agreeErr_click hS.out hM.out H5.out (by rw [all_false HX.out (okCk_not (by omega))]; simp)) (by omega) (below_on hb1 (hbw.alloc hbw.size _)))
      · have hallC := all_whole HA.out TL.out hlt
        have HC := hide hallC
        clear hallC HA
        have s2 := s1.on hbw
        have t2 := t1.on hbw
        have hb2 := below_on hb1 hbw
        clear s1 t1 hbw hb1
        go_wp2
        obtain ⟨w2, rfl⟩ : ∃ wo : World, wo = wr := ⟨_, rfl⟩
        have hS2 := hS
        go_loopw [64, 12, 13] (fun iv av bv wr => ∃ (k : Nat) (A1 : Option Addr) (c1 : Nat) (A2 : Option Addr) (c2 : Nat), k ≤ n ∧ iv = .int .i64 k ∧ av = .slice A1 (slotsOf (agr C sh) L k).length c1 ∧ bv = .slice A2 (slotsOf (dif C sh) L k).length c2 ∧
            Ow eNat wr w2.heap.size 3 A1 (slotsOf (agr C sh) L k).length c1 (slotsOf (agr C sh) L k) ∧ Ow eNat wr w2.heap.size 3 A2 (slotsOf (dif C sh) L k).length c2 (slotsOf (dif C sh) L k) ∧
            Apart A1 A2 ∧ Below w2.heap.size w2 wr) (fun iv _ _ _ => n - (intOf iv).toNat)
        case atStart => exact ⟨0, none, 0, none, 0, by omega, rfl, rfl, rfl, Ow.nil _ _ _, Ow.nil _ _ _, Apart.nil _, Below.refl _ _⟩
        case round =>
          obtain ⟨k, A1, c1, A2, c2, hk, rfl, rfl, rfl, o1, o2, hne, hbw⟩ := hrel
          have hq1 := slotsOf_len (agr C sh) L k
          have hq2 := slotsOf_len (dif C sh) L k
          by_cases hlt : k < n
          · obtain ⟨b, off, x, rfl, hb, hx, hc⟩ := (s2.below hbw).get hlt
            have x0 := hc 0 _ rfl
            have x1 := hc 1 _ rfl
            have x2 := hc 2 _ rfl
            have x3 := hc 3 _ rfl
            have x4 := hc 4 _ rfl
            simp only [ePu, Nat.add_zero] at x0 x1 x2 x3 x4
            have HX := hide hx
            clear hc hx
            obtain ⟨xb, xbit, xcl, xph, xseen⟩ := x
            by_cases hj0 : (k : Int) + sh < 0
            · have hn0 := agr_neg (C := C) (x := ⟨xb, xbit, xcl, xph, xseen⟩) hj0
              have hd : decide ((k : Int) + sh < 0) = true := by simpa using hj0
              have HN := hide hn0
              clear hn0
              go_wp2
              go_quiet (fail)
              go_wp2
              go_roundw
              case rel => exact ⟨k + 1, A1, c1, A2, c2, by omega, by go_num, by rw [slotsOf_no HX.out HN.out], by rw [slotsOf_no HX.out (dif_no HN.out)], by rw [slotsOf_no HX.out HN.out]; exact (o1.alloc _).drewN _, by rw [slotsOf_no HX.out (dif_no HN.out)]; exact (o2.alloc _).drewN _, hne, below_drewN (hbw.alloc hbw.size _) _⟩
              case measure => simp [intOf] <;> omega
            obtain ⟨j, hj⟩ : ∃ j : Nat, (k : Int) + sh = (j : Int) := ⟨((k : Int) + sh).toNat, by omega⟩
            have hd : decide ((j : Int) < 0) = false := by simp
            by_cases hjm : m ≤ j
            · have hn0 := agr_far (C := C) (x := ⟨xb, xbit, xcl, xph, xseen⟩) TL.out (show (m : Int) ≤ (k : Int) + sh by omega)
              have hd1 : decide ((m : Int) ≤ (j : Int)) = true := by simpa using hjm
              have hd2 : decide (m ≤ j) = true := by simpa using hjm
              have HN := hide hn0
              clear hn0
              go_wp2
              go_quiet (fail)
              go_wp2
              go_roundw
              case rel => exact ⟨k + 1, A1, c1, A2, c2, by omega, by go_num, by rw [slotsOf_no HX.out HN.out], by rw [slotsOf_no HX.out (dif_no HN.out)], by rw [slotsOf_no HX.out HN.out]; exact (o1.alloc _).drewN _, by rw [slotsOf_no HX.out (dif_no HN.out)]; exact (o2.alloc _).drewN _, hne, below_drewN (hbw.alloc hbw.size _) _⟩
              case measure => simp [intOf] <;> omega
            have hd1 : decide ((m : Int) ≤ (j : Int)) = false := by simpa using hjm
            have hd2 : decide (m ≤ j) = false := by simpa using hjm
            obtain ⟨b', off', y, rfl, hb', hy, hc'⟩ := (t2.below (hbw.alloc hbw.size (.cells #[.int .i64 xb, .bool xbit, .int .i64 xcl, .int .i64 xph, .bool xseen] 55))).get (show j < m by omega)
            have y0 := hc' 0 _ rfl
            have y1 := hc' 1 _ rfl
            simp only [eCk, Nat.add_zero] at y0 y1
            obtain ⟨yb, yk⟩ := y
            have ha := agr_at (x := ⟨xb, xbit, xcl, xph, xseen⟩) hj hy
            have hdif := dif_at (x := ⟨xb, xbit, xcl, xph, xseen⟩) hj hy
            simp only at x0 x1 x2 x3 x4 y0 y1 ha hdif
            have HA2 := hide ha
            have HD2 := hide hdif
            clear hc' hy ha hdif
            have hi0 : (0 : Int) ≤ (j : Int) := by omega
            have hi1 : (j : Int) < (m : Int) := by omega
            cases xseen
            · have hn0 : agr C sh k ⟨xb, xbit, xcl, xph, false⟩ = false := by rw [HA2.out]; rfl
              have HN := hide hn0
              clear hn0 HA2 HD2
              go_wp2
              go_quiet (fail)
              go_wp2
              go_roundw
              case rel => exact ⟨k + 1, A1, c1, A2, c2, by omega, by go_num, by rw [slotsOf_no HX.out HN.out], by rw [slotsOf_no HX.out (dif_no HN.out)], by rw [slotsOf_no HX.out HN.out]; exact (o1.alloc _).drewN _, by rw [slotsOf_no HX.out (dif_no HN.out)]; exact (o2.alloc _).drewN _, hne, below_drewN (hbw.alloc hbw.size _) _⟩
              case measure => simp [intOf] <;> omega
            by_cases hbb : yb = xb
            · subst hbb
              have hdb : (yb != yb) = false := by simp
              by_cases hk1 : yk = 1
              · subst hk1
                cases xbit
                · -- the bit is 0
                  have ht : agr C sh k ⟨yb, false, xcl, xph, true⟩ = true := by rw [HA2.out]; simp
                  have ht2 : dif C sh k ⟨yb, false, xcl, xph, true⟩ = false := by rw [HD2.out ht]; rfl
                  have HN := hide ht
                  have HN2 := hide ht2
                  clear ht ht2 HA2 HD2
                  go_wp2
                  go_quiet (fail)
                  go_wp2_with (at_builtin; refine wl_app eNat _ rfl (.tmp 106) (.tmp 108) _ rfl w2.heap.size 3 (.int .i64 0) 8 Tryd.underlying47 info_int rfl (by omega) _ _ _ _ (by rfl) (((o1.alloc _).drewN nq).alloc _) _ 1 1 [k] (by rfl) _ (Rd.newAt _ _ k _ rfl _ (by simp)) (by omega) (by have := hbw.size; simp; omega) ?_; intro A3 c3 w3 o3 hg3 hA3; have xc : w3.cell? ⟨wr.heap.size, 1, none⟩ = some (.bool false) := ((((Blk.new wr 55 #[.int .i64 yb, .bool false, .int .i64 xcl, .int .i64 xph, .bool true]).drewN nq).alloc _).grown hg3 o1.not_new).cell 1)
                  go_roundw
                  case rel => exact ⟨k + 1, A3, c3, A2, c2, by omega, by go_num, by rw [slotsOf_yes HX.out HN.out, List.length_append]; rfl, by rw [slotsOf_no HX.out HN2.out], by rw [slotsOf_yes HX.out HN.out, List.length_append]; exact o3, by rw [slotsOf_no HX.out HN2.out]; exact (((o2.alloc _).drewN nq).alloc _).app hg3 hne.symm, hne.app hA3 (((o2.alloc _).drewN nq).alloc _), below_app ((below_drewN (hbw.alloc hbw.size _) nq).alloc (by have := hbw.size; simp; omega) _) (((o1.alloc _).drewN nq).alloc _) hg3 (Nat.le_refl _) (Nat.le_refl _)⟩
                  case measure => simp [intOf] <;> omega
                · -- the bit is 1
                  have ht : agr C sh k ⟨yb, true, xcl, xph, true⟩ = true := by rw [HA2.out]; simp
                  have ht2 : dif C sh k ⟨yb, true, xcl, xph, true⟩ = true := by rw [HD2.out ht]; rfl
                  have HN := hide ht
                  have HN2 := hide ht2
                  clear ht ht2 HA2 HD2
                  go_wp2
                  go_quiet (fail)
                  go_wp2_with (first | (at_builtin; refine wl_app eNat _ rfl (.tmp 106) (.tmp 108) _ rfl w2.heap.size 3 (.int .i64 0) 8 Tryd.underlying47 info_int rfl (by omega) _ _ _ _ (by rfl) (((o1.alloc _).drewN nq).alloc _) _ 1 1 [k] (by rfl) _ (Rd.newAt _ _ k _ rfl _ (by simp)) (by omega) (by have := hbw.size; simp; omega) ?_; intro A3 c3 w3 o3 hg3 hA3; have xc : w3.cell? ⟨wr.heap.size, 1, none⟩ = some (.bool true) := ((((Blk.new wr 55 #[.int .i64 yb, .bool true, .int .i64 xcl, .int .i64 xph, .bool true]).drewN nq).alloc _).grown hg3 o1.not_new).cell 1) | (at_builtin; refine wl_app eNat _ rfl (.tmp 115) (.tmp 117) _ rfl w2.heap.size 3 (.int .i64 0) 8 Tryd.underlying47 info_int rfl (by omega) _ _ _ _ (by rfl) (((((o2.alloc _).drewN nq).alloc _).app hg3 hne.symm).alloc _) _ 1 1 [k] (by rfl) _ (Rd.newAt _ _ k _ rfl _ (by simp)) (by omega) (by have := hbw.size; have := hg3.size; simp at this ⊢; omega) ?_; intro A4 c4 w4 o4 hg4 hA4))
                  have hbz := below_app ((below_drewN (hbw.alloc hbw.size _) nq).alloc (by have := hbw.size; simp; omega) _) (((o1.alloc _).drewN nq).alloc _) hg3 (Nat.le_refl _) (Nat.le_refl _)
                  have hne3 := hne.app hA3 (((o2.alloc _).drewN nq).alloc _)
                  go_roundw
                  case rel => exact ⟨k + 1, A3, c3, A4, c4, by omega, by go_num, by rw [slotsOf_yes HX.out HN.out, List.length_append]; rfl, by rw [slotsOf_yes HX.out HN2.out, List.length_append]; rfl, by rw [slotsOf_yes HX.out HN.out, List.length_append]; exact (o3.alloc _).app hg4 hne3, by rw [slotsOf_yes HX.out HN2.out, List.length_append]; exact o4, (hne3.symm.app hA4 (o3.alloc _)).symm, below_app (hbz.alloc hbz.size _) (((((o2.alloc _).drewN nq).alloc _).app hg3 hne.symm).alloc _) hg4 (Nat.le_refl _) (Nat.le_refl _)⟩
                  case measure => simp [intOf] <;> omega
              by_cases hk2 : yk = 2
              · subst hk2
                cases xbit
                · -- the bit is 0
                  have ht : agr C sh k ⟨yb, false, xcl, xph, true⟩ = true := by rw [HA2.out]; simp
                  have ht2 : dif C sh k ⟨yb, false, xcl, xph, true⟩ = true := by rw [HD2.out ht]; rfl
                  have HN := hide ht
                  have HN2 := hide ht2
                  clear ht ht2 HA2 HD2
                  go_wp2
                  go_quiet (fail)
                  go_wp2_with (first | (at_builtin; refine wl_app eNat _ rfl (.tmp 106) (.tmp 108) _ rfl w2.heap.size 3 (.int .i64 0) 8 Tryd.underlying47 info_int rfl (by omega) _ _ _ _ (by rfl) (((o1.alloc _).drewN nq).alloc _) _ 1 1 [k] (by rfl) _ (Rd.newAt _ _ k _ rfl _ (by simp)) (by omega) (by have := hbw.size; simp; omega) ?_; intro A3 c3 w3 o3 hg3 hA3; have xc : w3.cell? ⟨wr.heap.size, 1, none⟩ = some (.bool false) := ((((Blk.new wr 55 #[.int .i64 yb, .bool false, .int .i64 xcl, .int .i64 xph, .bool true]).drewN nq).alloc _).grown hg3 o1.not_new).cell 1) | (at_builtin; refine wl_app eNat _ rfl (.tmp 115) (.tmp 117) _ rfl w2.heap.size 3 (.int .i64 0) 8 Tryd.underlying47 info_int rfl (by omega) _ _ _ _ (by rfl) (((((o2.alloc _).drewN nq).alloc _).app hg3 hne.symm).alloc _) _ 1 1 [k] (by rfl) _ (Rd.newAt _ _ k _ rfl _ (by simp)) (by omega) (by have := hbw.size; have := hg3.size; simp at this ⊢; omega) ?_; intro A4 c4 w4 o4 hg4 hA4))
                  have hbz := below_app ((below_drewN (hbw.alloc hbw.size _) nq).alloc (by have := hbw.size; simp; omega) _) (((o1.alloc _).drewN nq).alloc _) hg3 (Nat.le_refl _) (Nat.le_refl _)
                  have hne3 := hne.app hA3 (((o2.alloc _).drewN nq).alloc _)
                  go_roundw
                  case rel => exact ⟨k + 1, A3, c3, A4, c4, by omega, by go_num, by rw [slotsOf_yes HX.out HN.out, List.length_append]; rfl, by rw [slotsOf_yes HX.out HN2.out, List.length_append]; rfl, by rw [slotsOf_yes HX.out HN.out, List.length_append]; exact (o3.alloc _).app hg4 hne3, by rw [slotsOf_yes HX.out HN2.out, List.length_append]; exact o4, (hne3.symm.app hA4 (o3.alloc _)).symm, below_app (hbz.alloc hbz.size _) (((((o2.alloc _).drewN nq).alloc _).app hg3 hne.symm).alloc _) hg4 (Nat.le_refl _) (Nat.le_refl _)⟩
                  case measure => simp [intOf] <;> omega
                · -- the bit is 1
                  have ht : agr C sh k ⟨yb, true, xcl, xph, true⟩ = true := by rw [HA2.out]; simp
                  have ht2 : dif C sh k ⟨yb, true, xcl, xph, true⟩ = false := by rw [HD2.out ht]; rfl
                  have HN := hide ht
                  have HN2 := hide ht2
                  clear ht ht2 HA2 HD2
                  go_wp2
                  go_quiet (fail)
                  go_wp2_with (at_builtin; refine wl_app eNat _ rfl (.tmp 106) (.tmp 108) _ rfl w2.heap.size 3 (.int .i64 0) 8 Tryd.underlying47 info_int rfl (by omega) _ _ _ _ (by rfl) (((o1.alloc _).drewN nq).alloc _) _ 1 1 [k] (by rfl) _ (Rd.newAt _ _ k _ rfl _ (by simp)) (by omega) (by have := hbw.size; simp; omega) ?_; intro A3 c3 w3 o3 hg3 hA3; have xc : w3.cell? ⟨wr.heap.size, 1, none⟩ = some (.bool true) := ((((Blk.new wr 55 #[.int .i64 yb, .bool true, .int .i64 xcl, .int .i64 xph, .bool true]).drewN nq).alloc _).grown hg3 o1.not_new).cell 1)
                  go_roundw
                  case rel => exact ⟨k + 1, A3, c3, A2, c2, by omega, by go_num, by rw [slotsOf_yes HX.out HN.out, List.length_append]; rfl, by rw [slotsOf_no HX.out HN2.out], by rw [slotsOf_yes HX.out HN.out, List.length_append]; exact o3, by rw [slotsOf_no HX.out HN2.out]; exact (((o2.alloc _).drewN nq).alloc _).app hg3 hne.symm, hne.app hA3 (((o2.alloc _).drewN nq).alloc _), below_app ((below_drewN (hbw.alloc hbw.size _) nq).alloc (by have := hbw.size; simp; omega) _) (((o1.alloc _).drewN nq).alloc _) hg3 (Nat.le_refl _) (Nat.le_refl _)⟩
                  case measure => simp [intOf] <;> omega
              have hn0 : agr C sh k ⟨yb, xbit, xcl, xph, true⟩ = false := by rw [HA2.out]; simp [hk1, hk2]
              have hq1 : (yk == 1) = false := by simpa using hk1
              have hq2 : (yk == 2) = false := by simpa using hk2
              have HN := hide hn0
              clear hn0 HA2 HD2 hk1 hk2
              go_wp2
              go_quiet (fail)
              go_wp2
              go_roundw
              case rel => exact ⟨k + 1, A1, c1, A2, c2, by omega, by go_num, by rw [slotsOf_no HX.out HN.out], by rw [slotsOf_no HX.out (dif_no HN.out)], by rw [slotsOf_no HX.out HN.out]; exact (o1.alloc _).drewN _, by rw [slotsOf_no HX.out (dif_no HN.out)]; exact (o2.alloc _).drewN _, hne, below_drewN (hbw.alloc hbw.size _) _⟩
              case measure => simp [intOf] <;> omega
            · have hdb : (yb != xb) = true := by simpa using hbb
              have hn0 : agr C sh k ⟨xb, xbit, xcl, xph, true⟩ = false := by rw [HA2.out, decide_eq_false hbb]; rfl
              have HN := hide hn0
              clear hn0 HA2 HD2
              go_wp2
              go_quiet (fail)
              go_wp2
              go_roundw
              case rel => exact ⟨k + 1, A1, c1, A2, c2, by omega, by go_num, by rw [slotsOf_no HX.out HN.out], by rw [slotsOf_no HX.out (dif_no HN.out)], by rw [slotsOf_no HX.out HN.out]; exact (o1.alloc _).drewN _, by rw [slotsOf_no HX.out (dif_no HN.out)]; exact (o2.alloc _).drewN _, hne, below_drewN (hbw.alloc hbw.size _) _⟩
              case measure => simp [intOf] <;> omega
          · have hL : k = L.length := by have := HL.out; omega
            go_wp2
            go_ret3
            subst hL
            exact SAgree.ok (agreeErr_none hS.out hM.out H5.out HC.out) o1.rd o2.rd (below_on hb2 hbw)
  · have h6 : pulsesErr L = 2 := by unfold pulsesErr; rw [if_neg (by have := HL.out; omega), if_neg h5]
    rw [h6] at hv
    have HV := hide hv
    have H5 := hide h5
    clear hv h5 h6
    go_enter Tryd.func17, Tryd.ntmps17
    go_wp2_with (go_at_call 48; refine HV.out.mono ?_; rintro e w1 ⟨rfl, hb1⟩)
    go_ret3
    exact SAgree.err (agreeErr_pulse hS.out hM.out H5.out) (by omega) hb1
end Go.Proofs.YthdidjnhfkeokaaDoor
