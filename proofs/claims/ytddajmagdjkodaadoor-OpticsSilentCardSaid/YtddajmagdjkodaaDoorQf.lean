/- Contract of optics.Knows. -/
import Derived.Test.YtddajmagdjkodaaDoorQb
namespace Go.Proofs.YtddajmagdjkodaaDoor
open Go.RowKit

/-- What Knows returns. -/
def SKnows (L : List Pu) (N : List No) (w : World) (e : Ending) (w' : World) : Prop :=
  ∃ A1 n1 c1, e = .returned (.tuple #[.slice A1 n1 c1, .int .i64 (knowsErr L N)]) ∧ Rd eNat w' w'.heap.size A1 n1 c1 (knowsL L N) ∧ Below w.heap.size w w'
theorem SKnows.err {L : List Pu} {N : List No} {err : Int} {w w' : World} (h : knowsErr L N = err) (h0 : err ≠ 0) (hb : Below w.heap.size w w') : SKnows L N w (.returned (.tuple #[.slice none 0 0, .int .i64 err])) w' := by
  refine ⟨none, 0, 0, by rw [h], ?_, hb⟩
  unfold knowsL; rw [if_neg (by omega)]; exact Rd.nil _ _ _ _ (by omega)
theorem SKnows.ok {L : List Pu} {N : List No} {w w' : World} {A1 : Option Addr} {n1 c1 : Nat} (h : knowsErr L N = 0) (s1 : Rd eNat w' w'.heap.size A1 n1 c1 (idx (marks L N) L.length)) (hb : Below w.heap.size w w') :
    SKnows L N w (.returned (.tuple #[.slice A1 n1 c1, .int .i64 0])) w' := by
  refine ⟨A1, n1, c1, by rw [h], ?_, hb⟩
  unfold knowsL; rw [if_pos h]; exact s1
theorem knowsErr_pulse {L : List Pu} {N : List No} (h : pulsesErr L ≠ 0) : knowsErr L N = pulsesErr L := by unfold knowsErr; rw [if_pos h]
theorem knowsErr_many {L : List Pu} {N : List No} (h : pulsesErr L = 0) (h2 : 131072 < N.length) : knowsErr L N = 5 := by unfold knowsErr; rw [if_neg (by simp [h]), if_pos h2]
theorem knowsErr_note {L : List Pu} {N : List No} (h : pulsesErr L = 0) (h2 : ¬ 131072 < N.length) : knowsErr L N = noteErr L.length N := by unfold knowsErr; rw [if_neg (by simp [h]), if_neg h2]
theorem okNo_mk {x : No} (h1 : 1 ≤ x.how) (h2 : x.how ≤ 3) (h3 : 0 ≤ x.b) (h4 : x.b ≤ 1) : okNo x = true := by unfold okNo; exact decide_eq_true ⟨h1, h2, h3, h4⟩
theorem okNo_not {x : No} (h : ¬(1 ≤ x.how ∧ x.how ≤ 3 ∧ 0 ≤ x.b ∧ x.b ≤ 1)) : okNo x = false := by unfold okNo; exact decide_eq_false h
theorem inNo_mk {n : Nat} {x : No} (h1 : 0 ≤ x.slot) (h2 : x.slot < n) : inNo n x = true := by unfold inNo; exact decide_eq_true ⟨h1, h2⟩
theorem inNo_not {n : Nat} {x : No} (h : ¬(0 ≤ x.slot ∧ x.slot < n)) : inNo n x = false := by unfold inNo; exact decide_eq_false h
theorem pulsesErr_cases (L : List Pu) : pulsesErr L = 0 ∨ pulsesErr L = 2 ∨ pulsesErr L = 5 := by
  unfold pulsesErr; split
  · exact .inr (.inr rfl)
  · split
    · exact .inl rfl
    · exact .inr (.inl rfl)
theorem pulsesErr_le {L : List Pu} (h : pulsesErr L = 0) : L.length ≤ 4096 := by
  unfold pulsesErr at h; split at h
  · omega
  · omega

set_option maxRecDepth 100000 in
set_option maxHeartbeats 3200000 in
theorem knows_c (A : Option Addr) (n c : Nat) (L : List Pu) (A' : Option Addr) (m d : Nat) (N : List No) (w : World) (s : Rd ePu w w.heap.size A n c L) (t : Rd eNo w w.heap.size A' m d N) :
    Calls Tryd.prog 22 #[.slice A n c, .slice A' m d] w (SKnows L N w) := by
  have hl := s.len
  have hm := s.max
  have hcap := s.cap
  have tl := t.len
  have tm := t.max
  have tcap := t.cap
  have HL := hide hl
  have TL := hide tl
  clear hl tl
  have hv := valid_c A n c L w s
  by_cases h0 : pulsesErr L = 0
  · rw [h0] at hv
    have hn := pulsesErr_le h0
    have hn2 : n ≤ 4096 := by have := HL.out; omega
    have HV := hide hv
    have H0 := hide h0
    clear hv h0 hn
    by_cases hbig : 131072 < (m : Int)
    · go_enter Tryd.func22, Tryd.ntmps22
      go_wp2_with (go_at_call 61; refine HV.out.mono ?_; rintro e w1 ⟨rfl, hb1⟩)
      go_ret2
      exact SKnows.err (knowsErr_many H0.out (by have := TL.out; omega)) (by omega) hb1
    · have hN := knowsErr_note H0.out (show ¬ 131072 < N.length by have := TL.out; omega)
      have HN := hide hN
      clear hN
      go_enter Tryd.func22, Tryd.ntmps22
      go_wp2_with (first | (go_at_call 61; refine HV.out.mono ?_; rintro e w1 ⟨rfl, hb1⟩) | (at_make; refine wl_mk eBool _ rfl _ _ _ rfl 4 (.bool false) 1 false Tryd.underlying90 info_bool rfl (by omega) _ _ n (by rfl) (by rfl) rfl rfl (by omega) ?_; intro w2 o2 hg2 hlt2))
      have s1 := s.on hb1
      have t1 := t.on hb1
      have hb12 : Below w1.heap.size w1 w2 := ⟨hg2.os, hg2.tape, hg2.output, hg2.size, fun i hi => hg2.block i hi (by simp)⟩
      clear s t HV
      go_loopw [26] (fun iv wr => ∃ k : Nat, k ≤ m ∧ iv = .int .i64 k ∧ (N.take k).all (fun x => okNo x && inNo L.length x) = true ∧ Ow eBool wr w1.heap.size 4 (some ⟨w1.heap.size, 0, none⟩) n n (marks L (N.take k)) ∧ Below w1.heap.size w1 wr) (fun iv _ => m - (intOf iv).toNat)
      case atStart => exact ⟨0, by omega, rfl, by simp, by simp only [List.take_zero, marks, List.foldl_nil]; rw [HL.out]; exact o2, hb12⟩
      case round =>
        obtain ⟨k, hk, rfl, hall, o3, hbw⟩ := hrel
        have HA := hide hall
        clear hall
        by_cases hlt : k < m
        · obtain ⟨b, off, x, rfl, hb, hx, hc⟩ := (t1.below hbw).get hlt
          have c0 := hc 0 _ rfl
          have c1 := hc 1 _ rfl
          have c2 := hc 2 _ rfl
          have c3 := hc 3 _ rfl
          simp only [eNo, Nat.add_zero] at c0 c1 c2 c3
          have HX := hide hx
          clear hc hx
          obtain ⟨xs, xh, xb, xbit⟩ := x
          simp only at c0 c1 c2 c3
          have HE := hide (noteErr_at HA.out HX.out)
          by_cases hgood : 1 ≤ xh ∧ xh ≤ 3 ∧ 0 ≤ xb ∧ xb ≤ 1
          · obtain ⟨g1, g2, g3, g4⟩ := hgood
            by_cases hin : 0 ≤ xs ∧ xs < n
            · obtain ⟨i1, i2⟩ := hin
              obtain ⟨q, rfl⟩ := Int.eq_ofNat_of_zero_le i1
              have hq : q < n := by omega
              obtain ⟨b', off', y, rfl, hb', hy, hc'⟩ := (s1.below (hbw.alloc hbw.size (.cells #[.int .i64 (q : Int), .int .i64 xh, .int .i64 xb, .bool xbit] 86))).get hq
              have y0 := hc' 0 _ rfl
              simp only [ePu, Nat.add_zero] at y0
              obtain ⟨pb, pbit, pcl, pph, pseen⟩ := y
              simp only at y0
              have HY := hide hy
              clear hc' hy
              have oW := o3.alloc (.cells #[.int .i64 (q : Int), .int .i64 xh, .int .i64 xb, .bool xbit] 86)
              obtain ⟨g, v, eg, _, hgl, _, hcv⟩ := oW.get hq
              injection eg with eg; injection eg with eg; subst eg
              have k0 := hcv 0 _ rfl
              have kf := oW.frozen q
              simp only [eBool, Nat.add_zero, Nat.mul_one] at k0
              have hG := hide (show (okNo ⟨(q : Int), xh, xb, xbit⟩ && inNo L.length ⟨(q : Int), xh, xb, xbit⟩) = true by rw [okNo_mk g1 g2 g3 g4, inNo_mk (by omega) (by have := HL.out; simp only; omega)]; rfl)
              clear hcv HE
              by_cases hx2 : xh = 2
              · subst hx2
                have HM := hide (marks_snoc (L := L) HX.out |>.trans (mark_yes rfl HY.out (.inl rfl)))
                go_wp2
                go_quiet (fail)
                go_wp2
                go_roundw
                case rel => exact ⟨k + 1, by omega, by go_num, all_take_succ HA.out HX.out hG.out, by rw [HM.out]; exact (oW.drewN _).store1 hq true rfl rfl, (below_drewN (hbw.alloc hbw.size _) _).setCell (Nat.le_refl _) _⟩
                case measure => simp [intOf] <;> omega
              · have hx3 : (xh == 2) = false := by simpa using hx2
                have HX2 := hide hx2
                clear hx2
                by_cases hxb : xb = pb
                · subst hxb
                  have HM := hide (marks_snoc (L := L) HX.out |>.trans (mark_yes rfl HY.out (.inr rfl)))
                  have hxe : (xb == xb) = true := by simp
                  go_wp2
                  go_quiet (fail)
                  go_wp2
                  go_roundw
                  case rel => exact ⟨k + 1, by omega, by go_num, all_take_succ HA.out HX.out hG.out, by rw [HM.out]; exact (oW.drewN _).store1 hq true rfl rfl, (below_drewN (hbw.alloc hbw.size _) _).setCell (Nat.le_refl _) _⟩
                  case measure => simp [intOf] <;> omega
                · have hxe : (xb == pb) = false := by simpa using hxb
                  have HM := hide (marks_snoc (L := L) HX.out |>.trans (mark_no rfl HY.out HX2.out hxb))
                  clear hxb
                  go_wp2
                  go_quiet (fail)
                  go_wp2
                  go_roundw
                  case rel => exact ⟨k + 1, by omega, by go_num, all_take_succ HA.out HX.out hG.out, by rw [HM.out]; exact oW.drewN _, below_drewN (hbw.alloc hbw.size _) _⟩
                  case measure => simp [intOf] <;> omega
            · have HI := hide hin
              clear hin
              have HS := hide (HE.out.2 (okNo_mk g1 g2 g3 g4) (inNo_not (by have := HI.out; have := HL.out; simp only; omega)))
              clear HE
              go_wp2
              all_goals first
                | (exfalso; have := HI.out; omega)
                | (go_ret2
                   exact SKnows.err (HN.out.trans HS.out) (by omega) (below_on hb1 (hbw.alloc hbw.size _)))
          · have HI := hide hgood
            clear hgood
            have HS := hide (HE.out.1 (okNo_not HI.out))
            clear HE
            go_wp2
            all_goals first
              | (exfalso; have := HI.out; omega)
              | (go_ret2
                 exact SKnows.err (HN.out.trans HS.out) (by omega) (below_on hb1 (hbw.alloc hbw.size _)))
        · have hall := all_whole HA.out TL.out hlt
          have HK := hide (HN.out.trans (noteErr_ok hall))
          have hke : k = m := by omega
          have hmk : marks L (N.take k) = marks L N := by rw [hke, List.take_of_length_le (by have := TL.out; omega)]
          rw [hmk] at o3
          have hb3 := below_on hb1 hbw
          have hz := hbw.size
          clear hall hmk HA hke o2 hg2 hb12 hb1 hbw
          go_wp2
          obtain ⟨w3, rfl⟩ : ∃ wo : World, wo = wr := ⟨_, rfl⟩
          go_loopw [79, 10] (fun iv av wr => ∃ (k : Nat) (A1 : Option Addr) (c1 : Nat), k ≤ n ∧ iv = .int .i64 k ∧ av = .slice A1 (idx (marks L N) k).length c1 ∧ Ow eNat wr w3.heap.size 3 A1 (idx (marks L N) k).length c1 (idx (marks L N) k) ∧ Below w3.heap.size w3 wr) (fun iv _ _ => n - (intOf iv).toNat)
          case atStart => exact ⟨0, none, 0, by omega, rfl, rfl, Ow.nil _ _ _, Below.refl _ _⟩
          case round =>
            obtain ⟨k, A1, c1, hk, rfl, rfl, o1, hbw⟩ := hrel
            have hq1 := idx_len (marks L N) k
            by_cases hlt : k < n
            · obtain ⟨g, v, eg, _, hgl, hx, hcv⟩ := (o3.on hbw).get hlt
              injection eg with eg; injection eg with eg; subst eg
              have k0 := hcv 0 _ rfl
              simp only [eBool, Nat.add_zero, Nat.mul_one] at k0
              have HX := hide hx
              clear hcv hx
              cases v
              · go_wp2
                go_roundw
                case rel => exact ⟨k + 1, A1, c1, by omega, by go_num, by rw [idx_no HX.out], by rw [idx_no HX.out]; exact o1, hbw⟩
                case measure => simp [intOf] <;> omega
              · go_wp2_with (at_builtin; refine wl_app eNat _ rfl (.tmp 85) (.tmp 87) _ rfl w3.heap.size 3 (.int .i64 0) 8 Tryd.underlying26 info_int rfl (by omega) _ _ _ _ (by rfl) (o1.alloc _) _ 1 1 [k] (by rfl) _ (Rd.newAt _ _ k _ rfl _ (by simp)) (by omega) (by have := hbw.size; simp; omega) ?_; intro A3 c3 w4 o4 hg4 hA4)
                go_roundw
                case rel => exact ⟨k + 1, A3, c3, by omega, by go_num, by rw [idx_yes HX.out, List.length_append]; rfl, by rw [idx_yes HX.out, List.length_append]; exact o4, below_app (hbw.alloc hbw.size _) (o1.alloc _) hg4 (Nat.le_refl _) (Nat.le_refl _)⟩
                case measure => simp [intOf] <;> omega
            · have hL : k = L.length := by have := HL.out; omega
              go_wp2
              go_ret2
              subst hL
              exact SKnows.ok HK.out o1.rd (below_on hb3 hbw)
  · have H0 := hide h0
    have HV := hide hv
    have hne : (pulsesErr L != 0) = true := by simpa using h0
    clear hv h0
    go_enter Tryd.func22, Tryd.ntmps22
    go_wp2_with (go_at_call 61; refine HV.out.mono ?_; rintro e w1 ⟨rfl, hb1⟩)
    go_ret2
    exact SKnows.err (knowsErr_pulse H0.out) H0.out hb1
end Go.Proofs.YtddajmagdjkodaaDoor
