/- The walk of the law OpticsHonest. -/
import Derived.Test.YtddajmagdjkodaaDoorYq
import Derived.Test.YtddajmagdjkodaaDoorYv
import Derived.Test.YtddajmagdjkodaaDoorYi
import Derived.Test.YtddajmagdjkodaaDoorQl
import Derived.BigQuiet
namespace Go.Proofs.YtddajmagdjkodaaDoor
open Go.RowKit

/-- The slots that agree, and those that differ, of an honest run. -/
theorem honest_wrong {a b c n : Nat} : slotsOf (dif (dets 256 0 0 (carrF [] (emiF (plainF 256 0) a n).1 b n).1 c n).1 0) (emiF (plainF 256 0) a n).1 n = [] := by
  rw [List.eq_nil_iff_forall_not_mem]
  intro i hw
  obtain ⟨hi, p, hp, hd⟩ := mem_slotsOf.1 hw
  have hk := dets_get (eta := 256) (dark := 0) (sh := 0) (L := (carrF [] (emiF (plainF 256 0) a n).1 b n).1) (s := c) n hi
  obtain ⟨_, _, h3⟩ := honest hp hk
  obtain ⟨⟨_, hb, _⟩, hx⟩ := (dif_iff hk).1 hd
  exact hx (h3 hb)
theorem honest_same {a b c n i : Nat} {p : Pu} {k : Ck} (hp : (emiF (plainF 256 0) a n).1[i]? = some p) (hk : (dets 256 0 0 (carrF [] (emiF (plainF 256 0) a n).1 b n).1 c n).1[i]? = some k) :
    decide (i ∈ slotsOf (agr (dets 256 0 0 (carrF [] (emiF (plainF 256 0) a n).1 b n).1 c n).1 0) (emiF (plainF 256 0) a n).1 n) = (p.b == k.b) := by
  obtain ⟨h1, h2, _⟩ := honest hp hk
  have hi : i < n := by rw [← emiF_len (plainF 256 0) a n]; exact (List.getElem?_eq_some_iff.1 hp).1
  rw [Bool.eq_iff_iff, decide_eq_true_eq, mem_slotsOf, beq_iff_eq]
  constructor
  · rintro ⟨_, p', hp', ha⟩
    rw [hp] at hp'; obtain rfl := Option.some.inj hp'
    exact ((agr_iff hk).1 ha).2.1.symm
  · intro hb
    exact ⟨hi, p, hp, (agr_iff hk).2 ⟨h1, hb.symm, h2⟩⟩

set_option maxRecDepth 100000 in
set_option maxHeartbeats 6400000 in
theorem honest_c (m : Nat) (hm : m < 256) (a b c : Nat) (w : World) (ht : Tab w) :
    Calls Tryd.prog 13 #[.int .u8 (m : Int), .int .u64 (a : Int), .int .u64 (b : Int), .int .u64 (c : Int)] w fun e w' => e = .returned (.bool true) ∧ Below w.heap.size w w' := by
  have h0 : checkErr (plainF 256 0) = 0 := by unfold checkErr; rw [if_pos plain_ok]
  have HFT := hide (fun W => flight_c (plainF 256 0) none 0 0 [] m a b c W (Rd.nil _ _ _ _ (by omega)) h0 rfl rfl (by omega))
  clear h0
  go_enter Tryd.func13, Tryd.ntmps13
  go_upto_region 2 with (first | (go_at_call 37; refine (plain_c 256 0 w).mono ?_; rintro e w1 ⟨rfl, hb1⟩) | (go_at_call 46; refine (HFT.out w1).mono ?_; rintro e w2 ⟨A1, c1, A2, c2, A3, n3, c3, rfl, p2, k2, o2, hb2⟩))
  have hn3 : n3 = 0 := by have := o2.len; rw [carrF_nil _ _ _ (by rw [emiF_len]; omega)] at this; simpa using this.symm
  subst hn3
  have hF := Blk.newAt w2 77 #[.slice A1 m c1, .slice A2 m c2, .slice A3 0 c3, .int .i64 0] w2.heap.size rfl
  have hb4 := below_on (below_on hb1 hb2) (below_alloc w2 (.cells #[.slice A1 m c1, .slice A2 m c2, .slice A3 0 c3, .int .i64 0] 77))
  have p3 := p2.alloc (.cells #[.slice A1 m c1, .slice A2 m c2, .slice A3 0 c3, .int .i64 0] 77)
  have k3 := k2.alloc (.cells #[.slice A1 m c1, .slice A2 m c2, .slice A3 0 c3, .int .i64 0] 77)
  obtain ⟨W, hW⟩ : ∃ q, q = w2.alloc (.cells #[.slice A1 m c1, .slice A2 m c2, .slice A3 0 c3, .int .i64 0] 77) := ⟨_, rfl⟩
  rw [← hW] at hF hb4 p3 k3 ⊢
  obtain ⟨gF, hgF⟩ : ∃ q, q = w2.heap.size := ⟨_, rfl⟩
  rw [← hgF] at hF ⊢
  clear hW hgF p2 k2 o2 hb1 hb2 HFT
  have ht4 := ht.on hb4
  have f0 := hF.cell 0
  have f1 := hF.cell 1
  simp only [List.getElem?_toArray, List.getElem?_cons_succ, List.getElem?_cons_zero] at f0 f1
  rw [show plainF 256 0 16 = 256 from rfl, show plainF 256 0 17 = 0 from rfl] at k3
  have HWR := hide (honest_wrong (a := a) (b := b) (c := c) (n := m))
  have HSM := hide (fun i p k => honest_same (a := a) (b := b) (c := c) (n := m) (i := i) (p := p) (k := k))
  obtain ⟨P, hP⟩ : ∃ P, P = (emiF (plainF 256 0) a m).1 := ⟨_, rfl⟩
  have hPok : P.all okPu = true := by rw [hP]; exact emiF_ok _ _ _
  have hCok := dets_ok 256 0 0 (carrF [] (emiF (plainF 256 0) a m).1 b m).1 c m
  rw [← hP] at p3 k3 HWR HSM hCok
  obtain ⟨C, hC⟩ : ∃ C, C = (dets 256 0 0 (carrF [] P b m).1 c m).1 := ⟨_, rfl⟩
  rw [← hC] at k3 HWR HSM hCok
  clear hP hC
  have hpl := p3.len
  have hkl := k3.len
  have hpc := p3.cap
  have hpm := p3.max
  have hkc := k3.cap
  have hkm := k3.max
  have HAG := hide (show Calls Tryd.prog 19 #[.slice A1 m c1, .slice A2 m c2, .int .i64 0] W fun e w' => ∃ B1 n1 d1 B2 d2, e = .returned (.tuple #[.slice B1 n1 d1, .slice B2 0 d2, .int .i64 0]) ∧ Rd eNat w' w'.heap.size B1 n1 d1 (slotsOf (agr C 0) P m) ∧ Below W.heap.size W w' from
    (agree_fl hPok hCok (by omega) A1 c1 A2 c2 W p3 k3).mono fun e w' h => by
      obtain ⟨B1, n1, d1, B2, n2, d2, he, q1, q2, hb⟩ := h
      rw [HWR.out] at q2
      have : n2 = 0 := by simpa using q2.len.symm
      subst this
      exact ⟨B1, n1, d1, B2, d2, he, q1, hb⟩)
  clear hPok hCok hpl hkl
  go_upto_region 3 with (go_at_call 19; refine HAG.out.mono ?_; rintro e w5 ⟨B1, n1, d1, B2, d2, rfl, g5, hb5⟩)
  have f2 := (hF.keep hb5).cell 2
  simp only [List.getElem?_toArray, List.getElem?_cons_succ, List.getElem?_cons_zero] at f2
  have hF5 := hF.keep hb5
  have p5 := p3.on hb5
  have k5 := k3.on hb5
  have ht5 := ht4.on hb5
  have hb6 := below_on hb4 hb5
  clear hF p3 k3 hb4 hb5 HAG f0 f1 ht ht4
  go_upto_region 6 with fail
  clear f2
  go_loopw [14] (fun iv wr => ∃ i : Nat, i ≤ m ∧ iv = .int .i64 i ∧ Below w5.heap.size w5 wr) (fun iv _ => m - (intOf iv).toNat)
  case atStart => exact ⟨0, by omega, rfl, Below.refl _ _⟩
  case round =>
    obtain ⟨i, hi, rfl, hbi⟩ := hrel
    by_cases hlt : i < m
    · obtain ⟨b1, o1, p, rfl, hbb1, hp, hc1⟩ := (p5.below hbi).get hlt
      obtain ⟨b2, o2, k, rfl, hbb2, hk, hc2⟩ := (k5.below hbi).get hlt
      have x0 := hc1 0 _ rfl
      have z0 := hc2 0 _ rfl
      simp only [ePu, eCk, Nat.add_zero] at x0 z0
      have hsm := HSM.out i p k hp hk
      obtain ⟨pb, pbit, pcl, pph, pseen⟩ := p
      obtain ⟨kb, kk⟩ := k
      simp only at x0 z0 hsm
      obtain ⟨v, hv⟩ : ∃ v, v = (pb == kb) := ⟨_, rfl⟩
      have hv2 : (pb == kb) = v := hv.symm
      rw [hv2] at hsm
      have f0 := (hF5.keep hbi).cell 0
      have f1 := (hF5.keep hbi).cell 1
      simp only [List.getElem?_toArray, List.getElem?_cons_succ, List.getElem?_cons_zero] at f0 f1
      have g6 := g5.on hbi
      have HHAS := hide (fun q => (by have h := has_q B1 n1 d1 _ i (wr.drewN q) (g6.drewN q); rw [hsm] at h; exact h : Calls Tryd.prog 47 #[.slice B1 n1 d1, .int .i64 (i : Int)] (wr.drewN q) fun e w' => e = .returned (.bool v) ∧ w' = wr.drewN q))
      have hvv : (v != v) = false := by simp
      clear hc1 hc2 hp hk hsm hv
      have hi0 : (0 : Int) ≤ (i : Int) := by omega
      have hi1 : (i : Int) < (m : Int) := by omega
      go_upto_region 8 with fail
      go_quiet (first | (go_at_call 47; exact Calls.quiet_of_same (HHAS.out _)))
      go_wp2
      go_roundw
      case rel => exact ⟨i + 1, by omega, by go_num, below_drewN hbi _⟩
      case measure => simp [intOf] <;> omega
    · go_wp2_with (go_at_call 18; refine (works_c _ (ht5.on hbi)).mono ?_; rintro e w' ⟨rfl, hbz⟩)
      go_ret
      exact ⟨rfl, below_on (below_on hb6 hbi) hbz⟩
theorem honest_w (m : Int) (wm : (Lit.int .u8 m).wf = true) (a : Int) (wa : (Lit.int .u64 a).wf = true) (b : Int) (wb : (Lit.int .u64 b).wf = true) (c : Int) (wc : (Lit.int .u64 c).wf = true) (w : World) (ht : Tab w) :
    Calls Tryd.prog 13 #[.int .u8 m, .int .u64 a, .int .u64 b, .int .u64 c] w fun e w' => e = .returned (.bool true) ∧ Below w.heap.size w w' := by
  obtain ⟨m, rfl, hm⟩ := u8_nat wm
  obtain ⟨a, rfl⟩ := u64_nat' wa
  obtain ⟨b, rfl⟩ := u64_nat' wb
  obtain ⟨c, rfl⟩ := u64_nat' wc
  exact honest_c m hm a b c w ht
end Go.Proofs.YtddajmagdjkodaaDoor
