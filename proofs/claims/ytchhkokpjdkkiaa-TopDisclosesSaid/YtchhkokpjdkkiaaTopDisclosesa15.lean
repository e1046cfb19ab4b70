/- The small example's fractions: contracts of exact.Of, the law's frac and sift.Rate at small numbers (the Top seat; in the namespace of the Exact texts). Contracts of distil's Of and Length at the small ledgers that the law meets (the Top seat). Contracts of reconcile's parity, Check, sane, of slices.Clone (the Top seat). Contracts of the draws from a seed, of algebra and of the reference. -/
import Derived.Test.YtchhkokpjdkkiaaTopDisclosesa09
import Derived.Test.YtchhkokpjdkkiaaTopDisclosesa13
import Derived.Test.YtchhkokpjdkkiaaTopDisclosesa14
import Derived.Test.YtchhkokpjdkkiaaTopDisclosesa03
import Derived.Deep.RegionHeld3
import Derived.Deep.DeepCutAuto
import Derived.Test.YtchhkokpjdkkiaaTopDisclosesa02
import Derived.Laws.BitsAllLaws
namespace Go.Proofs.Ytchhkokpjdkkiaa.Ex
open Go.RowKit

theorem ofs_c (x : Nat) (h0 : 0 < x) (h : x < 4294967296) (w : World) : Calls Try.prog 49 #[.int .u64 (x : Int)] w fun e w' => ∃ g c, e = .returned (.slice (some ⟨g, 0, none⟩) 1 c) ∧ Sl w' w'.heap.size .u32 (some ⟨g, 0, none⟩) 1 c [x] ∧ Below w.heap.size w w' :=
  (of_c x w (by omega)).mono fun e w' ⟨g, n, c, l, he, o, hn, hb⟩ => by
    obtain rfl : l = [x] := hn.uniq (num_one _ x h0 h) (by omega)
    obtain rfl : 1 = n := o.len
    exact ⟨g, c, he, o.sl, hb⟩
theorem val1 (x : Nat) : val 4294967296 [x] = x := by simp [val]
theorem err1 {f : FA} {y : Nat} (hn : f.n = 1) (hn' : f.n' = 1) (hl : f.l' = [y]) (hy : 0 < y) : FA.long f = false ∧ FA.zero f = false := by
  constructor
  · simp [FA.long, hn, hn']
  · unfold FA.zero; rw [hl, val1]; simp; omega
theorem cmps_c (x y : Nat) (hx' : x < 4294967296) (hy : 0 < y) (hy' : y < 4294967296) (A A' C C' : Option Addr) (c c' d d' : Nat) (w : World) (s1 : Sl w w.heap.size .u32 A 1 c [x]) (s2 : Sl w w.heap.size .u32 A' 1 c' [y]) (s3 : Sl w w.heap.size .u32 C 1 d [x]) (s4 : Sl w w.heap.size .u32 C' 1 d' [y]) :
    Calls Try.prog 87 #[.agg #[.slice A 1 c, .slice A' 1 c'], .agg #[.slice C 1 d, .slice C' 1 d']] w fun e w' => e = .returned (.tuple #[.int .i64 0, .int .i64 0]) ∧ Below w.heap.size w w' := by
  refine (xfcompare_c ⟨A, 1, c, [x], A', 1, c', [y]⟩ ⟨C, 1, d, [x], C', 1, d', [y]⟩ w w.heap.size ⟨s1, s2, Digs.one hx', Digs.one hy'⟩ ⟨s3, s4, Digs.one hx', Digs.one hy'⟩ (Nat.le_refl _)).mono ?_
  rintro e w' ⟨rfl, hb⟩
  refine ⟨?_, hb⟩
  obtain ⟨e1, e2⟩ := err1 (f := ⟨A, 1, c, [x], A', 1, c', [y]⟩) rfl rfl rfl hy
  obtain ⟨e3, e4⟩ := err1 (f := ⟨C, 1, d, [x], C', 1, d', [y]⟩) rfl rfl rfl hy
  have he : errV [⟨A, 1, c, [x], A', 1, c', [y]⟩, ⟨C, 1, d, [x], C', 1, d', [y]⟩] = 0 := by unfold errV; simp [e1, e2, e3, e4]
  unfold fcmpV
  rw [he, if_pos rfl, ordI_eq rfl]
end Go.Proofs.Ytchhkokpjdkkiaa.Ex
namespace Go.Proofs.Ytchhkokpjdkkiaa
open Go.RowKit
set_option maxRecDepth 100000 in
set_option maxHeartbeats 3200000 in
theorem frac1_c (x y : Nat) (hx : 0 < x) (hx' : x < 4294967296) (hy : 0 < y) (hy' : y < 4294967296) (A A' : Option Addr) (c c' : Nat) (w : World) (s1 : Ex.Sl w w.heap.size .u32 A 1 c [x]) (s2 : Ex.Sl w w.heap.size .u32 A' 1 c' [y]) :
    Calls Try.prog 50 #[.agg #[.slice A 1 c, .slice A' 1 c'], .int .u64 (x : Int), .int .u64 (y : Int)] w fun e w' => e = .returned (.bool true) ∧ Below w.heap.size w w' := by
  have hB := Blk.newAt w 131 #[.slice A 1 c, .slice A' 1 c'] w.heap.size rfl
  have hb0 := (Below.refl w.heap.size w).alloc (Nat.le_refl _) (.cells #[.slice A 1 c, .slice A' 1 c'] 131)
  have H1 := hide (fun W => Ex.ofs_c x hx hx' W)
  have H2 := hide (fun W => Ex.ofs_c y hy hy' W)
  go_enter Try.func50, Try.ntmps50
  go_upto_region 1 with fail
  obtain ⟨wA, hwA⟩ : ∃ q, q = w.alloc (.cells #[.slice A 1 c, .slice A' 1 c'] 131) := ⟨_, rfl⟩
  rw [← hwA] at hB hb0 ⊢
  have t1 := (s1.below hb0).mono hb0.size
  have t2 := (s2.below hb0).mono hb0.size
  obtain ⟨gF, hgF⟩ : ∃ q, q = w.heap.size := ⟨_, rfl⟩
  rw [← hgF] at hB ⊢
  clear hwA hgF s1 s2
  have HK := hide (fun W (h : Below wA.heap.size wA W) => (show W.cell? ⟨gF, 0, none⟩ = some (.slice A 1 c) ∧ W.cell? ⟨gF, 1, none⟩ = some (.slice A' 1 c') from ⟨(hB.keep h).cell 0, (hB.keep h).cell 1⟩))
  have HD := hide (show Below wA.heap.size wA wA.drew from below_drewN (Below.refl _ _) 1)
  have HC := hide (fun W g1 c1 g2 c2 (h : Below wA.heap.size wA W) (s3 : Ex.Sl W W.heap.size .u32 (some ⟨g1, 0, none⟩) 1 c1 [x]) (s4 : Ex.Sl W W.heap.size .u32 (some ⟨g2, 0, none⟩) 1 c2 [y]) => Ex.cmps_c x y hx' hy hy' A A' _ _ c c' c1 c2 W ((t1.below h).mono h.size) ((t2.below h).mono h.size) s3 s4)
  have k0 := hB.cell 0
  have k1 := hB.cell 1
  simp only [List.getElem?_toArray, List.getElem?_cons_zero, List.getElem?_cons_succ] at k0 k1
  clear t1 t2
  go_region_held3 (fun W => W.cell? ⟨gF, 0, none⟩ = some (.slice A 1 c) ∧ W.cell? ⟨gF, 1, none⟩ = some (.slice A' 1 c')) (first | exact HK.out _ (Below.refl _ _) | exact HK.out _ HD.out | exact HK.out _ (below_on HD.out hb1) | exact HK.out _ (below_on (below_on HD.out hb1) hb2) | exact HK.out _ (below_on (below_on (below_on HD.out hb1) hb2) hb3)) (first | (go_at_call 49; (first | (with_reducible refine (H1.out _).mono ?_; rintro e w1 ⟨g1, c1, rfl, s3, hb1⟩) | (with_reducible refine (H2.out _).mono ?_; rintro e w2 ⟨g2, c2, rfl, s4, hb2⟩))) | (go_at_call 87; refine (HC.out _ _ _ _ _ (below_on (below_on HD.out hb1) hb2) ((s3.below hb2).mono hb2.size) s4).mono ?_; rintro e w3 ⟨rfl, hb3⟩))
  have hbz := below_on (below_on (below_on HD.out hb1) hb2) hb3
  have z1 := (hB.keep hbz).cell 1
  simp only [List.getElem?_toArray, List.getElem?_cons_zero, List.getElem?_cons_succ] at z1
  clear hb1 hb2 hb3 s3 s4 HC HK HD k0 k1 H1 H2
  go_wp2
  go_ret
  exact ⟨rfl, below_on hb0 hbz⟩
theorem bound_small {A A' : Option Addr} {c c' : Nat} {b err : Int} (h : Ex.SBound 4 2 0 ⟨A, 1, c, [1], A', 1, c', [6]⟩ b err) : b = 1 ∧ err = 0 := by
  obtain ⟨e1, e2⟩ := Ex.err1 (f := ⟨A, 1, c, [1], A', 1, c', [6]⟩) rfl rfl rfl (show 0 < 6 by omega)
  have he : Ex.errV [⟨A, 1, c, [1], A', 1, c', [6]⟩] = 0 := by unfold Ex.errV; simp [e1, e2]
  rcases h with ⟨h1, _⟩ | ⟨_, h2, _⟩ | ⟨_, _, h3, _⟩ | ⟨_, _, _, h4, h5⟩
  · exact absurd he h1
  · exact absurd ⟨by decide, by omega, by omega⟩ h2
  · rw [Ex.val1, Ex.val1] at h3; omega
  · refine ⟨?_, h5⟩
    rw [h4, Ex.val1, Ex.val1]
    show ((Ex.bsN (Ex.possN 4 2 0 1 6) 0 4 : Nat) : Int) = 1
    rw [Ex.bsN_down (by omega) (by decide), Ex.bsN_up (by omega) (by decide), Ex.bsN_end (by omega)]
    rfl
set_option maxRecDepth 100000 in
set_option maxHeartbeats 3200000 in
theorem rate_c (A A' : Option Addr) (c c' : Nat) (w : World) (s1 : Ex.Sl w w.heap.size .u32 A 1 c [1]) (s2 : Ex.Sl w w.heap.size .u32 A' 1 c' [6]) :
    Calls Try.prog 48 #[.int .i64 4, .int .i64 2, .int .i64 0, .agg #[.slice A 1 c, .slice A' 1 c']] w fun e w' => e = .returned (.tuple #[.agg #[.int .i64 4, .int .i64 2, .int .i64 0, .int .i64 1, .int .i64 1], .int .i64 0]) ∧ Below w.heap.size w w' := by
  have hB := Blk.newAt w 131 #[.slice A 1 c, .slice A' 1 c'] w.heap.size rfl
  have hb0 := (Below.refl w.heap.size w).alloc (Nat.le_refl _) (.cells #[.slice A 1 c, .slice A' 1 c'] 131)
  have hE := Blk.newAt (w.alloc (.cells #[.slice A 1 c, .slice A' 1 c'] 131)) 135 #[.int .i64 0, .int .i64 0, .int .i64 0, .int .i64 0, .int .i64 0] (w.heap.size + 1) (by simp)
  have hB := hB.alloc (.cells #[.int .i64 0, .int .i64 0, .int .i64 0, .int .i64 0, .int .i64 0] 135)
  have hb0 := hb0.alloc hb0.size (.cells #[.int .i64 0, .int .i64 0, .int .i64 0, .int .i64 0, .int .i64 0] 135)
  go_enter Try.func48, Try.ntmps48
  go_upto_region 1 with fail
  obtain ⟨wA, hwA⟩ : ∃ q, q = (w.alloc (.cells #[.slice A 1 c, .slice A' 1 c'] 131)).alloc (.cells #[.int .i64 0, .int .i64 0, .int .i64 0, .int .i64 0, .int .i64 0] 135) := ⟨_, rfl⟩
  rw [← hwA] at hB hb0 hE ⊢
  have t1 := (s1.below hb0).mono hb0.size
  have t2 := (s2.below hb0).mono hb0.size
  have HG := hide (show w.heap.size ≤ w.heap.size + 1 by omega)
  obtain ⟨gE, hgE⟩ : ∃ q, q = w.heap.size + 1 := ⟨_, rfl⟩
  rw [← hgE] at hE HG ⊢
  obtain ⟨gF, hgF⟩ : ∃ q, q = w.heap.size := ⟨_, rfl⟩
  rw [← hgF] at hB ⊢
  clear hwA hgF hgE s1 s2
  have HC := hide ((Ex.xbound_c 4 2 0 ⟨A, 1, c, [1], A', 1, c', [6]⟩ wA wA.heap.size ⟨t1, t2, Ex.Digs.one (by omega), Ex.Digs.one (by omega)⟩ (Nat.le_refl _)).mono fun e w' h => (by
    obtain ⟨b, err, he, hS, hb⟩ := h
    obtain ⟨rfl, rfl⟩ := bound_small hS
    exact ⟨he, hb⟩ : e = .returned (.tuple #[.int .i64 1, .int .i64 0]) ∧ Below wA.heap.size wA w'))
  clear t1 t2
  go_upto_region 4 with (first | (refine wl_load (o := ⟨some 16, _, _, _, _, _⟩) rfl 131 _ rfl gF rfl 131 #[.slice A 1 c, .slice A' 1 c'] _ hB Try.underlying131 rfl (by kernel_rfl) ?_) | (go_at_call 85; refine HC.out.mono ?_; rintro e w1 ⟨rfl, hb1⟩))
  have hE1 := hE.keep hb1
  go_wp2_with (refine wl_store (o := ⟨none, _, _, _, _, _⟩) rfl 135 _ _ rfl gE #[.int .i64 4, .int .i64 2, .int .i64 0, .int .i64 1, .int .i64 1] rfl rfl 135 #[.int .i64 0, .int .i64 0, .int .i64 0, .int .i64 0, .int .i64 0] hE1 (by kernel_rfl) rfl (by simp [Value.oneCell']) ?_; intro w5 hO5 hg5)
  exact bodyPost_ret (results_row_tmp rfl _ _ gE _ _ _ rfl hO5 Try.underlying135 rfl (by kernel_rfl)) rfl ⟨rfl, below_grown (hb0.trans (hb1.mono hb0.size)) hg5 HG.out (Nat.le_refl _)⟩
end Go.Proofs.Ytchhkokpjdkkiaa

namespace Go.Proofs.Ytchhkokpjdkkiaa
open Go.RowKit

set_option maxRecDepth 100000 in
theorem of1k_c (g k : Nat) (w : World) (hc : w.cell? ⟨g, 0, none⟩ = some (.int .i64 (k : Int))) : Calls Try.prog 31 #[.int .i64 (k : Int), .pointer (some ⟨g, 0, none⟩)] w fun e w' => e = .returned (.bool true) ∧ w = w' := by
  go_enter Try.func31, Try.ntmps31
  go_wp2
  go_ret
  exact ⟨rfl, rfl⟩
set_option maxRecDepth 100000 in
set_option maxHeartbeats 1600000 in
theorem sumOf_c (A : Option Addr) (c k m : Nat) (w : World) (g : Nat) (hg : g < w.heap.size) (hc : w.cell? ⟨g, 0, none⟩ = some (.int .i64 (k : Int))) (r : Rd eItm w w.heap.size A 1 c [(k, m)]) (h1 : 1 ≤ k) (h2 : k ≤ 4) (h3 : m ≤ 65536) :
    Calls Try.prog 30 #[.slice A 1 c, .func (.func 31) #[] #[.pointer (some ⟨g, 0, none⟩)]] w fun e w' => e = .returned (.tuple #[.int .i64 (m : Int), .int .i64 0]) ∧ Below w.heap.size w w' := by
  have hm := r.max
  have hcap := r.cap
  have HC := hide (dCheck_c A 1 c [(k, m)] w r (by omega) (fun x hx => by rw [List.mem_singleton.1 hx]; exact ⟨h1, h2, h3⟩))
  obtain ⟨b1, o1, x, rfl, hb1, hx, hc1⟩ := r.get (i := 0) (by omega)
  obtain rfl := Option.some.inj hx
  have c0 := hc1 0 _ rfl
  have c1 := hc1 1 _ rfl
  simp only [eItm, Nat.add_zero, Nat.zero_mul] at c0 c1
  have HX := hide (And.intro c0 (And.intro c1 hb1))
  clear hc1 hx c0 c1 r hb1
  go_enter Try.func30, Try.ntmps30
  go_wp2_with (go_at_call 27; refine HC.out.mono ?_; rintro e w1 ⟨rfl, hb1⟩)
  have HB1 := hide hb1
  clear hb1
  go_loopw [17, 7] (fun iv nv wr => ((iv = .int .i64 0 ∧ nv = .int .i64 0) ∨ (iv = .int .i64 1 ∧ nv = .int .i64 (m : Int))) ∧ Below w.heap.size w wr) (fun iv _ _ => 1 - (intOf iv).toNat)
  case atStart => exact ⟨.inl ⟨rfl, rfl⟩, HB1.out⟩
  case round =>
    obtain ⟨⟨rfl, rfl⟩ | ⟨rfl, rfl⟩, hb⟩ := hrel
    · have c0 := (hb.cell (p := ⟨b1, o1, none⟩) HX.out.2.2).trans HX.out.1
      have c1 := (hb.cell (p := ⟨b1, o1 + 1, none⟩) HX.out.2.2).trans HX.out.2.1
      have HK := hide (fun W (h : Below w.heap.size w W) => of1k_c g k W ((h.cell (p := ⟨g, 0, none⟩) hg).trans hc))
      have HW := hide (hb.alloc hb.size (.cells #[.int .i64 (k : Int), .int .i64 (m : Int)] 103))
      clear hb
      go_wp2_with (go_at_call 31; refine (HK.out _ HW.out).mono ?_; rintro e w2 ⟨rfl, hq⟩; rw [← hq]; clear hq)
      go_roundw
      case rel => exact ⟨.inr ⟨rfl, by go_num⟩, HW.out⟩
      case measure => simp [intOf]
    · have HW := hide hb
      clear hb
      go_wp2
      go_ret2
      exact ⟨rfl, HW.out⟩
set_option maxRecDepth 100000 in
set_option maxHeartbeats 1600000 in
theorem sumTot_c (A : Option Addr) (c k m : Nat) (w : World) (r : Rd eItm w w.heap.size A 1 c [(k, m)]) (h1 : 1 ≤ k) (h2 : k ≤ 4) (h3 : m ≤ 65536) :
    Calls Try.prog 30 #[.slice A 1 c, .func (.func 28) #[] #[]] w fun e w' => e = .returned (.tuple #[.int .i64 (m : Int), .int .i64 0]) ∧ Below w.heap.size w w' := by
  have hm := r.max
  have hcap := r.cap
  have HC := hide (dCheck_c A 1 c [(k, m)] w r (by omega) (fun x hx => by rw [List.mem_singleton.1 hx]; exact ⟨h1, h2, h3⟩))
  obtain ⟨b1, o1, x, rfl, hb1, hx, hc1⟩ := r.get (i := 0) (by omega)
  obtain rfl := Option.some.inj hx
  have c0 := hc1 0 _ rfl
  have c1 := hc1 1 _ rfl
  simp only [eItm, Nat.add_zero, Nat.zero_mul] at c0 c1
  have HX := hide (And.intro c0 (And.intro c1 hb1))
  clear hc1 hx c0 c1 r hb1
  go_enter Try.func30, Try.ntmps30
  go_wp2_with (go_at_call 27; refine HC.out.mono ?_; rintro e w1 ⟨rfl, hb1⟩)
  have HB1 := hide hb1
  clear hb1
  go_loopw [17, 7] (fun iv nv wr => ((iv = .int .i64 0 ∧ nv = .int .i64 0) ∨ (iv = .int .i64 1 ∧ nv = .int .i64 (m : Int))) ∧ Below w.heap.size w wr) (fun iv _ _ => 1 - (intOf iv).toNat)
  case atStart => exact ⟨.inl ⟨rfl, rfl⟩, HB1.out⟩
  case round =>
    obtain ⟨⟨rfl, rfl⟩ | ⟨rfl, rfl⟩, hb⟩ := hrel
    · have c0 := (hb.cell (p := ⟨b1, o1, none⟩) HX.out.2.2).trans HX.out.1
      have c1 := (hb.cell (p := ⟨b1, o1 + 1, none⟩) HX.out.2.2).trans HX.out.2.1
      have HK := hide (fun W => kindOK_c k W h1 h2)
      have HW := hide (hb.alloc hb.size (.cells #[.int .i64 (k : Int), .int .i64 (m : Int)] 103))
      clear hb
      go_wp2_with (go_at_call 28; refine (HK.out _).mono ?_; rintro e w2 ⟨rfl, hq⟩; rw [← hq]; clear hq)
      go_roundw
      case rel => exact ⟨.inr ⟨rfl, by go_num⟩, HW.out⟩
      case measure => simp [intOf]
    · have HW := hide hb
      clear hb
      go_wp2
      go_ret2
      exact ⟨rfl, HW.out⟩
set_option maxRecDepth 100000 in
set_option maxHeartbeats 1600000 in
theorem dOf_c (A : Option Addr) (c k m : Nat) (w : World) (r : Rd eItm w w.heap.size A 1 c [(k, m)]) (h1 : 1 ≤ k) (h2 : k ≤ 4) (h3 : m ≤ 65536) :
    Calls Try.prog 10 #[.slice A 1 c, .int .i64 (k : Int)] w fun e w' => e = .returned (.tuple #[.int .i64 (m : Int), .int .i64 0]) ∧ Below w.heap.size w w' := by
  have hb0 := below_alloc w (.cells #[.int .i64 (k : Int)] 3)
  have hB0 := Blk.newAt w 3 #[.int .i64 (k : Int)] w.heap.size rfl
  have HK := hide (fun W => kindOK_c k W h1 h2)
  have q0 := hB0.cell 0
  simp only [List.getElem?_toArray, List.getElem?_cons_zero] at q0
  have HS := hide (sumOf_c A c k m (w.alloc (.cells #[.int .i64 (k : Int)] 3)) w.heap.size hB0.lt q0 (r.alloc _) h1 h2 h3)
  have HB := hide (And.intro hb0 hB0)
  have hmf : ∀ (fn : Fn) (first cap : Array Value) (w : World), (Instr.makeFunc fn first cap).run Try.prog w = .ok (.func fn first cap) w := fun _ _ _ _ => rfl
  clear hb0 hB0 q0 r
  go_enter Try.func10, Try.ntmps10
  go_wp2_with (first | (go_at_call 30; refine HS.out.mono ?_; rintro e w2 ⟨rfl, hb2⟩; have q0 := (HB.out.2.keep hb2).cell 0; simp only [List.getElem?_toArray, List.getElem?_cons_zero] at q0; have HB2 := hide (below_on HB.out.1 hb2); clear hb2) | (go_at_call 28; refine (HK.out _).mono ?_; rintro e w3 ⟨rfl, hq⟩; rw [← hq]; clear hq))
  go_ret2
  exact ⟨rfl, HB2.out⟩
set_option maxRecDepth 100000 in
theorem dTotal_c (A : Option Addr) (c k m : Nat) (w : World) (r : Rd eItm w w.heap.size A 1 c [(k, m)]) (h1 : 1 ≤ k) (h2 : k ≤ 4) (h3 : m ≤ 65536) :
    Calls Try.prog 60 #[.slice A 1 c] w fun e w' => e = .returned (.tuple #[.int .i64 (m : Int), .int .i64 0]) ∧ Below w.heap.size w w' := by
  have HS := hide (sumTot_c A c k m w r h1 h2 h3)
  go_enter Try.func60, Try.ntmps60
  go_wp2_with (go_at_call 30; refine HS.out.mono ?_; rintro e w2 ⟨rfl, hb2⟩)
  go_ret2
  exact ⟨rfl, hb2⟩
theorem ball0_c (w : World) : Calls Try.prog 92 #[.int .i64 64, .int .i64 0] w fun e w' => ∃ A c, e = .returned (.tuple #[.slice A 1 c, .int .i64 0]) ∧ Ex.Sl w' w'.heap.size .u32 A 1 c [1] ∧ Below w.heap.size w w' :=
  (Ex.xball_c 64 0 w (by omega) (by omega)).mono fun e w' h => by
    obtain ⟨A, n, c, l, err, rfl, s, hS, hb⟩ := h
    rcases hS with ⟨_, _, hn, rfl⟩ | ⟨h, _⟩
    · obtain rfl : l = [1] := hn.uniq (Ex.num_one _ 1 (by omega) (by omega)) (by omega)
      obtain rfl : 1 = n := s.len
      exact ⟨A, c, rfl, s, hb⟩
    · exact absurd ⟨by omega, by omega⟩ h
theorem bits1_c (A : Option Addr) (c : Nat) (w : World) (h : Ex.Sl w w.heap.size .u32 A 1 c [1]) : Calls Try.prog 93 #[.slice A 1 c] w fun e w' => e = .returned (.tuple #[.int .i64 1, .int .i64 0]) ∧ w = w' :=
  Ex.xbits_c A 1 c [1] w w.heap.size h (Ex.Digs.one (by omega))
set_option maxRecDepth 100000 in
theorem cost0_c (w : World) : Calls Try.prog 61 #[.int .i64 64, .int .i64 0] w fun e w' => e = .returned (.tuple #[.int .i64 1, .int .i64 0]) ∧ Below w.heap.size w w' := by
  have HA := hide (ball0_c w)
  go_enter Try.func61, Try.ntmps61
  go_wp2_with (first | (go_at_call 92; refine HA.out.mono ?_; rintro e w1 ⟨A, c, rfl, s, hb⟩; have HS := hide s; have HB := hide hb; clear s hb) | (go_at_call 93; refine (bits1_c _ _ _ HS.out).mono ?_; rintro e w2 ⟨rfl, hq⟩; rw [← hq]; clear hq))
  go_ret2
  exact ⟨rfl, HB.out⟩
set_option maxRecDepth 100000 in
set_option maxHeartbeats 1600000 in
theorem length37_c (A : Option Addr) (c : Nat) (w : World) (r : Rd eItm w w.heap.size A 1 c [(3, 16)]) :
    Calls Try.prog 33 #[.int .i64 64, .int .i64 0, .slice A 1 c, .int .i64 10] w fun e w' => e = .returned (.tuple #[.int .i64 37, .int .i64 0]) ∧ Below w.heap.size w w' := by
  have HT := hide (fun W (h : Below w.heap.size w W) => dTotal_c A c 3 16 W (r.on h) (by omega) (by omega) (by omega))
  have B0 := hide (fun W => between_c 64 0 512 W (by omega) (by omega))
  have B1 := hide (fun W => between_c 0 0 512 W (by omega) (by omega))
  have B2 := hide (fun W => between_c 10 0 512 W (by omega) (by omega))
  have HC := hide cost0_c
  clear r
  have i0 : ∀ W, (Instr.index 53 (.agg #[.int .i64 64, .int .i64 0, .int .i64 10]) (.int .i64 0)).run Try.prog W = .ok (.int .i64 64) W := fun _ => by kernel_rfl
  have i1 : ∀ W, (Instr.index 53 (.agg #[.int .i64 64, .int .i64 0, .int .i64 10]) (.int .i64 1)).run Try.prog W = .ok (.int .i64 0) W := fun _ => by kernel_rfl
  have i2 : ∀ W, (Instr.index 53 (.agg #[.int .i64 64, .int .i64 0, .int .i64 10]) (.int .i64 2)).run Try.prog W = .ok (.int .i64 10) W := fun _ => by kernel_rfl
  go_enter Try.func33, Try.ntmps33
  go_wp2
  go_loopw [19] (fun iv wr => (iv = .int .i64 0 ∨ iv = .int .i64 1 ∨ iv = .int .i64 2 ∨ iv = .int .i64 3) ∧ wr = w) (fun iv _ => 3 - (intOf iv).toNat)
  case atStart => exact ⟨.inl rfl, rfl⟩
  case round =>
    obtain ⟨rfl | rfl | rfl | rfl, hw⟩ := hrel
    · rw [hw]
      go_wp2_with (go_at_call 29; refine (B0.out _).mono ?_; rintro e w2 ⟨rfl, hq⟩; rw [← hq]; clear hq)
      go_roundw
      case rel => exact ⟨.inr (.inl rfl), trivial⟩
      case measure => simp [intOf]
    · rw [hw]
      go_wp2_with (go_at_call 29; refine (B1.out _).mono ?_; rintro e w2 ⟨rfl, hq⟩; rw [← hq]; clear hq)
      go_roundw
      case rel => exact ⟨.inr (.inr (.inl rfl)), trivial⟩
      case measure => simp [intOf]
    · rw [hw]
      go_wp2_with (go_at_call 29; refine (B2.out _).mono ?_; rintro e w2 ⟨rfl, hq⟩; rw [← hq]; clear hq)
      go_roundw
      case rel => exact ⟨.inr (.inr (.inr rfl)), trivial⟩
      case measure => simp [intOf]
    · rw [hw]
      go_wp2_with (first | (go_at_call 60; refine (HT.out _ (Below.refl _ _)).mono ?_; rintro e w2 ⟨rfl, hb2⟩; have HB2 := hide hb2; clear hb2) | (go_at_call 61; refine (HC.out _).mono ?_; rintro e w3 ⟨rfl, hb3⟩; have HB3 := hide hb3; clear hb3))
      go_ret2
      exact ⟨rfl, below_on HB2.out HB3.out⟩
end Go.Proofs.Ytchhkokpjdkkiaa

namespace Go.Proofs.Ytchhkokpjdkkiaa
open Go.RowKit

set_option maxRecDepth 100000 in
set_option maxHeartbeats 1600000 in
theorem parity_c (A : Option Addr) (n c : Nat) (b : List Bool) (A' : Option Addr) (m c' : Nat) (L : List Nat) (w : World) (r : Rd eBool w w.heap.size A n c b) (q : Rd eNat w w.heap.size A' m c' L) (hL : ∀ j ∈ L, j < n) :
    Calls Try.prog 26 #[.slice A n c, .slice A' m c'] w fun e w' => e = .returned (.bool (parL b L)) ∧ w' = w := by
  have hm := r.max
  have hcap := r.cap
  have hm' := q.max
  have hcap' := q.cap
  have HQL := hide q.len
  have HL := hide hL
  clear hL
  go_enter Try.func26, Try.ntmps26
  go_wp2
  go_loopw [10, 5] (fun iv ov wr => ∃ k : Nat, k ≤ m ∧ iv = .int .i64 k ∧ ov = .bool (parL b (L.take k)) ∧ wr = w) (fun iv _ _ => m - (intOf iv).toNat)
  case atStart => exact ⟨0, Nat.zero_le _, rfl, rfl, rfl⟩
  case round =>
    obtain ⟨k, hk, rfl, rfl, hwr⟩ := hrel
    rw [hwr]
    clear hwr
    obtain ⟨o, ho⟩ : ∃ q, q = parL b (L.take k) := ⟨_, rfl⟩
    rw [← ho]
    have HO := hide ho
    clear ho
    by_cases hlt : k < m
    · obtain ⟨b1, o1, i, rfl, hb1, hi, hc1⟩ := q.get hlt
      have c0 := hc1 0 _ rfl
      simp only [eNat, Nat.add_zero, Nat.mul_one] at c0
      have hin := HL.out i (List.mem_of_getElem? hi)
      obtain ⟨b2, o2, x, rfl, hb2, hx, hc2⟩ := r.get hin
      have d0 := hc2 0 _ rfl
      simp only [eBool, Nat.add_zero, Nat.mul_one] at d0
      have HS := hide (show parL b (L.take (k + 1)) = (o != x) by rw [parL_take hi, HO.out, List.getD_eq_getElem?_getD, hx]; rfl)
      have hi0 : (0 : Int) ≤ (i : Int) := by omega
      have hi1 : (i : Int) < (n : Int) := by omega
      clear hc1 hc2 hi hx hb1 hb2
      go_wp2
      go_roundw
      case rel => exact ⟨k + 1, by omega, by go_num, by rw [HS.out]; cases o <;> cases x <;> rfl, trivial⟩
      case measure => simp [intOf] <;> omega
    · have HR := hide (show o = parL b L by rw [HO.out, List.take_of_length_le (by have := HQL.out; omega)])
      go_wp2
      go_ret
      exact ⟨by rw [HR.out]; rfl, rfl⟩
/-- A plan. -/
structure Cas where
  p : Nat
  bl : Nat
  sd : Nat
def casV (c : Cas) : Array Value := #[.int .i64 c.p, .int .i64 c.bl, .int .u64 c.sd]
def okCas (c : Cas) : Prop := 1 ≤ c.p ∧ c.p ≤ 6 ∧ 1 ≤ c.bl ∧ c.bl ≤ 512 ∧ c.sd < 18446744073709551616
set_option maxRecDepth 100000 in
set_option maxHeartbeats 1600000 in
theorem rcCheck_c (c : Cas) (h : okCas c) (w : World) : Calls Try.prog 23 #[.agg (casV c)] w fun e w' => e = .returned (.int .i64 0) ∧ Below w.heap.size w w' := by
  obtain ⟨p, bl, sd⟩ := c
  obtain ⟨h1, h2, h3, h4, h5⟩ := h
  simp only at h1 h2 h3 h4
  have hb := below_alloc w (.cells (casV ⟨p, bl, sd⟩) 34)
  have g1 : ¬ ((p : Int) < 1) := by omega
  have g2 : ¬ ((p : Int) > 6) := by omega
  have g3 : ¬ ((bl : Int) < 1) := by omega
  have g4 : ¬ ((bl : Int) > 512) := by omega
  have p1 : ¬ (p < 1) := by omega
  have p2 : ¬ (6 < p) := by omega
  have p3 : ¬ (bl < 1) := by omega
  have p4 : ¬ (512 < bl) := by omega
  have z1 : ¬ (p = 0) := by omega
  have z2 : ¬ (bl = 0) := by omega
  simp only [casV] at hb ⊢
  go_enter Try.func23, Try.ntmps23
  go_wp2
  go_ret
  exact ⟨rfl, hb⟩
set_option maxRecDepth 100000 in
set_option maxHeartbeats 1600000 in
theorem rsane_c (c : Cas) (h : okCas c) (n : Nat) (hn : n ≤ 512) (w : World) : Calls Try.prog 53 #[.agg (casV c), .int .i64 (n : Int)] w fun e w' => e = .returned (.int .i64 0) ∧ Below w.heap.size w w' := by
  have HC := hide (fun W => rcCheck_c c h W)
  obtain ⟨p, bl, sd⟩ := c
  have hb := below_alloc w (.cells (casV ⟨p, bl, sd⟩) 34)
  have hB := Blk.newAt w 34 (casV ⟨p, bl, sd⟩) w.heap.size rfl
  have g1 : ¬ ((n : Int) > 512) := by omega
  have g2 : ¬ (512 < n) := by omega
  simp only [casV] at hb hB HC ⊢
  go_enter Try.func53, Try.ntmps53
  go_wp2_with (first | (refine wl_load (o := ⟨some 6, _, _, _, _, _⟩) rfl 34 _ rfl w.heap.size rfl 34 #[.int .i64 (p : Int), .int .i64 (bl : Int), .int .u64 (sd : Int)] _ hB Try.underlying34 rfl (by kernel_rfl) ?_) | (go_at_call 23; refine (HC.out _).mono ?_; rintro e w1 ⟨rfl, hb1⟩))
  go_ret
  exact ⟨rfl, below_on hb hb1⟩
theorem info_boolT : (Try.prog.info? 4).map (fun i => (i.zero, i.size, i.bytes)) = some (some (.bool false), 1, 1) := by kernel_rfl
end Go.Proofs.Ytchhkokpjdkkiaa

namespace Go.Proofs.Ytchhkokpjdkkiaa
open Go.RowKit

def a1 (s : Nat) : Nat := 4906513781625342421 * s % 18446744073709551616
def h32 (t : Nat) : Nat := t / 4294967296
def x32 (t : Nat) : Nat := t ^^^ t / 4294967296
def h29 (t : Nat) : Nat := t / 536870912
theorem u64_wrap (n : Nat) : IntKind.u64.wrap (n : Int) = ((n % 18446744073709551616 : Nat) : Int) := by
  simp [IntKind.wrap, IntKind.bits, IntKind.signed]
theorem u64_wrap_lt (n : Nat) (h : n < 18446744073709551616) : IntKind.u64.wrap (n : Int) = (n : Int) := by
  rw [u64_wrap, Nat.mod_eq_of_lt h]
theorem w1 (s : Nat) : IntKind.u64.wrap ((s : Int) * 4906513781625342421) = ((a1 s : Nat) : Int) := by
  rw [show (s : Int) * 4906513781625342421 = ((4906513781625342421 * s : Nat) : Int) by omega, u64_wrap]; rfl
theorem w1' (s : Nat) : IntKind.u64.wrap (4906513781625342421 * (s : Int)) = ((a1 s : Nat) : Int) := by
  rw [show 4906513781625342421 * (s : Int) = ((4906513781625342421 * s : Nat) : Int) by omega, u64_wrap]; rfl
theorem w2 (s : Nat) : IntKind.u64.wrap ((a1 s : Int) + 1181783497276652981) = ((nx s : Nat) : Int) := by
  rw [show (a1 s : Int) + 1181783497276652981 = ((a1 s + 1181783497276652981 : Nat) : Int) by omega, u64_wrap]
  unfold a1 nx; rw [Nat.mod_add_mod]
theorem w3' (t : Nat) (ht : t < 18446744073709551616) : IntKind.u64.wrap ((t : Int).tdiv 4294967296) = ((h32 t : Nat) : Int) := by
  rw [Int.tdiv_eq_ediv_of_nonneg (by omega), show (t : Int) / 4294967296 = ((t / 4294967296 : Nat) : Int) by omega, u64_wrap_lt _ (by omega)]; rfl
theorem w3 (t : Nat) : (t : Int) / 4294967296 = ((h32 t : Nat) : Int) := by unfold h32; omega
theorem w4 (t : Nat) (ht : t < 18446744073709551616) : bits .xor .u64 (t : Int) (h32 t : Int) = ((x32 t : Nat) : Int) := u64_xor_nat t (h32 t) ht (by unfold h32; omega)
theorem w5 (t : Nat) : IntKind.u64.wrap ((x32 t : Int) * 7809847782465536323) = ((ny1 t : Nat) : Int) := by
  rw [show (x32 t : Int) * 7809847782465536323 = ((7809847782465536323 * x32 t : Nat) : Int) by omega, u64_wrap]; rfl
theorem w5' (t : Nat) : IntKind.u64.wrap (7809847782465536323 * (x32 t : Int)) = ((ny1 t : Nat) : Int) := by
  rw [show 7809847782465536323 * (x32 t : Int) = ((7809847782465536323 * x32 t : Nat) : Int) by omega, u64_wrap]; rfl
theorem w6' (t : Nat) (ht : t < 18446744073709551616) : IntKind.u64.wrap ((t : Int).tdiv 536870912) = ((h29 t : Nat) : Int) := by
  rw [Int.tdiv_eq_ediv_of_nonneg (by omega), show (t : Int) / 536870912 = ((t / 536870912 : Nat) : Int) by omega, u64_wrap_lt _ (by omega)]; rfl
theorem w6 (t : Nat) : (t : Int) / 536870912 = ((h29 t : Nat) : Int) := by unfold h29; omega
theorem w7 (s : Nat) : bits .xor .u64 (ny1 (nx s) : Int) (h29 (ny1 (nx s)) : Int) = ((ny s : Nat) : Int) := by
  have hb := ny1_lt (nx s)
  exact u64_xor_nat _ _ hb (by unfold h29; omega)

theorem w9 (s n : Nat) (h1 : 1 ≤ n) (h2 : n ≤ 256) : wrap64 ((ny s : Int) % (n : Int)) = ((bel s n : Nat) : Int) := by
  have hb : bel s n < n := Nat.mod_lt _ (by omega)
  rw [show (ny s : Int) % (n : Int) = ((bel s n : Nat) : Int) from rfl]
  unfold wrap64; omega
theorem bel_lt (s n : Nat) (hn : 1 ≤ n) : bel s n < n := Nat.mod_lt _ (by omega)
def Dr (w : World) (D s : Nat) : Prop := Blk w D 195 #[.int .u64 (s : Int), .bool true]
set_option maxRecDepth 100000 in
set_option maxHeartbeats 1600000 in
theorem new_c (s : Nat) (w : World) : Calls Try.prog 67 #[.int .u64 (s : Int)] w fun e w' => e = .returned (.pointer (some ⟨w.heap.size, 0, none⟩)) ∧ Dr w' w.heap.size s ∧ w' = w.alloc (.cells #[.int .u64 (s : Int), .bool true] 195) := by
  go_enter Try.func67, Try.ntmps67
  go_wp2
  go_ret
  exact ⟨rfl, Blk.new _ _ _, rfl⟩
set_option maxRecDepth 100000 in
set_option maxHeartbeats 1600000 in
theorem made_c (D s : Nat) (w : World) (h : Dr w D s) : Calls Try.prog 136 #[.pointer (some ⟨D, 0, none⟩)] w fun e w' => e = .returned (.bool true) ∧ w = w' := by
  have c1 := h.cell 1
  simp at c1
  clear h
  go_enter Try.func136, Try.ntmps136
  go_wp2
  go_ret
  exact ⟨rfl, rfl⟩
set_option maxRecDepth 100000 in
set_option maxHeartbeats 1600000 in
theorem next_c (D s : Nat) (w : World) (h : Dr w D s) : Calls Try.prog 123 #[.pointer (some ⟨D, 0, none⟩)] w fun e w' => e = .returned (.int .u64 (ny s : Int)) ∧ Dr w' D (nx s) ∧ w.grownBy w' (some D) := by
  have c0 := h.cell 0
  have f0 := h.frozen 0
  simp at c0
  have hb := nx_lt s
  have hb2 := ny1_lt (nx s)
  have H1 := hide hb
  have H2 := hide hb2
  clear hb hb2
  go_enter Try.func123, Try.ntmps123
  go_wp2_with (go_at_call 136; refine (made_c D s w h).mono ?_; rintro e w' ⟨rfl, rfl⟩)
  go_quiet (fail)
  go_wp2
  go_ret
  have hset := h.set_ 0 (.int .u64 (nx s : Int))
  simp only [w1, w2, w3, w4 _ H1.out, w5, w6, w7]
  exact ⟨rfl, by unfold Dr; simpa using hset.drewN _, grownBy_drewN (grownBy_setCell _ _ _ _) _⟩

set_option maxRecDepth 100000 in
set_option maxHeartbeats 1600000 in
theorem belowm_c (D s n : Nat) (w : World) (h : Dr w D s) (h1 : 1 ≤ n) (h2 : n ≤ 256) : Calls Try.prog 130 #[.pointer (some ⟨D, 0, none⟩), .int .i64 (n : Int)] w fun e w' => e = .returned (.tuple #[.int .i64 (bel s n : Int), .int .i64 0]) ∧ Dr w' D (nx s) ∧ w.grownBy w' (some D) := by
  have g1 : (1 : Int) ≤ (n : Int) := by omega
  have g2 : (n : Int) ≤ 256 := by omega
  go_enter Try.func130, Try.ntmps130
  go_wp2_with (first | (go_at_call 136; refine (made_c D s w h).mono ?_; rintro e w' ⟨rfl, rfl⟩) | (go_at_call 123; refine (next_c D s w h).mono ?_; rintro e w1 ⟨rfl, hd, hg⟩))
  go_ret2
  simp only [w9 s n h1 h2]
  exact ⟨rfl, hd, hg⟩
set_option maxRecDepth 100000 in
set_option maxHeartbeats 1600000 in
theorem below_c (D s n : Nat) (w : World) (h : Dr w D s) (h1 : 1 ≤ n) (h2 : n ≤ 256) : Calls Try.prog 106 #[.pointer (some ⟨D, 0, none⟩), .int .i64 (n : Int)] w fun e w' => e = .returned (.int .i64 (bel s n : Int)) ∧ Dr w' D (nx s) ∧ w.grownBy w' (some D) := by
  go_enter Try.func106, Try.ntmps106
  go_wp2_with (go_at_call 130; refine (belowm_c D s n w h h1 h2).mono ?_; rintro e w1 ⟨rfl, hd, hg⟩)
  go_ret
  exact ⟨rfl, hd, hg⟩
set_option maxRecDepth 100000 in
set_option maxHeartbeats 1600000 in
theorem chance_c (D s : Nat) (p : Int) (w : World) (h : Dr w D s) : Calls Try.prog 99 #[.pointer (some ⟨D, 0, none⟩), .int .i64 p] w fun e w' => e = .returned (.bool (decide ((bel s 256 : Int) < p))) ∧ Dr w' D (nx s) ∧ w.grownBy w' (some D) := by
  have hc := below_c D s 256 w h (by omega) (by omega)
  go_enter Try.func99, Try.ntmps99
  go_wp2_with (go_at_call 106; refine hc.mono ?_; rintro e w1 ⟨rfl, hd, hg⟩)
  go_ret
  exact ⟨rfl, hd, hg⟩

end Go.Proofs.Ytchhkokpjdkkiaa
