/- Contracts of the reference's nat, reduced. -/
import Derived.Test.YtgilhkdmgbeieaaRe
import Derived.Test.YtgilhkdmgbeieaaWk
namespace Go.Proofs.Ytgilhkdmgbeieaa
open Go.RowKit

/-- A number of the kit's own form, in new memory. -/
def NatF (w : World) (N : Nat) (e : Ending) (w' : World) : Prop :=
  ∃ A n c l, e = .returned (.slice A n c) ∧ Sl w' w'.heap.size .u32 A n c l ∧ Num 4294967296 l N ∧ Below w.heap.size w w' ∧ ∀ b o, A = some ⟨b, o, none⟩ → w.heap.size ≤ b

set_option maxHeartbeats 1600000 in
theorem rnat_c (A : Option Addr) (n c : Nat) (l : List Nat) (N : Nat) (w : World) (B : Nat) (h : Sl w B .i64 A n c l) (hB : B ≤ w.heap.size) (hN : Num 256 l N) (hn : n ≤ 1073741823) :
    Calls Try.prog 81 #[.slice A n c] w (NatF w N) := by
  have hd := hN.dig
  go_enter Try.func81, Try.ntmps81
  go_wp2
  go_loopw [3, 4] (fun ov iv wr => ∃ (k : Nat) (A0 : Option Addr) (n0 c0 : Nat) (lo : List Nat), iv = .int .i64 ((4 * k : Nat) : Int) ∧ ov = .slice A0 n0 c0 ∧ Own wr w.heap.size 58 .u32 A0 n0 c0 lo ∧ NatI l lo k ∧ Below w.heap.size w wr)
    (fun _ iv _ => n + 4 - (intOf iv).toNat)
  case atStart => exact ⟨0, none, 0, 0, [], rfl, rfl, Own.nil _ _ _ _, NatI.start _, Below.refl _ _⟩
  case round =>
    obtain ⟨k, A0, n0, c0, lo, rfl, rfl, ho, hI, hbw⟩ := hrel
    have hk4 := hI.at_
    rw [h.len] at hk4
    obtain rfl : k = n0 := by rw [← ho.len, hI.len]
    have hz := hbw.size
    obtain ⟨wo, rfl⟩ : ∃ wo : World, wo = wr := ⟨_, rfl⟩
    by_cases hlt : 4 * k < n
    · go_wp2
      go_loop [5, 6] (fun dv jv => ∃ (m d : Nat), m ≤ 4 ∧ jv = .int .i64 ((m : Int) - 1) ∧ dv = .int .i64 d ∧ Hid (val 256 ((l.drop (4 * k + m)).take (4 - m)) = d) ∧ d < 4294967296)
        (fun _ jv => (intOf jv + 1).toNat)
      case atStart => exact ⟨4, 0, by omega, rfl, rfl, by show _ = _; simp [val], by omega⟩
      case round =>
        obtain ⟨m, d, hm, rfl, rfl, HD, hd1⟩ := hrel
        by_cases h0 : 0 < m
        · obtain ⟨j, rfl⟩ : ∃ j, m = j + 1 := ⟨m - 1, by omega⟩
          rw [show ((j + 1 : Nat) : Int) - 1 = (j : Int) from by omega]
          have hst := drop_take_step 256 l (4 * k) j (by omega)
          rw [HD.out] at hst
          have hd3 : d < 16777216 := by
            have h1 := val_lt (b := 256) (l := (l.drop (4 * k + (j + 1))).take (4 - (j + 1))) (fun x hx => hd x (List.mem_of_mem_drop (List.mem_of_mem_take hx)))
            rw [HD.out] at h1
            have h2 : (256 : Nat) ^ ((l.drop (4 * k + (j + 1))).take (4 - (j + 1))).length ≤ 256 ^ 3 := Nat.pow_le_pow_right (by omega) (by rw [List.length_take]; omega)
            omega
          rcases (h.below (hbw.mono hB)).cell_or hd (by omega) (4 * k + j) with ⟨hia, b1, o1, x, rfl, hcx, HX, hx1⟩ | ⟨hia, x, hx0, HX, hx1⟩
          · rw [HX.out] at hst
            have HS := hide hst
            clear hst HD
            go_wp2
            go_round
            case rel => exact ⟨j, x + 256 * d, by omega, rfl, by go_num, HS, by omega⟩
            case measure => simp [intOf] <;> omega
          · rw [HX.out] at hst
            have HS := hide hst
            clear hst HD
            go_wp2
            go_round
            case rel => exact ⟨j, x + 256 * d, by omega, rfl, by go_num, HS, by omega⟩
            case measure => simp [intOf] <;> omega
        · obtain rfl : m = 0 := by omega
          have hI2 := hI.step (d := d) (by rw [h.len]; exact hlt) hd1 HD.out
          go_wp2_with (first
            | (at_builtin; refine wl_append _ rfl (.tmp 33) (.tmp 36) _ rfl w.heap.size 58 .u32 4 Try.underlying23 info_u32 (by omega) A0 k c0 lo rfl (ho.alloc _) (some ⟨wo.heap.size, 0, none⟩) 1 1 [d] rfl (wo.heap.size + 1) (Sl.one wo _ _ d (congrArg (Value.int .u32) (by omega))) (by omega) (by simp; omega) ?_; intro A3 c3 w3 o3 hg3 hA3))
          go_roundw
          case rel => exact ⟨k + 1, A3, k + 1, c3, _, by go_num, rfl, o3, hI2, (hbw.alloc hz _).grown hg3 (by simp; omega) (fun k hk => (ho.block k hk).1)⟩
          case measure => simp [intOf] <;> omega
    · have hN3 := hI.done hN (by rw [h.len]; omega)
      go_wp2
      go_ret
      exact ⟨_, _, _, _, rfl, ho.sl, hN3, hbw, fun b o e => (ho.lt e).1⟩

/-- A fraction and an error, in new memory. -/
def FracF (w : World) (S : List Nat → List Nat → Int → Prop) (e : Ending) (w' : World) : Prop :=
  ∃ A n c l A' n' c' l' err, e = .returned (.tuple #[.agg #[.slice A n c, .slice A' n' c'], .int .i64 err]) ∧ Sl w' w'.heap.size .u32 A n c l ∧ Sl w' w'.heap.size .u32 A' n' c' l' ∧ S l l' err ∧ Below w.heap.size w w' ∧
    (∀ b o, A = some ⟨b, o, none⟩ → w.heap.size ≤ b) ∧ (∀ b o, A' = some ⟨b, o, none⟩ → w.heap.size ≤ b)

set_option maxRecDepth 100000 in
set_option maxHeartbeats 3200000 in
theorem rreduced_c (A : Option Addr) (na ca : Nat) (la : List Nat) (A' : Option Addr) (nb cb : Nat) (lb : List Nat) (X Y : Nat) (w : World) (B : Nat) (ha : Sl w B .i64 A na ca la) (hb : Sl w B .i64 A' nb cb lb)
    (hB : B ≤ w.heap.size) (hda : Num 256 la X) (hdb : Num 256 lb Y) (hY : 0 < Y) (hna : na ≤ 1073741823) (hnb : nb ≤ 1073741823) :
    Calls Try.prog 75 #[.slice A na ca, .slice A' nb cb] w (FracF w (SRed X Y)) := by
  obtain ⟨wa, hwa⟩ : ∃ wa, w.alloc (.cells #[.slice none 0 0, .slice none 0 0] 25) = wa := ⟨_, rfl⟩
  have hR := Blk.new w 25 #[.slice none 0 0, .slice none 0 0]
  have hba := (Below.refl w.heap.size w).alloc (Nat.le_refl _) (.cells #[.slice none 0 0, .slice none 0 0] 25)
  rw [hwa] at hR hba
  have HWA := hide hwa
  clear hwa
  have hsa := hR.lt
  obtain ⟨G, HG⟩ : ∃ G, Hid (Nat.gcd X Y = G) := ⟨_, rfl⟩
  have hG : 0 < G := by have := HG.out; rw [← this]; exact Nat.gcd_pos_of_pos_right _ hY
  go_enter Try.func75, Try.ntmps75
  go_wp2_with fail
  rw [HWA.out]
  have sa0 := (ha.below (hba.mono hB)).mono (show B ≤ wa.heap.size by omega)
  have sb0 := (hb.below (hba.mono hB)).mono (show B ≤ wa.heap.size by omega)
  clear ha hb
  have c1 := rgcd_c _ _ _ _ _ _ _ _ X Y wa _ sa0 sb0 (Nat.le_refl _) hda hdb hna hnb
  rw [HG.out] at c1
  refine c1.mono ?_
  rintro e w1 ⟨A1, n1, c1', l1, rfl, s1, N1, hb1⟩
  clear c1
  have sa1 := (sa0.below hb1).mono hb1.size
  have sb1 := (sb0.below hb1).mono hb1.size
  have hR1 := hR.keep hb1
  have hbw1 := hba.trans (hb1.mono (Nat.le_of_lt hsa))
  have hr1 : w.heap.size < w1.heap.size := hR1.lt
  clear sa0 sb0 hR hb1 hba
  have c2 := rdivide_c _ _ _ _ _ _ _ _ X G w1 _ sa1 s1 (Nat.le_refl _) hda N1 hG hna
  go_wp2_with fail
  refine c2.mono ?_
  rintro e w2 ⟨Aq, nq, cq, lq, Ar, nr, cr, lr, rfl, sq, _, hq, _, hb2, _⟩
  clear c2
  have s1b := (s1.below hb2).mono hb2.size
  have sb2 := (sb1.below hb2).mono hb2.size
  have hR2 := hR1.keep hb2
  have hbw2 := hbw1.trans (hb2.mono hbw1.size)
  have hr2 : w.heap.size < w2.heap.size := hR2.lt
  clear sa1 sb1 s1 hR1 hb2 hbw1
  have c3 := rdivide_c _ _ _ _ _ _ _ _ Y G w2 _ sb2 s1b (Nat.le_refl _) hdb N1 hG hnb
  go_wp2_with fail
  refine c3.mono ?_
  rintro e w3 ⟨Ap, np, cp, lp, Ar', nr', cr', lr', rfl, sp, _, hp, _, hb3, _⟩
  clear c3
  have sq3 := (sq.below hb3).mono hb3.size
  have hR3 := hR2.keep hb3
  have hbw3 := hbw2.trans (hb3.mono hbw2.size)
  have hr3 : w.heap.size < w3.heap.size := hR3.lt
  clear sb2 s1b sq hR2 hb3 hbw2
  go_wp2_with fail
  refine (rfits_c _ _ _ _ _ w3 _ sq3 hq).mono ?_
  rintro e w' ⟨rfl, h1 | h1⟩
  · obtain ⟨hF1, hn1, rfl⟩ := h1
    go_wp2_with fail
    refine (rfits_c _ _ _ _ _ w3 _ sp hp).mono ?_
    rintro e w' ⟨rfl, h2 | h2⟩
    · obtain ⟨hF2, hn2, rfl⟩ := h2
      go_wp2_with fail
      refine (rnat_c _ _ _ _ _ w3 _ sq3 (Nat.le_refl _) hq (by omega)).mono ?_
      rintro e w4 ⟨A4, n4, c4, l4, rfl, s4, N4, hb4, hf4⟩
      have hR4 := hR3.keep hb4
      have hbw4 := hbw3.trans (hb4.mono hbw3.size)
      have sp4 := (sp.below hb4).mono hb4.size
      have hr4 : w.heap.size < w4.heap.size := hR4.lt
      clear sq3 sp hR3 hbw3 hb4
      go_wp2_with fail
      refine (rnat_c _ _ _ _ _ w4 _ sp4 (Nat.le_refl _) hp (by omega)).mono ?_
      rintro e w5 ⟨A5, n5, c5, l5, rfl, s5, N5, hb5, hf5⟩
      have hR5 := hR4.keep hb5
      have hbw5 := hbw4.trans (hb5.mono hbw4.size)
      have s4b := (s4.below hb5).mono hb5.size
      clear sp4 hR4 hbw4 hb5 s4
      have hr0 := hR5.cell 0
      have hr1 := hR5.cell 1
      have hf0 := hR5.frozen 0
      have hf1 := hR5.frozen 1
      simp at hr0 hr1
      go_wp2
      have hR8 := hR5.two (.slice A4 n4 c4) (.slice A5 n5 c5)
      have hb8 := below_two hbw5 (Nat.le_refl _) (.slice A4 n4 c4) (.slice A5 n5 c5)
      have p1 := s4b.two (g := w.heap.size) (fun b o e _ => by have := hf4 b o e; omega) (.slice A4 n4 c4) (.slice A5 n5 c5)
      have p2 := s5.two (g := w.heap.size) (fun b o e _ => by have := hf5 b o e; omega) (.slice A4 n4 c4) (.slice A5 n5 c5)
      have hz8 : w5.heap.size = ((w5.setCell ⟨w.heap.size, 0, none⟩ (.slice A4 n4 c4)).setCell ⟨w.heap.size, 1, none⟩ (.slice A5 n5 c5)).heap.size := by simp [World.setCell]
      rw [hz8] at p1 p2
      generalize (w5.setCell ⟨w.heap.size, 0, none⟩ (.slice A4 n4 c4)).setCell ⟨w.heap.size, 1, none⟩ (.slice A5 n5 c5) = w8 at *
      have q0 := hR8.cell 0
      have q1 := hR8.cell 1
      simp at q0 q1
      refine bodyPost_ret (v := .tuple #[.agg #[.slice A4 n4 c4, .slice A5 n5 c5], .int .i64 0]) (by simp [results, Try.results75, go_sem, q0, q1]) rfl ?_
      have := HG.out
      exact ⟨_, _, _, _, _, _, _, _, _, rfl, p1, p2, .inl (by rw [this]; exact ⟨hF1, hF2, N4, N5, rfl⟩), hb8, (fun b o e => by have := hf4 b o e; omega), (fun b o e => by have := hf5 b o e; omega)⟩
    · obtain ⟨hF2, rfl⟩ := h2
      have hr0 := hR3.cell 0
      have hr1 := hR3.cell 1
      have hf0 := hR3.frozen 0
      have hf1 := hR3.frozen 1
      simp at hr0 hr1
      go_wp2
      have hR8 := hR3.two (.slice none 0 0) (.slice none 0 0)
      have hb8 := below_two hbw3 (Nat.le_refl _) (.slice none 0 0) (.slice none 0 0)
      generalize (w3.setCell ⟨w.heap.size, 0, none⟩ (.slice none 0 0)).setCell ⟨w.heap.size, 1, none⟩ (.slice none 0 0) = w8 at *
      have q0 := hR8.cell 0
      have q1 := hR8.cell 1
      simp at q0 q1
      refine bodyPost_ret (v := .tuple #[.agg #[.slice none 0 0, .slice none 0 0], .int .i64 8]) (by simp [results, Try.results75, go_sem, q0, q1]) rfl ?_
      have := HG.out
      exact ⟨_, _, _, _, _, _, _, _, _, rfl, Sl.nil _ _ _ _ _ (by omega), Sl.nil _ _ _ _ _ (by omega), .inr ⟨by rw [this]; exact fun h => hF2 h.2, rfl, rfl, rfl⟩, hb8, (fun _ _ e => by cases e), (fun _ _ e => by cases e)⟩
  · obtain ⟨hF1, rfl⟩ := h1
    have hr0 := hR3.cell 0
    have hr1 := hR3.cell 1
    have hf0 := hR3.frozen 0
    have hf1 := hR3.frozen 1
    simp at hr0 hr1
    go_wp2
    have hR8 := hR3.two (.slice none 0 0) (.slice none 0 0)
    have hb8 := below_two hbw3 (Nat.le_refl _) (.slice none 0 0) (.slice none 0 0)
    generalize (w3.setCell ⟨w.heap.size, 0, none⟩ (.slice none 0 0)).setCell ⟨w.heap.size, 1, none⟩ (.slice none 0 0) = w8 at *
    have q0 := hR8.cell 0
    have q1 := hR8.cell 1
    simp at q0 q1
    refine bodyPost_ret (v := .tuple #[.agg #[.slice none 0 0, .slice none 0 0], .int .i64 8]) (by simp [results, Try.results75, go_sem, q0, q1]) rfl ?_
    have := HG.out
    exact ⟨_, _, _, _, _, _, _, _, _, rfl, Sl.nil _ _ _ _ _ (by omega), Sl.nil _ _ _ _ _ (by omega), .inr ⟨by rw [this]; exact fun h => hF1 h.1, rfl, rfl, rfl⟩, hb8, (fun _ _ e => by cases e), (fun _ _ e => by cases e)⟩
end Go.Proofs.Ytgilhkdmgbeieaa
