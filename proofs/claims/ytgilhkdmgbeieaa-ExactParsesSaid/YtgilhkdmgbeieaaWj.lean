/- The contract of exact's reduced. -/
import Derived.Test.YtgilhkdmgbeieaaWi
import Derived.Test.YtgilhkdmgbeieaaBaseB
namespace Go.Proofs.Ytgilhkdmgbeieaa
open Go.RowKit

/-- A fraction, reduced, or ErrOver. -/
def FracR (w : World) (V D : Nat) (e : Ending) (w' : World) : Prop := Below w.heap.size w w' ∧
  ((Fits (V / Nat.gcd V D) ∧ Fits (D / Nat.gcd V D) ∧ ∃ g n c l g' n' c' l', e = .returned (.tuple #[.agg #[.slice (some ⟨g, 0, none⟩) n c, .slice (some ⟨g', 0, none⟩) n' c'], .int .i64 0]) ∧
      Own w' w.heap.size 58 .u32 (some ⟨g, 0, none⟩) n c l ∧ Num 4294967296 l (V / Nat.gcd V D) ∧ Own w' w.heap.size 58 .u32 (some ⟨g', 0, none⟩) n' c' l' ∧ Num 4294967296 l' (D / Nat.gcd V D)) ∨
   (¬ (Fits (V / Nat.gcd V D) ∧ Fits (D / Nat.gcd V D)) ∧ e = .returned (.tuple #[.agg #[.slice none 0 0, .slice none 0 0], .int .i64 8])))

set_option maxHeartbeats 800000 in
theorem red1_c (N0 O0 : Nat) (A : Option Addr) (n c : Nat) (l : List Nat) (x y : Value) (w : World) (B : Nat) (hN : Blk w N0 23 #[.slice A n c]) (hO : Blk w O0 25 #[x, y]) (hx : ∃ a n c, x = .slice a n c) (hy : ∃ a n c, y = .slice a n c)
    (h : Sl w B .u32 A n c l) (hB : B ≤ w.heap.size) (hd : Digs 4294967296 l) (hn : n ≤ 1099511627776) :
    Calls Try.prog 117 #[.pointer (some ⟨N0, 0, none⟩), .pointer (some ⟨O0, 0, none⟩)] w fun e w' => w.grownBy w' (some O0) ∧
      ((Fits (val 4294967296 l) ∧ ∃ g n c l', e = .returned (.int .i64 0) ∧ Own w' w.heap.size 58 .u32 (some ⟨g, 0, none⟩) n c l' ∧ Num 4294967296 l' (val 4294967296 l) ∧ Blk w' O0 25 #[.slice (some ⟨g, 0, none⟩) n c, y]) ∨
       (¬ Fits (val 4294967296 l) ∧ e = .returned (.int .i64 8))) := by
  obtain ⟨xa, xn, xc, rfl⟩ := hx
  obtain ⟨ya, yn, yc, rfl⟩ := hy
  have hc := hN.cell 0
  simp at hc
  go_enter Try.func117, Try.ntmps117
  go_wp2_with fail
  refine (fit_c A n c l w B h hB hd hn).mono ?_
  rintro e w1 ⟨hb, h1⟩
  have hO1 := hO.keep hb
  have hc1 := hO1.cell 0
  have hf1 := hO1.frozen 0
  simp at hc1
  have hg1 : w.grownBy w1 (some O0) := ⟨hb.os, hb.tape, hb.output, hb.size, fun k hk _ => hb.block k hk⟩
  have hOl := hO.lt
  rcases h1 with ⟨hF, g, n', c', l', rfl, ho, hnum⟩ | ⟨hF, rfl⟩
  · go_wp2
    go_ret
    exact ⟨hg1.trans (grownBy_setCell _ _ _ _), .inl ⟨hF, _, _, _, _, rfl, ho.far (fun g h => by have := (ho.lt h).1; simp; omega) _, hnum, hO1.set_ 0 _⟩⟩
  · go_wp2
    go_ret
    exact ⟨hg1.trans (grownBy_setCell _ _ _ _), .inr ⟨hF, rfl⟩⟩

set_option maxHeartbeats 800000 in
theorem red2_c (N0 O0 : Nat) (A : Option Addr) (n c : Nat) (l : List Nat) (x y : Value) (w : World) (B : Nat) (hN : Blk w N0 23 #[.slice A n c]) (hO : Blk w O0 25 #[x, y]) (hx : ∃ a n c, x = .slice a n c) (hy : ∃ a n c, y = .slice a n c)
    (h : Sl w B .u32 A n c l) (hB : B ≤ w.heap.size) (hd : Digs 4294967296 l) (hn : n ≤ 1099511627776) :
    Calls Try.prog 118 #[.pointer (some ⟨N0, 0, none⟩), .pointer (some ⟨O0, 0, none⟩)] w fun e w' => w.grownBy w' (some O0) ∧
      ((Fits (val 4294967296 l) ∧ ∃ g n c l', e = .returned (.int .i64 0) ∧ Own w' w.heap.size 58 .u32 (some ⟨g, 0, none⟩) n c l' ∧ Num 4294967296 l' (val 4294967296 l) ∧ Blk w' O0 25 #[x, .slice (some ⟨g, 0, none⟩) n c]) ∨
       (¬ Fits (val 4294967296 l) ∧ e = .returned (.int .i64 8))) := by
  obtain ⟨xa, xn, xc, rfl⟩ := hx
  obtain ⟨ya, yn, yc, rfl⟩ := hy
  have hc := hN.cell 0
  simp at hc
  go_enter Try.func118, Try.ntmps118
  go_wp2_with fail
  refine (fit_c A n c l w B h hB hd hn).mono ?_
  rintro e w1 ⟨hb, h1⟩
  have hO1 := hO.keep hb
  have hc1 := hO1.cell 1
  have hf1 := hO1.frozen 1
  simp at hc1
  have hg1 : w.grownBy w1 (some O0) := ⟨hb.os, hb.tape, hb.output, hb.size, fun k hk _ => hb.block k hk⟩
  have hOl := hO.lt
  rcases h1 with ⟨hF, g, n', c', l', rfl, ho, hnum⟩ | ⟨hF, rfl⟩
  · go_wp2
    go_ret
    exact ⟨hg1.trans (grownBy_setCell _ _ _ _), .inl ⟨hF, _, _, _, _, rfl, ho.far (fun g h => by have := (ho.lt h).1; simp; omega) _, hnum, hO1.set_ 1 _⟩⟩
  · go_wp2
    go_ret
    exact ⟨hg1.trans (grownBy_setCell _ _ _ _), .inr ⟨hF, rfl⟩⟩

set_option maxRecDepth 100000 in
set_option maxHeartbeats 1600000 in
theorem reduced_c (A : Option Addr) (na ca : Nat) (la : List Nat) (A' : Option Addr) (nb cb : Nat) (lb : List Nat) (w : World) (B : Nat) (ha : Sl w B .u32 A na ca la) (hb : Sl w B .u32 A' nb cb lb)
    (hB : B ≤ w.heap.size) (hda : Digs 4294967296 la) (hdb : Digs 4294967296 lb) (hna : na ≤ 1048576) (hnb : nb ≤ 1048576) (hpos : 0 < val 4294967296 lb) :
    Calls Try.prog 72 #[.slice A na ca, .slice A' nb cb] w (FracR w (val 4294967296 la) (val 4294967296 lb)) := by
  have hmf : ∀ (fn : Fn) (first cap : Array Value) (w : World), (Instr.makeFunc fn first cap).run Try.prog w = .ok (.func fn first cap) w := fun _ _ _ _ => rfl
  obtain ⟨V, hV⟩ : ∃ V, val 4294967296 la = V := ⟨_, rfl⟩
  obtain ⟨D, hD⟩ : ∃ D, val 4294967296 lb = D := ⟨_, rfl⟩
  rw [hD] at hpos
  rw [hV, hD]
  obtain ⟨G, hG⟩ : ∃ G, Nat.gcd V D = G := ⟨_, rfl⟩
  have hGpos : 0 < G := by rw [← hG]; exact Nat.gcd_pos_of_pos_right _ hpos
  unfold FracR
  rw [hG]
  have HV := hide hV
  have HD := hide hD
  have HG := hide hG
  have hla := ha.len
  have hlb := hb.len
  clear hV hD hG
  go_enter Try.func72, Try.ntmps72
  go_wp2_with fail
  obtain ⟨wa, hwa⟩ : ∃ wa, w.alloc (.cells #[.slice none 0 0, .slice none 0 0] 25) = wa := ⟨_, rfl⟩
  have hR := Blk.new w 25 #[.slice none 0 0, .slice none 0 0]
  have hba := (Below.refl w.heap.size w).alloc (Nat.le_refl _) (.cells #[.slice none 0 0, .slice none 0 0] 25)
  have hsa : w.heap.size < (w.alloc (.cells #[.slice none 0 0, .slice none 0 0] 25)).heap.size := by simp
  rw [hwa] at hR hba hsa ⊢
  clear hwa
  have sa := (ha.below (hba.mono hB)).mono (show B ≤ wa.heap.size by omega)
  have sb := (hb.below (hba.mono hB)).mono (show B ≤ wa.heap.size by omega)
  clear ha hb
  have t1 := common_c _ _ _ _ _ _ _ _ wa _ sa sb (Nat.le_refl _) hda hdb (max na nb) (by omega) (by omega) (by omega)
  rw [HV.out, HD.out, HG.out] at t1
  refine t1.mono ?_
  rintro e w1 ⟨g1, n1, c1, l1, rfl, o1, N1, hb1⟩
  clear t1
  have hlen1 : n1 ≤ nb := by
    refine (o1.len ▸ (N1.length_le (by omega) nb).2 ?_)
    have h1 := val_lt hdb
    rw [HD.out, sb.len] at h1
    have h2 : G ≤ D := by rw [← HG.out]; exact Nat.gcd_le_right _ hpos
    exact Nat.lt_of_le_of_lt h2 h1
  have sa1 := (sa.below hb1).mono hb1.size
  have sb1 := (sb.below hb1).mono hb1.size
  have hR1 := hR.keep hb1
  have hbw1 := hba.trans (hb1.mono (Nat.le_of_lt hsa))
  clear sa sb hR hba hb1
  go_wp2_with fail
  have t2 := split_c _ _ _ _ _ _ _ _ w1 _ sa1 o1.sl (Nat.le_refl _) hda N1.dig (by omega) (by omega) (by rw [N1.val_]; exact hGpos)
  rw [HV.out, N1.val_] at t2
  refine t2.mono ?_
  rintro e w2 ⟨g2, n2, c2, l2, g2', n2', c2', l2', rfl, o2, N2, _, _, hb2⟩
  clear t2
  have o1' := o1.below hb2 (Nat.le_refl _)
  have sb2 := (sb1.below hb2).mono hb2.size
  have hR2 := hR1.keep hb2
  have hbw2 := hbw1.trans (hb2.mono hbw1.size)
  clear o1 sb1 hR1 hb2 sa1 hbw1
  go_wp2_with fail
  obtain ⟨w3, hw3⟩ : ∃ w3, w2.alloc (.cells #[.slice (some ⟨g2, 0, none⟩) n2 c2] 23) = w3 := ⟨_, rfl⟩
  have hN := Blk.new w2 23 #[.slice (some ⟨g2, 0, none⟩) n2 c2]
  have hb3 := (Below.refl w2.heap.size w2).alloc (Nat.le_refl _) (.cells #[.slice (some ⟨g2, 0, none⟩) n2 c2] 23)
  rw [hw3] at hN hb3 ⊢
  clear hw3
  have o1'' := o1'.below hb3 (Nat.le_refl _)
  have o2' := o2.below hb3 (Nat.le_refl _)
  have sb3 := (sb2.below hb3).mono hb3.size
  have hR3 := hR2.keep hb3
  have hbw3 := hbw2.trans (hb3.mono hbw2.size)
  clear o1' o2 sb2 hR2 hb3 hbw2
  have t3 := split_c _ _ _ _ _ _ _ _ w3 _ sb3 o1''.sl (Nat.le_refl _) hdb N1.dig (by omega) (by omega) (by rw [N1.val_]; exact hGpos)
  rw [HD.out, N1.val_] at t3
  refine t3.mono ?_
  rintro e w4 ⟨g4, n4, c4, l4, g4', n4', c4', l4', rfl, o4, N4, _, _, hb4⟩
  clear t3
  have o2 := o2'.below hb4 (Nat.le_refl _)
  have hN4 := hN.keep hb4
  have hR4 := hR3.keep hb4
  have hbw4 := hbw3.trans (hb4.mono hbw3.size)
  clear o1'' o2' sb3 hN hR3 hb4 hbw3
  go_wp2
  have hD5 := ((Blk.new w4 23 #[.slice (some ⟨g4, 0, none⟩) n4 c4]).alloc (.cells #[.slice none 0 0, .slice none 0 0] 25)).alloc
    (.cells #[.func (.func 117) #[] #[.pointer (some ⟨w2.heap.size, 0, none⟩), .pointer (some ⟨w4.heap.size + 1, 0, none⟩)], .func (.func 118) #[] #[.pointer (some ⟨w4.heap.size, 0, none⟩), .pointer (some ⟨w4.heap.size + 1, 0, none⟩)]] 113)
  have hO5 := (Blk.new (w4.alloc (.cells #[.slice (some ⟨g4, 0, none⟩) n4 c4] 23)) 25 #[.slice none 0 0, .slice none 0 0]).alloc
    (.cells #[.func (.func 117) #[] #[.pointer (some ⟨w2.heap.size, 0, none⟩), .pointer (some ⟨w4.heap.size + 1, 0, none⟩)], .func (.func 118) #[] #[.pointer (some ⟨w4.heap.size, 0, none⟩), .pointer (some ⟨w4.heap.size + 1, 0, none⟩)]] 113)
  have hF5 := Blk.new ((w4.alloc (.cells #[.slice (some ⟨g4, 0, none⟩) n4 c4] 23)).alloc (.cells #[.slice none 0 0, .slice none 0 0] 25)) 113
    #[.func (.func 117) #[] #[.pointer (some ⟨w2.heap.size, 0, none⟩), .pointer (some ⟨w4.heap.size + 1, 0, none⟩)], .func (.func 118) #[] #[.pointer (some ⟨w4.heap.size, 0, none⟩), .pointer (some ⟨w4.heap.size + 1, 0, none⟩)]]
  have hb5 : Below w4.heap.size w4 (((w4.alloc (.cells #[.slice (some ⟨g4, 0, none⟩) n4 c4] 23)).alloc (.cells #[.slice none 0 0, .slice none 0 0] 25)).alloc
    (.cells #[.func (.func 117) #[] #[.pointer (some ⟨w2.heap.size, 0, none⟩), .pointer (some ⟨w4.heap.size + 1, 0, none⟩)], .func (.func 118) #[] #[.pointer (some ⟨w4.heap.size, 0, none⟩), .pointer (some ⟨w4.heap.size + 1, 0, none⟩)]] 113)) :=
    (((Below.refl _ _).alloc (Nat.le_refl _) _).alloc (by simp) _).alloc (by simp; omega) _
  generalize ((w4.alloc (.cells #[.slice (some ⟨g4, 0, none⟩) n4 c4] 23)).alloc (.cells #[.slice none 0 0, .slice none 0 0] 25)).alloc
    (.cells #[.func (.func 117) #[] #[.pointer (some ⟨w2.heap.size, 0, none⟩), .pointer (some ⟨w4.heap.size + 1, 0, none⟩)], .func (.func 118) #[] #[.pointer (some ⟨w4.heap.size, 0, none⟩), .pointer (some ⟨w4.heap.size + 1, 0, none⟩)]] 113) = w5 at *
  simp only [World.size_alloc] at hO5 hF5
  have hN5 := hN4.keep hb5
  have hR5 := hR4.keep hb5
  have o25 := o2.below hb5 (Nat.le_refl _)
  have o45 := o4.below hb5 (Nat.le_refl _)
  have hbw5 := hbw4.trans (hb5.mono hbw4.size)
  have hs24 : w2.heap.size < w4.heap.size := hN4.lt
  have hsw4 : w.heap.size < w4.heap.size := hR4.lt
  have o4lt : ∀ g, (some ⟨g4, 0, none⟩ : Option Addr) = some ⟨g, 0, none⟩ → g < w4.heap.size := fun g h => (o4.lt h).2
  clear hb5 hN4 hR4 hbw4 o2 o4
  have hlen2 : n2 ≤ na := by
    refine (o25.len ▸ (N2.length_le (by omega) na).2 ?_)
    have h1 := val_lt hda
    rw [HV.out, hla] at h1
    exact Nat.lt_of_le_of_lt (Nat.div_le_self _ _) h1
  have hlen4 : n4 ≤ nb := by
    refine (o45.len ▸ (N4.length_le (by omega) nb).2 ?_)
    have h1 := val_lt hdb
    rw [HD.out, hlb] at h1
    exact Nat.lt_of_le_of_lt (Nat.div_le_self _ _) h1
  have hcf0 := hF5.cell 0
  simp at hcf0
  refine wp_loop_rounds 3 ?_
  rw [rounds_succ]
  go_wp2_with fail
  have t5 := red1_c _ _ _ _ _ _ _ _ w5 _ hN5 hO5 ⟨_, _, _, rfl⟩ ⟨_, _, _, rfl⟩ o25.sl (Nat.le_refl _) N2.dig (by omega)
  rw [N2.val_] at t5
  refine t5.mono ?_
  rintro e w6 ⟨hg6, h6⟩
  clear t5
  rcases h6 with ⟨hF, g6, n6, c6, l6, rfl, o6, N6, hO6⟩ | ⟨hF, rfl⟩
  · have h65 : w4.heap.size + 1 < w5.heap.size := hO5.lt
    have hF6 := hF5.grown hg6 (by simp)
    have hD6 := hD5.grown hg6 (by simp)
    have hR6 := hR5.grown hg6 (by simp; omega)
    have o46 := o45.grown hg6 (fun g h => by have := o4lt g h; simp; omega)
    have hbw6 := hbw5.grown hg6 hbw5.size (fun k hk => by cases hk; omega)
    have hR6s : w.heap.size < w6.heap.size := hR6.lt
    clear hN5 hO5 hF5 hD5 hR5 o25 o45 hg6 hbw5 hcf0
    have hcf1 := hF6.cell 1
    simp at hcf1
    go_wp2_with fail
    rw [rounds_succ]
    go_wp2_with fail
    have t6 := red2_c _ _ _ _ _ _ _ _ w6 _ hD6 hO6 ⟨_, _, _, rfl⟩ ⟨_, _, _, rfl⟩ o46.sl (Nat.le_refl _) N4.dig (by omega)
    rw [N4.val_] at t6
    refine t6.mono ?_
    rintro e w7 ⟨hg7, h7⟩
    clear t6
    rcases h7 with ⟨hF', g7, n7, c7, l7, rfl, o7, N7, hO7⟩ | ⟨hF', rfl⟩
    · have hR7 := hR6.grown hg7 (by simp; omega)
      have hbw7 := hbw6.grown hg7 hbw6.size (fun k hk => by cases hk; omega)
      have o67 := o6.grown hg7 (fun g h => by have := (o6.lt h).1; have := h65; simp; omega)
      have hc0 := hO7.cell 0
      have hc1 := hO7.cell 1
      have hr0 := hR7.cell 0
      have hr1 := hR7.cell 1
      have hf0 := hR7.frozen 0
      have hf1 := hR7.frozen 1
      simp at hc0 hc1 hr0 hr1
      clear hF6 hD6 hR6 o46 hg7 hbw6 hcf1
      go_wp2_with fail
      rw [rounds_succ]
      go_wp2_with fail
      have hR8 := hR7.two (.slice (some ⟨g6, 0, none⟩) n6 c6) (.slice (some ⟨g7, 0, none⟩) n7 c7)
      have hb8 := below_two hbw7 (Nat.le_refl _) (.slice (some ⟨g6, 0, none⟩) n6 c6) (.slice (some ⟨g7, 0, none⟩) n7 c7)
      have o68 := o67.two (g := w.heap.size) (fun g h => by have := (o67.lt h).1; omega) (.slice (some ⟨g6, 0, none⟩) n6 c6) (.slice (some ⟨g7, 0, none⟩) n7 c7)
      have o78 := o7.two (g := w.heap.size) (fun g h => by have := (o7.lt h).1; have := hR6s; omega) (.slice (some ⟨g6, 0, none⟩) n6 c6) (.slice (some ⟨g7, 0, none⟩) n7 c7)
      generalize (w7.setCell ⟨w.heap.size, 0, none⟩ (.slice (some ⟨g6, 0, none⟩) n6 c6)).setCell ⟨w.heap.size, 1, none⟩ (.slice (some ⟨g7, 0, none⟩) n7 c7) = w8 at *
      have q0 := hR8.cell 0
      have q1 := hR8.cell 1
      simp at q0 q1
      refine bodyPost_ret (v := .tuple #[.agg #[.slice (some ⟨g6, 0, none⟩) n6 c6, .slice (some ⟨g7, 0, none⟩) n7 c7], .int .i64 0]) (by simp [results, Try.results72, go_sem, q0, q1]) rfl ?_
      exact ⟨hb8, .inl ⟨hF, hF', _, _, _, _, _, _, _, _, rfl, o68.mono (by omega), N6, o78.mono (by omega), N7⟩⟩
    · have hR7' := hR6.grown hg7 (by simp; omega)
      have hbw7' := hbw6.grown hg7 hbw6.size (fun k hk => by cases hk; omega)
      have hr0 := hR7'.cell 0
      have hr1 := hR7'.cell 1
      have hf0 := hR7'.frozen 0
      have hf1 := hR7'.frozen 1
      simp at hr0 hr1
      go_wp2
      have hR8 := hR7'.two (.slice none 0 0) (.slice none 0 0)
      have hb8 := below_two hbw7' (Nat.le_refl _) (.slice none 0 0) (.slice none 0 0)
      generalize (w7.setCell ⟨w.heap.size, 0, none⟩ (.slice none 0 0)).setCell ⟨w.heap.size, 1, none⟩ (.slice none 0 0) = w8 at *
      have q0 := hR8.cell 0
      have q1 := hR8.cell 1
      simp at q0 q1
      refine bodyPost_ret (v := .tuple #[.agg #[.slice none 0 0, .slice none 0 0], .int .i64 8]) (by simp [results, Try.results72, go_sem, q0, q1]) rfl ?_
      exact ⟨hb8, .inr ⟨fun h => hF' h.2, rfl⟩⟩
  · have hR6' := hR5.grown hg6 (by simp; omega)
    have hbw6' := hbw5.grown hg6 hbw5.size (fun k hk => by cases hk; omega)
    have hr0 := hR6'.cell 0
    have hr1 := hR6'.cell 1
    have hf0 := hR6'.frozen 0
    have hf1 := hR6'.frozen 1
    simp at hr0 hr1
    go_wp2
    have hR8 := hR6'.two (.slice none 0 0) (.slice none 0 0)
    have hb8 := below_two hbw6' (Nat.le_refl _) (.slice none 0 0) (.slice none 0 0)
    generalize (w6.setCell ⟨w.heap.size, 0, none⟩ (.slice none 0 0)).setCell ⟨w.heap.size, 1, none⟩ (.slice none 0 0) = w8 at *
    have q0 := hR8.cell 0
    have q1 := hR8.cell 1
    simp at q0 q1
    refine bodyPost_ret (v := .tuple #[.agg #[.slice none 0 0, .slice none 0 0], .int .i64 8]) (by simp [results, Try.results72, go_sem, q0, q1]) rfl ?_
    exact ⟨hb8, .inr ⟨fun h => hF h.1, rfl⟩⟩
end Go.Proofs.Ytgilhkdmgbeieaa
