/- The contract of exact's ways. The contract of exact's reduced. -/
import Derived.Test.YtchhkokpjdkkiaaTopDisclosesa09
namespace Go.Proofs.Ytchhkokpjdkkiaa.Ex
open Go.RowKit

section
variable {P : Program} (w : World) {ops : Array Oper} {rest : List Oper} {o : Oper} {a : Act} {Q : Exit → Act → World → Prop}
theorem wl_min3 (hg : o.guard = none) (x y z : Operand) (ts : Array TypeId) (ho : o.op = .call { callee := .builtin .min, args := #[x, y, z], argTypes := ts }) (k k' k'' : IntKind) (p q r m : Int)
    (hx : a.eval x = .int k p) (hy : a.eval y = .int k' q) (hz : a.eval z = .int k'' r) (hm : min (min p q) r = m) (hK : wpList P ops Q rest (a.put o.dst (.int k m)) w) : wpList P ops Q (o :: rest) a w := by
  refine wpList_plain hg fun K hKK => ?_
  have e : (if r < (if q < p then q else p) then r else (if q < p then q else p)) = m := by split <;> split <;> omega
  have hrun : (Builtin.min_ ts o.type #[.int k p, .int k' q, .int k'' r]).run P w = .ok (.int k m) w := by
    rw [← e]; simp [Builtin.min_, Builtin.min2]
  unfold Oper.wp execOp
  simp only [ho, resolve, invoke, builtin, Sem.run_bind, Sem.run_pure, Result.andThen_ok, List.map_toArray, List.map_cons, List.map_nil, hx, hy, hz, hrun]
  exact hKK _ _ hK
end

theorem Num.len_Wn {l : List Nat} {t b s m n : Nat} (h : Num 4294967296 l (Wn t b s m)) (hb : b ≤ 512) (ht : t ≤ 512) (hm : m ≤ 513) (hl : l.length = n) : n ≤ 40 := by
  rw [← hl]
  refine (h.length_le (by omega) 40).2 ?_
  have h1 := Wn_le t b s 512 1024 hb ht rfl m
  have h2 : ∀ f, m * 2 ^ f ≤ 2 ^ (10 + f) := fun f => by
    rw [Nat.pow_add]
    exact Nat.mul_le_mul_right _ (by omega)
  exact lt_pow_of_le (m := 10 + 1024) (Nat.le_trans h1 (h2 1024)) rfl 40 (by omega)

theorem prod_le {a b c d e : Nat} (ha : a ≤ e) (hc : c ≤ e) : Cn a b * Cn c d ≤ 2 ^ (e + e) := by
  rw [Nat.pow_add]
  exact Nat.mul_le_mul (Nat.le_trans (Cn_le _ _) (Nat.pow_le_pow_right (by omega) ha)) (Nat.le_trans (Cn_le _ _) (Nat.pow_le_pow_right (by omega) hc))
theorem Num.len_prod {l : List Nat} {a b c d n : Nat} (h : Num 4294967296 l (Cn a b * Cn c d)) (ha : a ≤ 512) (hc : c ≤ 512) (hl : l.length = n) : n ≤ 40 := by
  rw [← hl]
  exact (h.length_le (by omega) 40).2 (lt_pow_of_le (prod_le ha hc) rfl 40 (by omega))

set_option maxRecDepth 100000 in
set_option maxHeartbeats 1600000 in
theorem ways_c (T b s : Nat) (seen : Int) (w : World) (hT : T ≤ 512) (hb : b ≤ T) (hs : s ≤ T) (h1 : -9223372036854775808 ≤ seen) (h2 : seen ≤ 9223372036854775807) :
    Calls Try.prog 83 #[.int .i64 T, .int .i64 b, .int .i64 s, .int .i64 seen] w (NatV w (Wn T b s (seen + 1).toNat)) := by
  obtain ⟨F, HF, hF1, hF2⟩ : ∃ F : Nat, Hid (s - (T - b) = F) ∧ F ≤ s ∧ F ≤ b := ⟨_, rfl, by omega, by omega⟩
  by_cases hgt : seen < F
  · rw [Wn_zero_upto (fun i hi => by have := HF.out; omega)]
    obtain ⟨m, HM⟩ : ∃ m : Int, Hid (min (min seen b) s = m) := ⟨_, rfl⟩
    have hm : m < F := by have := HM.out; omega
    go_enter Try.func83, Try.ntmps83
    go_wp2_with (first
      | (with_reducible refine wl_max _ rfl _ _ _ rfl _ _ _ _ (F : Nat) rfl rfl (by have := HF.out; omega) ?_)
      | (with_reducible refine wl_min3 _ rfl _ _ _ _ rfl _ _ _ _ _ _ m rfl rfl rfl HM.out ?_))
    go_ret
    exact ⟨_, _, _, _, rfl, Sl.nil _ _ _ _ _ (by omega), Num.nil _, Below.refl _ _⟩
  · obtain ⟨S, rfl⟩ := Int.eq_ofNat_of_zero_le (show 0 ≤ seen by omega)
    rw [show ((S : Int) + 1).toNat = S + 1 by omega]
    obtain ⟨m, HM, hm1, hm2, hm3, hm4⟩ : ∃ m : Nat, Hid (min (min S b) s = m) ∧ m ≤ b ∧ m ≤ s ∧ m ≤ S ∧ F ≤ m := ⟨_, rfl, by omega, by omega, by omega, by omega⟩
    have HW : Hid (Wn T b s (S + 1) = Wn T b s (m + 1)) := by
      rcases Nat.lt_or_ge m S with hlt | hge
      · exact Wn_stop (by omega) (by have := HM.out; omega)
      · obtain rfl : m = S := by omega
        rfl
    rw [HW.out]
    clear hgt
    go_enter Try.func83, Try.ntmps83
    go_wp2_with (first
      | (with_reducible refine wl_max _ rfl _ _ _ rfl _ _ _ _ (F : Nat) rfl rfl (by have := HF.out; omega) ?_)
      | (with_reducible refine wl_min3 _ rfl _ _ _ _ rfl _ _ _ _ _ _ (m : Nat) rfl rfl rfl (by have := HM.out; omega) ?_))
    have hc1 := choose_c b F w (by omega) (by omega) (by omega)
    rw [Ci_nat] at hc1
    refine hc1.mono ?_
    rintro e w1 ⟨A1, n1, c1, l1, rfl, hs1, hn1, hb1⟩
    clear hc1
    have hc2 := choose_c (T - b) ((s - F : Nat) : Int) w1 (by omega) (by omega) (by omega)
    rw [Ci_nat] at hc2
    go_wp2_with fail
    rw [show ((T : Int) - b) = ((T - b : Nat) : Int) by omega, show ((s : Int) - F) = ((s - F : Nat) : Int) by omega]
    refine hc2.mono ?_
    rintro e w2 ⟨A2, n2, c2, l2, rfl, hs2, hn2, hb2⟩
    clear hc2
    have hb12 : Below w.heap.size w w2 := hb1.trans (hb2.mono hb1.size)
    have hs1' := (hs1.below hb2).mono hb2.size
    clear hs1 hb1 hb2
    go_wp2
    go_loopw [9, 11, 12, 13] (fun vs v1 v2 iv wr => ∃ (i : Nat) (A0 : Option Addr) (n0 c0 : Nat) (l0 : List Nat) (A1 : Option Addr) (n1 c1 : Nat) (l1 : List Nat) (A2 : Option Addr) (n2 c2 : Nat) (l2 : List Nat),
        F ≤ i ∧ i ≤ m + 1 ∧ iv = .int .i64 i ∧ vs = .slice A0 n0 c0 ∧ v1 = .slice A1 n1 c1 ∧ v2 = .slice A2 n2 c2 ∧ Sl wr wr.heap.size .u32 A0 n0 c0 l0 ∧ Num 4294967296 l0 (Wn T b s i) ∧
        Sl wr wr.heap.size .u32 A1 n1 c1 l1 ∧ Num 4294967296 l1 (Cn b i) ∧ Sl wr wr.heap.size .u32 A2 n2 c2 l2 ∧ Num 4294967296 l2 (Cn (T - b) (s - i)) ∧ Below w.heap.size w wr)
      (fun _ _ _ iv _ => m + 1 - (intOf iv).toNat)
    case atStart => exact ⟨F, _, _, _, [], _, _, _, l1, _, _, _, l2, Nat.le_refl _, by omega, rfl, rfl, rfl, rfl, Sl.nil _ _ _ _ _ (by omega), by rw [Wn_zero_upto (fun i hi => by have := HF.out; omega)]; exact Num.nil _, hs1', hn1, hs2, hn2, hb12⟩
    case round =>
      clear hs1' hn1 hs2 hn2 hb12
      obtain ⟨i, A0, n0, c0, l0, A1, n1, c1, l1, A2, n2, c2, l2, hFi, him, rfl, rfl, rfl, rfl, s0, N0, s1, N1, s2, N2, hbw⟩ := hrel
      by_cases hlt : i < m + 1
      · have hl0 := N0.len_Wn (by omega) hT (by omega) s0.len
        have hl1 := N1.len_Cn (by omega) s1.len
        have hl2 := N2.len_Cn (by omega) s2.len
        have HWs : Hid (Wn T b s i + Cn b i * Cn (T - b) (s - i) = Wn T b s (i + 1)) := by show _ = _; rw [Wn, if_pos (by omega)]
        go_wp2_with (with_reducible refine wl_min3 _ rfl _ _ _ _ rfl _ _ _ _ _ _ (m : Nat) rfl rfl rfl (by have := HM.out; omega) ?_)
        have t1 := times_c _ _ _ _ _ _ _ _ wr _ s1 s2 (Nat.le_refl _) N1.dig N2.dig (by omega) (by omega)
        rw [N1.val_, N2.val_] at t1
        refine t1.mono ?_
        rintro e w3 ⟨g3, n3, c3, l3, rfl, o3, N3, hb3⟩
        clear t1
        have hl3 := N3.len_prod (by omega) (by omega) o3.len
        have s0' := (s0.below hb3).mono hb3.size
        have s1' := (s1.below hb3).mono hb3.size
        have s2' := (s2.below hb3).mono hb3.size
        have hbw3 := hbw.trans (hb3.mono hbw.size)
        clear s0 s1 s2 hb3 hbw
        go_wp2_with fail
        have t2 := plus_c _ _ _ _ _ _ _ _ w3 _ s0' o3.sl (Nat.le_refl _) N0.dig N3.dig (by omega) (by omega)
        rw [N0.val_, N3.val_, HWs.out] at t2
        refine t2.mono ?_
        rintro e w4 ⟨g4, n4, c4, l4, rfl, o4, N4, hb4⟩
        clear t2 s0' o3
        have s1 := (s1'.below hb4).mono hb4.size
        have s2 := (s2'.below hb4).mono hb4.size
        have hbw4 := hbw3.trans (hb4.mono hbw3.size)
        clear s1' s2' hb4 hbw3
        go_wp2_with fail
        have t3 := next_c _ _ _ _ w4 _ b i s1 (Nat.le_refl _) N1.dig (by omega) (by omega) (by omega)
        rw [N1.val_, Cn_next] at t3
        refine t3.mono ?_
        rintro e w5 ⟨g5, n5, c5, l5, rfl, o5, N5, hb5⟩
        clear t3
        have o4' := o4.below hb5 (Nat.le_refl _)
        have s2' := (s2.below hb5).mono hb5.size
        have hbw5 := hbw4.trans (hb5.mono hbw4.size)
        clear s1 s2 o4 hb5 hbw4
        by_cases h0 : i < s
        · obtain ⟨k, hk⟩ : ∃ k, s - i = k + 1 := ⟨s - i - 1, by omega⟩
          rw [hk] at N2
          have HK := hide hk
          have hsk1 : s ≤ i + (k + 1) := by omega
          have hsk2 : i + (k + 1) ≤ s := by omega
          have hkk : k + 1 ≤ T - b := by have := HF.out; omega
          clear hk
          go_wp2_with fail
          have t4 := times_c _ _ _ _ (some ⟨w5.heap.size, 0, none⟩) 1 1 [k + 1] (w5.alloc (.cells #[.int .u32 ((s : Int) - i)] 184)) (w5.heap.size + 1)
            ((s2'.below ((Below.refl _ _).alloc (Nat.le_refl _) _)).mono (by omega)) (Sl.one w5 _ _ _ (congrArg (Value.int .u32) (by omega))) (by simp) N2.dig (Digs.one (by omega)) (by omega) (by omega)
          rw [show val 4294967296 [k + 1] = k + 1 by simp [val], N2.val_] at t4
          refine t4.mono ?_
          rintro e w6 ⟨g6, n6, c6, l6, rfl, o6, N6, hb6⟩
          clear t4
          have hl6 : n6 ≤ 40 := by
            refine (o6.len ▸ (N6.length_le (by omega) 40).2 ?_)
            have h6 := N2.lt
            rw [s2'.len] at h6
            refine Nat.lt_of_lt_of_le (Nat.mul_lt_mul_of_lt_of_le h6 (show k + 1 ≤ 4294967296 by omega) (by omega)) ?_
            rw [← Nat.pow_succ]
            exact Nat.pow_le_pow_right (by omega) (by omega)
          have b56 : Below w.heap.size w5 w6 := ((Below.refl _ _).alloc hbw5.size _).trans (hb6.mono (by have := hbw5.size; simp; omega))
          have o4'' := (o4'.alloc (.cells #[.int .u32 ((s : Int) - i)] 184)).below hb6 (Nat.le_refl _)
          have o5'' := (o5.alloc (.cells #[.int .u32 ((s : Int) - i)] 184)).below hb6 (Nat.le_refl _)
          have hbw6 := hbw5.trans b56
          clear o4' o5 s2' hb6 hbw5 b56
          go_wp2_with fail
          have hz : ((T : Int) - b - ((s : Int) - i) + 1) = ((T - b - (k + 1) + 1 : Nat) : Int) := by omega
          have t5 := split_c _ _ _ _ (some ⟨w6.heap.size, 0, none⟩) 1 1 [T - b - (k + 1) + 1] (w6.alloc (.cells #[.int .u32 ((T : Int) - b - ((s : Int) - i) + 1)] 184)) (w6.heap.size + 1)
            ((o6.sl.below ((Below.refl _ _).alloc (Nat.le_refl _) _)).mono (by omega)) (Sl.one w6 _ _ _ (congrArg (Value.int .u32) hz)) (by simp) N6.dig (Digs.one (by omega)) (by omega) (by omega) (by simp [val])
          rw [show val 4294967296 [T - b - (k + 1) + 1] = T - b - (k + 1) + 1 by simp [val], N6.val_, Cn_prev hkk] at t5
          refine t5.mono ?_
          rintro e w7 ⟨g7, n7, c7, l7, g8, n8, c8, l8, rfl, o7, N7, _, _, hb7⟩
          clear t5
          have b67 : Below w.heap.size w6 w7 := ((Below.refl _ _).alloc hbw6.size _).trans (hb7.mono (by have := hbw6.size; simp; omega))
          have o4 := (o4''.alloc (.cells #[.int .u32 ((T : Int) - b - ((s : Int) - i) + 1)] 184)).below hb7 (Nat.le_refl _)
          have o5 := (o5''.alloc (.cells #[.int .u32 ((T : Int) - b - ((s : Int) - i) + 1)] 184)).below hb7 (Nat.le_refl _)
          have hbw7 := hbw6.trans b67
          clear o4'' o5'' o6 hb7 hbw6 b67
          go_wp2
          go_roundw
          case rel => exact ⟨i + 1, _, _, _, l4, _, _, _, l5, _, _, _, l7, by omega, by omega, by go_num, rfl, rfl, rfl, o4.sl, N4, o5.sl, N5, o7.sl, by rw [show s - (i + 1) = k by omega]; exact N7, hbw7⟩
          case measure => simp [intOf] <;> omega
        · have his : i = s := by omega
          subst his
          go_wp2
          go_roundw
          case rel => exact ⟨i + 1, _, _, _, l4, _, _, _, l5, _, _, _, l2, by omega, by omega, by go_num, rfl, rfl, rfl, o4'.sl, N4, o5.sl, N5, s2', by rw [show i - (i + 1) = i - i by omega]; exact N2, hbw5⟩
          case measure => simp [intOf] <;> omega
      · obtain rfl : i = m + 1 := by omega
        go_wp2_with (with_reducible refine wl_min3 _ rfl _ _ _ _ rfl _ _ _ _ _ _ (m : Nat) rfl rfl rfl (by have := HM.out; omega) ?_)
        go_ret
        exact ⟨_, _, _, _, rfl, s0, N0, hbw⟩
end Go.Proofs.Ytchhkokpjdkkiaa.Ex

namespace Go.Proofs.Ytchhkokpjdkkiaa.Ex
open Go.RowKit

/-- A fraction, reduced, or ErrOver. -/
def FracR (w : World) (V D : Nat) (e : Ending) (w' : World) : Prop := Below w.heap.size w w' ∧
  ((Fits (V / Nat.gcd V D) ∧ Fits (D / Nat.gcd V D) ∧ ∃ g n c l g' n' c' l', e = .returned (.tuple #[.agg #[.slice (some ⟨g, 0, none⟩) n c, .slice (some ⟨g', 0, none⟩) n' c'], .int .i64 0]) ∧
      Own w' w.heap.size 184 .u32 (some ⟨g, 0, none⟩) n c l ∧ Num 4294967296 l (V / Nat.gcd V D) ∧ Own w' w.heap.size 184 .u32 (some ⟨g', 0, none⟩) n' c' l' ∧ Num 4294967296 l' (D / Nat.gcd V D)) ∨
   (¬ (Fits (V / Nat.gcd V D) ∧ Fits (D / Nat.gcd V D)) ∧ e = .returned (.tuple #[.agg #[.slice none 0 0, .slice none 0 0], .int .i64 8])))

set_option maxHeartbeats 800000 in
theorem red1_c (N0 O0 : Nat) (A : Option Addr) (n c : Nat) (l : List Nat) (x y : Value) (w : World) (B : Nat) (hN : Blk w N0 129 #[.slice A n c]) (hO : Blk w O0 131 #[x, y]) (hx : ∃ a n c, x = .slice a n c) (hy : ∃ a n c, y = .slice a n c)
    (h : Sl w B .u32 A n c l) (hB : B ≤ w.heap.size) (hd : Digs 4294967296 l) (hn : n ≤ 1099511627776) :
    Calls Try.prog 110 #[.pointer (some ⟨N0, 0, none⟩), .pointer (some ⟨O0, 0, none⟩)] w fun e w' => w.grownBy w' (some O0) ∧
      ((Fits (val 4294967296 l) ∧ ∃ g n c l', e = .returned (.int .i64 0) ∧ Own w' w.heap.size 184 .u32 (some ⟨g, 0, none⟩) n c l' ∧ Num 4294967296 l' (val 4294967296 l) ∧ Blk w' O0 131 #[.slice (some ⟨g, 0, none⟩) n c, y]) ∨
       (¬ Fits (val 4294967296 l) ∧ e = .returned (.int .i64 8))) := by
  obtain ⟨xa, xn, xc, rfl⟩ := hx
  obtain ⟨ya, yn, yc, rfl⟩ := hy
  have hc := hN.cell 0
  simp at hc
  go_enter Try.func110, Try.ntmps110
  go_wp2_with fail
  refine (fit_c A n c l w B h hB hd hn).mono ?_
  rintro e w1 ⟨hb, h1⟩
  have hO1 := hO.keep hb
  have hc1 := hO1.cell 0
  have hf1 := hO1.frozen 0
  simp at hc1
  have hg1 : w.grownBy w1 (some O0) := ⟨hb.os, hb.tape, hb.output, hb.size, fun k hk _ => hb.block k hk⟩
  have hOl := hO.lt
  rcases h1 with ⟨hF, g, n', c', l', rfl, ho, hnum⟩ | ⟨hF, rfl⟩
  · go_wp2
    go_ret
    exact ⟨hg1.trans (grownBy_setCell _ _ _ _), .inl ⟨hF, _, _, _, _, rfl, ho.far (fun g h => by have := (ho.lt h).1; simp; omega) _, hnum, hO1.set_ 0 _⟩⟩
  · go_wp2
    go_ret
    exact ⟨hg1.trans (grownBy_setCell _ _ _ _), .inr ⟨hF, rfl⟩⟩

set_option maxHeartbeats 800000 in
theorem red2_c (N0 O0 : Nat) (A : Option Addr) (n c : Nat) (l : List Nat) (x y : Value) (w : World) (B : Nat) (hN : Blk w N0 129 #[.slice A n c]) (hO : Blk w O0 131 #[x, y]) (hx : ∃ a n c, x = .slice a n c) (hy : ∃ a n c, y = .slice a n c)
    (h : Sl w B .u32 A n c l) (hB : B ≤ w.heap.size) (hd : Digs 4294967296 l) (hn : n ≤ 1099511627776) :
    Calls Try.prog 112 #[.pointer (some ⟨N0, 0, none⟩), .pointer (some ⟨O0, 0, none⟩)] w fun e w' => w.grownBy w' (some O0) ∧
      ((Fits (val 4294967296 l) ∧ ∃ g n c l', e = .returned (.int .i64 0) ∧ Own w' w.heap.size 184 .u32 (some ⟨g, 0, none⟩) n c l' ∧ Num 4294967296 l' (val 4294967296 l) ∧ Blk w' O0 131 #[x, .slice (some ⟨g, 0, none⟩) n c]) ∨
       (¬ Fits (val 4294967296 l) ∧ e = .returned (.int .i64 8))) := by
  obtain ⟨xa, xn, xc, rfl⟩ := hx
  obtain ⟨ya, yn, yc, rfl⟩ := hy
  have hc := hN.cell 0
  simp at hc
  go_enter Try.func112, Try.ntmps112
  go_wp2_with fail
  refine (fit_c A n c l w B h hB hd hn).mono ?_
  rintro e w1 ⟨hb, h1⟩
  have hO1 := hO.keep hb
  have hc1 := hO1.cell 1
  have hf1 := hO1.frozen 1
  simp at hc1
  have hg1 : w.grownBy w1 (some O0) := ⟨hb.os, hb.tape, hb.output, hb.size, fun k hk _ => hb.block k hk⟩
  have hOl := hO.lt
  rcases h1 with ⟨hF, g, n', c', l', rfl, ho, hnum⟩ | ⟨hF, rfl⟩
  · go_wp2
    go_ret
    exact ⟨hg1.trans (grownBy_setCell _ _ _ _), .inl ⟨hF, _, _, _, _, rfl, ho.far (fun g h => by have := (ho.lt h).1; simp; omega) _, hnum, hO1.set_ 1 _⟩⟩
  · go_wp2
    go_ret
    exact ⟨hg1.trans (grownBy_setCell _ _ _ _), .inr ⟨hF, rfl⟩⟩

set_option maxRecDepth 100000 in
set_option maxHeartbeats 1600000 in
theorem reduced_c (A : Option Addr) (na ca : Nat) (la : List Nat) (A' : Option Addr) (nb cb : Nat) (lb : List Nat) (w : World) (B : Nat) (ha : Sl w B .u32 A na ca la) (hb : Sl w B .u32 A' nb cb lb)
    (hB : B ≤ w.heap.size) (hda : Digs 4294967296 la) (hdb : Digs 4294967296 lb) (hna : na ≤ 1048576) (hnb : nb ≤ 1048576) (hpos : 0 < val 4294967296 lb) :
    Calls Try.prog 82 #[.slice A na ca, .slice A' nb cb] w (FracR w (val 4294967296 la) (val 4294967296 lb)) := by
  have hmf : ∀ (fn : Fn) (first cap : Array Value) (w : World), (Instr.makeFunc fn first cap).run Try.prog w = .ok (.func fn first cap) w := fun _ _ _ _ => rfl
  obtain ⟨V, hV⟩ : ∃ V, val 4294967296 la = V := ⟨_, rfl⟩
  obtain ⟨D, hD⟩ : ∃ D, val 4294967296 lb = D := ⟨_, rfl⟩
  rw [hD] at hpos
  rw [hV, hD]
  obtain ⟨G, hG⟩ : ∃ G, Nat.gcd V D = G := ⟨_, rfl⟩
  have hGpos : 0 < G := by rw [← hG]; exact Nat.gcd_pos_of_pos_right _ hpos
  unfold FracR
  rw [hG]
  have HV := hide hV
  have HD := hide hD
  have HG := hide hG
  have hla := ha.len
  have hlb := hb.len
  clear hV hD hG
  go_enter Try.func82, Try.ntmps82
  go_wp2_with fail
  obtain ⟨wa, hwa⟩ : ∃ wa, w.alloc (.cells #[.slice none 0 0, .slice none 0 0] 131) = wa := ⟨_, rfl⟩
  have hR := Blk.new w 131 #[.slice none 0 0, .slice none 0 0]
  have hba := (Below.refl w.heap.size w).alloc (Nat.le_refl _) (.cells #[.slice none 0 0, .slice none 0 0] 131)
  have hsa : w.heap.size < (w.alloc (.cells #[.slice none 0 0, .slice none 0 0] 131)).heap.size := by simp
  rw [hwa] at hR hba hsa ⊢
  clear hwa
  have sa := (ha.below (hba.mono hB)).mono (show B ≤ wa.heap.size by omega)
  have sb := (hb.below (hba.mono hB)).mono (show B ≤ wa.heap.size by omega)
  clear ha hb
  have t1 := common_c _ _ _ _ _ _ _ _ wa _ sa sb (Nat.le_refl _) hda hdb (max na nb) (by omega) (by omega) (by omega)
  rw [HV.out, HD.out, HG.out] at t1
  refine t1.mono ?_
  rintro e w1 ⟨g1, n1, c1, l1, rfl, o1, N1, hb1⟩
  clear t1
  have hlen1 : n1 ≤ nb := by
    refine (o1.len ▸ (N1.length_le (by omega) nb).2 ?_)
    have h1 := val_lt hdb
    rw [HD.out, sb.len] at h1
    have h2 : G ≤ D := by rw [← HG.out]; exact Nat.gcd_le_right _ hpos
    exact Nat.lt_of_le_of_lt h2 h1
  have sa1 := (sa.below hb1).mono hb1.size
  have sb1 := (sb.below hb1).mono hb1.size
  have hR1 := hR.keep hb1
  have hbw1 := hba.trans (hb1.mono (Nat.le_of_lt hsa))
  clear sa sb hR hba hb1
  go_wp2_with fail
  have t2 := split_c _ _ _ _ _ _ _ _ w1 _ sa1 o1.sl (Nat.le_refl _) hda N1.dig (by omega) (by omega) (by rw [N1.val_]; exact hGpos)
  rw [HV.out, N1.val_] at t2
  refine t2.mono ?_
  rintro e w2 ⟨g2, n2, c2, l2, g2', n2', c2', l2', rfl, o2, N2, _, _, hb2⟩
  clear t2
  have o1' := o1.below hb2 (Nat.le_refl _)
  have sb2 := (sb1.below hb2).mono hb2.size
  have hR2 := hR1.keep hb2
  have hbw2 := hbw1.trans (hb2.mono hbw1.size)
  clear o1 sb1 hR1 hb2 sa1 hbw1
  go_wp2_with fail
  obtain ⟨w3, hw3⟩ : ∃ w3, w2.alloc (.cells #[.slice (some ⟨g2, 0, none⟩) n2 c2] 129) = w3 := ⟨_, rfl⟩
  have hN := Blk.new w2 129 #[.slice (some ⟨g2, 0, none⟩) n2 c2]
  have hb3 := (Below.refl w2.heap.size w2).alloc (Nat.le_refl _) (.cells #[.slice (some ⟨g2, 0, none⟩) n2 c2] 129)
  rw [hw3] at hN hb3 ⊢
  clear hw3
  have o1'' := o1'.below hb3 (Nat.le_refl _)
  have o2' := o2.below hb3 (Nat.le_refl _)
  have sb3 := (sb2.below hb3).mono hb3.size
  have hR3 := hR2.keep hb3
  have hbw3 := hbw2.trans (hb3.mono hbw2.size)
  clear o1' o2 sb2 hR2 hb3 hbw2
  have t3 := split_c _ _ _ _ _ _ _ _ w3 _ sb3 o1''.sl (Nat.le_refl _) hdb N1.dig (by omega) (by omega) (by rw [N1.val_]; exact hGpos)
  rw [HD.out, N1.val_] at t3
  refine t3.mono ?_
  rintro e w4 ⟨g4, n4, c4, l4, g4', n4', c4', l4', rfl, o4, N4, _, _, hb4⟩
  clear t3
  have o2 := o2'.below hb4 (Nat.le_refl _)
  have hN4 := hN.keep hb4
  have hR4 := hR3.keep hb4
  have hbw4 := hbw3.trans (hb4.mono hbw3.size)
  clear o1'' o2' sb3 hN hR3 hb4 hbw3
  go_wp2
  have hD5 := ((Blk.new w4 129 #[.slice (some ⟨g4, 0, none⟩) n4 c4]).alloc (.cells #[.slice none 0 0, .slice none 0 0] 131)).alloc
    (.cells #[.func (.func 110) #[] #[.pointer (some ⟨w2.heap.size, 0, none⟩), .pointer (some ⟨w4.heap.size + 1, 0, none⟩)], .func (.func 112) #[] #[.pointer (some ⟨w4.heap.size, 0, none⟩), .pointer (some ⟨w4.heap.size + 1, 0, none⟩)]] 209)
  have hO5 := (Blk.new (w4.alloc (.cells #[.slice (some ⟨g4, 0, none⟩) n4 c4] 129)) 131 #[.slice none 0 0, .slice none 0 0]).alloc
    (.cells #[.func (.func 110) #[] #[.pointer (some ⟨w2.heap.size, 0, none⟩), .pointer (some ⟨w4.heap.size + 1, 0, none⟩)], .func (.func 112) #[] #[.pointer (some ⟨w4.heap.size, 0, none⟩), .pointer (some ⟨w4.heap.size + 1, 0, none⟩)]] 209)
  have hF5 := Blk.new ((w4.alloc (.cells #[.slice (some ⟨g4, 0, none⟩) n4 c4] 129)).alloc (.cells #[.slice none 0 0, .slice none 0 0] 131)) 209
    #[.func (.func 110) #[] #[.pointer (some ⟨w2.heap.size, 0, none⟩), .pointer (some ⟨w4.heap.size + 1, 0, none⟩)], .func (.func 112) #[] #[.pointer (some ⟨w4.heap.size, 0, none⟩), .pointer (some ⟨w4.heap.size + 1, 0, none⟩)]]
  have hb5 : Below w4.heap.size w4 (((w4.alloc (.cells #[.slice (some ⟨g4, 0, none⟩) n4 c4] 129)).alloc (.cells #[.slice none 0 0, .slice none 0 0] 131)).alloc
    (.cells #[.func (.func 110) #[] #[.pointer (some ⟨w2.heap.size, 0, none⟩), .pointer (some ⟨w4.heap.size + 1, 0, none⟩)], .func (.func 112) #[] #[.pointer (some ⟨w4.heap.size, 0, none⟩), .pointer (some ⟨w4.heap.size + 1, 0, none⟩)]] 209)) :=
    (((Below.refl _ _).alloc (Nat.le_refl _) _).alloc (by simp) _).alloc (by simp; omega) _
  generalize ((w4.alloc (.cells #[.slice (some ⟨g4, 0, none⟩) n4 c4] 129)).alloc (.cells #[.slice none 0 0, .slice none 0 0] 131)).alloc
    (.cells #[.func (.func 110) #[] #[.pointer (some ⟨w2.heap.size, 0, none⟩), .pointer (some ⟨w4.heap.size + 1, 0, none⟩)], .func (.func 112) #[] #[.pointer (some ⟨w4.heap.size, 0, none⟩), .pointer (some ⟨w4.heap.size + 1, 0, none⟩)]] 209) = w5 at *
  simp only [World.size_alloc] at hO5 hF5
  have hN5 := hN4.keep hb5
  have hR5 := hR4.keep hb5
  have o25 := o2.below hb5 (Nat.le_refl _)
  have o45 := o4.below hb5 (Nat.le_refl _)
  have hbw5 := hbw4.trans (hb5.mono hbw4.size)
  have hs24 : w2.heap.size < w4.heap.size := hN4.lt
  have hsw4 : w.heap.size < w4.heap.size := hR4.lt
  have o4lt : ∀ g, (some ⟨g4, 0, none⟩ : Option Addr) = some ⟨g, 0, none⟩ → g < w4.heap.size := fun g h => (o4.lt h).2
  clear hb5 hN4 hR4 hbw4 o2 o4
  have hlen2 : n2 ≤ na := by
    refine (o25.len ▸ (N2.length_le (by omega) na).2 ?_)
    have h1 := val_lt hda
    rw [HV.out, hla] at h1
    exact Nat.lt_of_le_of_lt (Nat.div_le_self _ _) h1
  have hlen4 : n4 ≤ nb := by
    refine (o45.len ▸ (N4.length_le (by omega) nb).2 ?_)
    have h1 := val_lt hdb
    rw [HD.out, hlb] at h1
    exact Nat.lt_of_le_of_lt (Nat.div_le_self _ _) h1
  have hcf0 := hF5.cell 0
  simp at hcf0
  refine wp_loop_rounds 3 ?_
  rw [rounds_succ]
  go_wp2_with fail
  have t5 := red1_c _ _ _ _ _ _ _ _ w5 _ hN5 hO5 ⟨_, _, _, rfl⟩ ⟨_, _, _, rfl⟩ o25.sl (Nat.le_refl _) N2.dig (by omega)
  rw [N2.val_] at t5
  refine t5.mono ?_
  rintro e w6 ⟨hg6, h6⟩
  clear t5
  rcases h6 with ⟨hF, g6, n6, c6, l6, rfl, o6, N6, hO6⟩ | ⟨hF, rfl⟩
  · have h65 : w4.heap.size + 1 < w5.heap.size := hO5.lt
    have hF6 := hF5.grown hg6 (by simp)
    have hD6 := hD5.grown hg6 (by simp)
    have hR6 := hR5.grown hg6 (by simp; omega)
    have o46 := o45.grown hg6 (fun g h => by have := o4lt g h; simp; omega)
    have hbw6 := hbw5.grown hg6 hbw5.size (fun k hk => by cases hk; omega)
    have hR6s : w.heap.size < w6.heap.size := hR6.lt
    clear hN5 hO5 hF5 hD5 hR5 o25 o45 hg6 hbw5 hcf0
    have hcf1 := hF6.cell 1
    simp at hcf1
    go_wp2_with fail
    rw [rounds_succ]
    go_wp2_with fail
    have t6 := red2_c _ _ _ _ _ _ _ _ w6 _ hD6 hO6 ⟨_, _, _, rfl⟩ ⟨_, _, _, rfl⟩ o46.sl (Nat.le_refl _) N4.dig (by omega)
    rw [N4.val_] at t6
    refine t6.mono ?_
    rintro e w7 ⟨hg7, h7⟩
    clear t6
    rcases h7 with ⟨hF', g7, n7, c7, l7, rfl, o7, N7, hO7⟩ | ⟨hF', rfl⟩
    · have hR7 := hR6.grown hg7 (by simp; omega)
      have hbw7 := hbw6.grown hg7 hbw6.size (fun k hk => by cases hk; omega)
      have o67 := o6.grown hg7 (fun g h => by have := (o6.lt h).1; have := h65; simp; omega)
      have hc0 := hO7.cell 0
      have hc1 := hO7.cell 1
      have hr0 := hR7.cell 0
      have hr1 := hR7.cell 1
      have hf0 := hR7.frozen 0
      have hf1 := hR7.frozen 1
      simp at hc0 hc1 hr0 hr1
      clear hF6 hD6 hR6 o46 hg7 hbw6 hcf1
      go_wp2_with fail
      rw [rounds_succ]
      go_wp2_with fail
      have hR8 := hR7.two (.slice (some ⟨g6, 0, none⟩) n6 c6) (.slice (some ⟨g7, 0, none⟩) n7 c7)
      have hb8 := below_two hbw7 (Nat.le_refl _) (.slice (some ⟨g6, 0, none⟩) n6 c6) (.slice (some ⟨g7, 0, none⟩) n7 c7)
      have o68 := o67.two (g := w.heap.size) (fun g h => by have := (o67.lt h).1; omega) (.slice (some ⟨g6, 0, none⟩) n6 c6) (.slice (some ⟨g7, 0, none⟩) n7 c7)
      have o78 := o7.two (g := w.heap.size) (fun g h => by have := (o7.lt h).1; have := hR6s; omega) (.slice (some ⟨g6, 0, none⟩) n6 c6) (.slice (some ⟨g7, 0, none⟩) n7 c7)
      generalize (w7.setCell ⟨w.heap.size, 0, none⟩ (.slice (some ⟨g6, 0, none⟩) n6 c6)).setCell ⟨w.heap.size, 1, none⟩ (.slice (some ⟨g7, 0, none⟩) n7 c7) = w8 at *
      have q0 := hR8.cell 0
      have q1 := hR8.cell 1
      simp at q0 q1
      refine bodyPost_ret (v := .tuple #[.agg #[.slice (some ⟨g6, 0, none⟩) n6 c6, .slice (some ⟨g7, 0, none⟩) n7 c7], .int .i64 0]) (by simp [results, Try.results82, go_sem, q0, q1]) rfl ?_
      exact ⟨hb8, .inl ⟨hF, hF', _, _, _, _, _, _, _, _, rfl, o68.mono (by omega), N6, o78.mono (by omega), N7⟩⟩
    · have hR7' := hR6.grown hg7 (by simp; omega)
      have hbw7' := hbw6.grown hg7 hbw6.size (fun k hk => by cases hk; omega)
      have hr0 := hR7'.cell 0
      have hr1 := hR7'.cell 1
      have hf0 := hR7'.frozen 0
      have hf1 := hR7'.frozen 1
      simp at hr0 hr1
      go_wp2
      have hR8 := hR7'.two (.slice none 0 0) (.slice none 0 0)
      have hb8 := below_two hbw7' (Nat.le_refl _) (.slice none 0 0) (.slice none 0 0)
      generalize (w7.setCell ⟨w.heap.size, 0, none⟩ (.slice none 0 0)).setCell ⟨w.heap.size, 1, none⟩ (.slice none 0 0) = w8 at *
      have q0 := hR8.cell 0
      have q1 := hR8.cell 1
      simp at q0 q1
      refine bodyPost_ret (v := .tuple #[.agg #[.slice none 0 0, .slice none 0 0], .int .i64 8]) (by simp [results, Try.results82, go_sem, q0, q1]) rfl ?_
      exact ⟨hb8, .inr ⟨fun h => hF' h.2, rfl⟩⟩
  · have hR6' := hR5.grown hg6 (by simp; omega)
    have hbw6' := hbw5.grown hg6 hbw5.size (fun k hk => by cases hk; omega)
    have hr0 := hR6'.cell 0
    have hr1 := hR6'.cell 1
    have hf0 := hR6'.frozen 0
    have hf1 := hR6'.frozen 1
    simp at hr0 hr1
    go_wp2
    have hR8 := hR6'.two (.slice none 0 0) (.slice none 0 0)
    have hb8 := below_two hbw6' (Nat.le_refl _) (.slice none 0 0) (.slice none 0 0)
    generalize (w6.setCell ⟨w.heap.size, 0, none⟩ (.slice none 0 0)).setCell ⟨w.heap.size, 1, none⟩ (.slice none 0 0) = w8 at *
    have q0 := hR8.cell 0
    have q1 := hR8.cell 1
    simp at q0 q1
    refine bodyPost_ret (v := .tuple #[.agg #[.slice none 0 0, .slice none 0 0], .int .i64 8]) (by simp [results, Try.results82, go_sem, q0, q1]) rfl ?_
    exact ⟨hb8, .inr ⟨fun h => hF h.1, rfl⟩⟩
end Go.Proofs.Ytchhkokpjdkkiaa.Ex
