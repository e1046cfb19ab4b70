/- The contract of exact's ways. -/
import Derived.Test.YtgilhkdmgbeieaaWh
namespace Go.Proofs.Ytgilhkdmgbeieaa
open Go.RowKit

section
variable {P : Program} (w : World) {ops : Array Oper} {rest : List Oper} {o : Oper} {a : Act} {Q : Exit → Act → World → Prop}
theorem wl_min3 (hg : o.guard = none) (x y z : Operand) (ts : Array TypeId) (ho : o.op = .call { callee := .builtin .min, args := #[x, y, z], argTypes := ts }) (k k' k'' : IntKind) (p q r m : Int)
    (hx : a.eval x = .int k p) (hy : a.eval y = .int k' q) (hz : a.eval z = .int k'' r) (hm : min (min p q) r = m) (hK : wpList P ops Q rest (a.put o.dst (.int k m)) w) : wpList P ops Q (o :: rest) a w := by
  refine wpList_plain hg fun K hKK => ?_
  have e : (if r < (if q < p then q else p) then r else (if q < p then q else p)) = m := by split <;> split <;> omega
  have hrun : (Builtin.min_ ts o.type #[.int k p, .int k' q, .int k'' r]).run P w = .ok (.int k m) w := by
    rw [← e]; simp [Builtin.min_, Builtin.min2]
  unfold Oper.wp execOp
  simp only [ho, resolve, invoke, builtin, Sem.run_bind, Sem.run_pure, Result.andThen_ok, List.map_toArray, List.map_cons, List.map_nil, hx, hy, hz, hrun]
  exact hKK _ _ hK
end

theorem Num.len_Wn {l : List Nat} {t b s m n : Nat} (h : Num 4294967296 l (Wn t b s m)) (hb : b ≤ 512) (ht : t ≤ 512) (hm : m ≤ 513) (hl : l.length = n) : n ≤ 40 := by
  rw [← hl]
  refine (h.length_le (by omega) 40).2 ?_
  have h1 := Wn_le t b s 512 1024 hb ht rfl m
  have h2 : ∀ f, m * 2 ^ f ≤ 2 ^ (10 + f) := fun f => by
    rw [Nat.pow_add]
    exact Nat.mul_le_mul_right _ (by omega)
  exact lt_pow_of_le (m := 10 + 1024) (Nat.le_trans h1 (h2 1024)) rfl 40 (by omega)

theorem prod_le {a b c d e : Nat} (ha : a ≤ e) (hc : c ≤ e) : Cn a b * Cn c d ≤ 2 ^ (e + e) := by
  rw [Nat.pow_add]
  exact Nat.mul_le_mul (Nat.le_trans (Cn_le _ _) (Nat.pow_le_pow_right (by omega) ha)) (Nat.le_trans (Cn_le _ _) (Nat.pow_le_pow_right (by omega) hc))
theorem Num.len_prod {l : List Nat} {a b c d n : Nat} (h : Num 4294967296 l (Cn a b * Cn c d)) (ha : a ≤ 512) (hc : c ≤ 512) (hl : l.length = n) : n ≤ 40 := by
  rw [← hl]
  exact (h.length_le (by omega) 40).2 (lt_pow_of_le (prod_le ha hc) rfl 40 (by omega))

set_option maxRecDepth 100000 in
set_option maxHeartbeats 1600000 in
theorem ways_c (T b s : Nat) (seen : Int) (w : World) (hT : T ≤ 512) (hb : b ≤ T) (hs : s ≤ T) (h1 : -9223372036854775808 ≤ seen) (h2 : seen ≤ 9223372036854775807) :
    Calls Try.prog 73 #[.int .i64 T, .int .i64 b, .int .i64 s, .int .i64 seen] w (NatV w (Wn T b s (seen + 1).toNat)) := by
  obtain ⟨F, HF, hF1, hF2⟩ : ∃ F : Nat, Hid (s - (T - b) = F) ∧ F ≤ s ∧ F ≤ b := ⟨_, rfl, by omega, by omega⟩
  by_cases hgt : seen < F
  · rw [Wn_zero_upto (fun i hi => by have := HF.out; omega)]
    obtain ⟨m, HM⟩ : ∃ m : Int, Hid (min (min seen b) s = m) := ⟨_, rfl⟩
    have hm : m < F := by have := HM.out; omega
    go_enter Try.func73, Try.ntmps73
    go_wp2_with (first
      | (with_reducible refine wl_max _ rfl _ _ _ rfl _ _ _ _ (F : Nat) rfl rfl (by have := HF.out; omega) ?_)
      | (with_reducible refine wl_min3 _ rfl _ _ _ _ rfl _ _ _ _ _ _ m rfl rfl rfl HM.out ?_))
    go_ret
    exact ⟨_, _, _, _, rfl, Sl.nil _ _ _ _ _ (by omega), Num.nil _, Below.refl _ _⟩
  · obtain ⟨S, rfl⟩ := Int.eq_ofNat_of_zero_le (show 0 ≤ seen by omega)
    rw [show ((S : Int) + 1).toNat = S + 1 by omega]
    obtain ⟨m, HM, hm1, hm2, hm3, hm4⟩ : ∃ m : Nat, Hid (min (min S b) s = m) ∧ m ≤ b ∧ m ≤ s ∧ m ≤ S ∧ F ≤ m := ⟨_, rfl, by omega, by omega, by omega, by omega⟩
    have HW : Hid (Wn T b s (S + 1) = Wn T b s (m + 1)) := by
      rcases Nat.lt_or_ge m S with hlt | hge
      · exact Wn_stop (by omega) (by have := HM.out; omega)
      · obtain rfl : m = S := by omega
        rfl
    rw [HW.out]
    clear hgt
    go_enter Try.func73, Try.ntmps73
    go_wp2_with (first
      | (with_reducible refine wl_max _ rfl _ _ _ rfl _ _ _ _ (F : Nat) rfl rfl (by have := HF.out; omega) ?_)
      | (with_reducible refine wl_min3 _ rfl _ _ _ _ rfl _ _ _ _ _ _ (m : Nat) rfl rfl rfl (by have := HM.out; omega) ?_))
    have hc1 := choose_c b F w (by omega) (by omega) (by omega)
    rw [Ci_nat] at hc1
    refine hc1.mono ?_
    rintro e w1 ⟨A1, n1, c1, l1, rfl, hs1, hn1, hb1⟩
    clear hc1
    have hc2 := choose_c (T - b) ((s - F : Nat) : Int) w1 (by omega) (by omega) (by omega)
    rw [Ci_nat] at hc2
    go_wp2_with fail
    rw [show ((T : Int) - b) = ((T - b : Nat) : Int) by omega, show ((s : Int) - F) = ((s - F : Nat) : Int) by omega]
    refine hc2.mono ?_
    rintro e w2 ⟨A2, n2, c2, l2, rfl, hs2, hn2, hb2⟩
    clear hc2
    have hb12 : Below w.heap.size w w2 := hb1.trans (hb2.mono hb1.size)
    have hs1' := (hs1.below hb2).mono hb2.size
    clear hs1 hb1 hb2
    go_wp2
    go_loopw [9, 11, 12, 13] (fun vs v1 v2 iv wr => ∃ (i : Nat) (A0 : Option Addr) (n0 c0 : Nat) (l0 : List Nat) (A1 : Option Addr) (n1 c1 : Nat) (l1 : List Nat) (A2 : Option Addr) (n2 c2 : Nat) (l2 : List Nat),
        F ≤ i ∧ i ≤ m + 1 ∧ iv = .int .i64 i ∧ vs = .slice A0 n0 c0 ∧ v1 = .slice A1 n1 c1 ∧ v2 = .slice A2 n2 c2 ∧ Sl wr wr.heap.size .u32 A0 n0 c0 l0 ∧ Num 4294967296 l0 (Wn T b s i) ∧
        Sl wr wr.heap.size .u32 A1 n1 c1 l1 ∧ Num 4294967296 l1 (Cn b i) ∧ Sl wr wr.heap.size .u32 A2 n2 c2 l2 ∧ Num 4294967296 l2 (Cn (T - b) (s - i)) ∧ Below w.heap.size w wr)
      (fun _ _ _ iv _ => m + 1 - (intOf iv).toNat)
    case atStart => exact ⟨F, _, _, _, [], _, _, _, l1, _, _, _, l2, Nat.le_refl _, by omega, rfl, rfl, rfl, rfl, Sl.nil _ _ _ _ _ (by omega), by rw [Wn_zero_upto (fun i hi => by have := HF.out; omega)]; exact Num.nil _, hs1', hn1, hs2, hn2, hb12⟩
    case round =>
      clear hs1' hn1 hs2 hn2 hb12
      obtain ⟨i, A0, n0, c0, l0, A1, n1, c1, l1, A2, n2, c2, l2, hFi, him, rfl, rfl, rfl, rfl, s0, N0, s1, N1, s2, N2, hbw⟩ := hrel
      by_cases hlt : i < m + 1
      · have hl0 := N0.len_Wn (by omega) hT (by omega) s0.len
        have hl1 := N1.len_Cn (by omega) s1.len
        have hl2 := N2.len_Cn (by omega) s2.len
        have HWs : Hid (Wn T b s i + Cn b i * Cn (T - b) (s - i) = Wn T b s (i + 1)) := by show _ = _; rw [Wn, if_pos (by omega)]
        go_wp2_with (with_reducible refine wl_min3 _ rfl _ _ _ _ rfl _ _ _ _ _ _ (m : Nat) rfl rfl rfl (by have := HM.out; omega) ?_)
        have t1 := times_c _ _ _ _ _ _ _ _ wr _ s1 s2 (Nat.le_refl _) N1.dig N2.dig (by omega) (by omega)
        rw [N1.val_, N2.val_] at t1
        refine t1.mono ?_
        rintro e w3 ⟨g3, n3, c3, l3, rfl, o3, N3, hb3⟩
        clear t1
        have hl3 := N3.len_prod (by omega) (by omega) o3.len
        have s0' := (s0.below hb3).mono hb3.size
        have s1' := (s1.below hb3).mono hb3.size
        have s2' := (s2.below hb3).mono hb3.size
        have hbw3 := hbw.trans (hb3.mono hbw.size)
        clear s0 s1 s2 hb3 hbw
        go_wp2_with fail
        have t2 := plus_c _ _ _ _ _ _ _ _ w3 _ s0' o3.sl (Nat.le_refl _) N0.dig N3.dig (by omega) (by omega)
        rw [N0.val_, N3.val_, HWs.out] at t2
        refine t2.mono ?_
        rintro e w4 ⟨g4, n4, c4, l4, rfl, o4, N4, hb4⟩
        clear t2 s0' o3
        have s1 := (s1'.below hb4).mono hb4.size
        have s2 := (s2'.below hb4).mono hb4.size
        have hbw4 := hbw3.trans (hb4.mono hbw3.size)
        clear s1' s2' hb4 hbw3
        go_wp2_with fail
        have t3 := next_c _ _ _ _ w4 _ b i s1 (Nat.le_refl _) N1.dig (by omega) (by omega) (by omega)
        rw [N1.val_, Cn_next] at t3
        refine t3.mono ?_
        rintro e w5 ⟨g5, n5, c5, l5, rfl, o5, N5, hb5⟩
        clear t3
        have o4' := o4.below hb5 (Nat.le_refl _)
        have s2' := (s2.below hb5).mono hb5.size
        have hbw5 := hbw4.trans (hb5.mono hbw4.size)
        clear s1 s2 o4 hb5 hbw4
        by_cases h0 : i < s
        · obtain ⟨k, hk⟩ : ∃ k, s - i = k + 1 := ⟨s - i - 1, by omega⟩
          rw [hk] at N2
          have HK := hide hk
          have hsk1 : s ≤ i + (k + 1) := by omega
          have hsk2 : i + (k + 1) ≤ s := by omega
          have hkk : k + 1 ≤ T - b := by have := HF.out; omega
          clear hk
          go_wp2_with fail
          have t4 := times_c _ _ _ _ (some ⟨w5.heap.size, 0, none⟩) 1 1 [k + 1] (w5.alloc (.cells #[.int .u32 ((s : Int) - i)] 58)) (w5.heap.size + 1)
            ((s2'.below ((Below.refl _ _).alloc (Nat.le_refl _) _)).mono (by omega)) (Sl.one w5 _ _ _ (congrArg (Value.int .u32) (by omega))) (by simp) N2.dig (Digs.one (by omega)) (by omega) (by omega)
          rw [show val 4294967296 [k + 1] = k + 1 by simp [val], N2.val_] at t4
          refine t4.mono ?_
          rintro e w6 ⟨g6, n6, c6, l6, rfl, o6, N6, hb6⟩
          clear t4
          have hl6 : n6 ≤ 40 := by
            refine (o6.len ▸ (N6.length_le (by omega) 40).2 ?_)
            have h6 := N2.lt
            rw [s2'.len] at h6
            refine Nat.lt_of_lt_of_le (Nat.mul_lt_mul_of_lt_of_le h6 (show k + 1 ≤ 4294967296 by omega) (by omega)) ?_
            rw [← Nat.pow_succ]
            exact Nat.pow_le_pow_right (by omega) (by omega)
          have b56 : Below w.heap.size w5 w6 := ((Below.refl _ _).alloc hbw5.size _).trans (hb6.mono (by have := hbw5.size; simp; omega))
          have o4'' := (o4'.alloc (.cells #[.int .u32 ((s : Int) - i)] 58)).below hb6 (Nat.le_refl _)
          have o5'' := (o5.alloc (.cells #[.int .u32 ((s : Int) - i)] 58)).below hb6 (Nat.le_refl _)
          have hbw6 := hbw5.trans b56
          clear o4' o5 s2' hb6 hbw5 b56
          go_wp2_with fail
          have hz : ((T : Int) - b - ((s : Int) - i) + 1) = ((T - b - (k + 1) + 1 : Nat) : Int) := by omega
          have t5 := split_c _ _ _ _ (some ⟨w6.heap.size, 0, none⟩) 1 1 [T - b - (k + 1) + 1] (w6.alloc (.cells #[.int .u32 ((T : Int) - b - ((s : Int) - i) + 1)] 58)) (w6.heap.size + 1)
            ((o6.sl.below ((Below.refl _ _).alloc (Nat.le_refl _) _)).mono (by omega)) (Sl.one w6 _ _ _ (congrArg (Value.int .u32) hz)) (by simp) N6.dig (Digs.one (by omega)) (by omega) (by omega) (by simp [val])
          rw [show val 4294967296 [T - b - (k + 1) + 1] = T - b - (k + 1) + 1 by simp [val], N6.val_, Cn_prev hkk] at t5
          refine t5.mono ?_
          rintro e w7 ⟨g7, n7, c7, l7, g8, n8, c8, l8, rfl, o7, N7, _, _, hb7⟩
          clear t5
          have b67 : Below w.heap.size w6 w7 := ((Below.refl _ _).alloc hbw6.size _).trans (hb7.mono (by have := hbw6.size; simp; omega))
          have o4 := (o4''.alloc (.cells #[.int .u32 ((T : Int) - b - ((s : Int) - i) + 1)] 58)).below hb7 (Nat.le_refl _)
          have o5 := (o5''.alloc (.cells #[.int .u32 ((T : Int) - b - ((s : Int) - i) + 1)] 58)).below hb7 (Nat.le_refl _)
          have hbw7 := hbw6.trans b67
          clear o4'' o5'' o6 hb7 hbw6 b67
          go_wp2
          go_roundw
          case rel => exact ⟨i + 1, _, _, _, l4, _, _, _, l5, _, _, _, l7, by omega, by omega, by go_num, rfl, rfl, rfl, o4.sl, N4, o5.sl, N5, o7.sl, by rw [show s - (i + 1) = k by omega]; exact N7, hbw7⟩
          case measure => simp [intOf] <;> omega
        · have his : i = s := by omega
          subst his
          go_wp2
          go_roundw
          case rel => exact ⟨i + 1, _, _, _, l4, _, _, _, l5, _, _, _, l2, by omega, by omega, by go_num, rfl, rfl, rfl, o4'.sl, N4, o5.sl, N5, s2', by rw [show i - (i + 1) = i - i by omega]; exact N2, hbw5⟩
          case measure => simp [intOf] <;> omega
      · obtain rfl : i = m + 1 := by omega
        go_wp2_with (with_reducible refine wl_min3 _ rfl _ _ _ _ rfl _ _ _ _ _ _ (m : Nat) rfl rfl rfl (by have := HM.out; omega) ?_)
        go_ret
        exact ⟨_, _, _, _, rfl, s0, N0, hbw⟩
end Go.Proofs.Ytgilhkdmgbeieaa
