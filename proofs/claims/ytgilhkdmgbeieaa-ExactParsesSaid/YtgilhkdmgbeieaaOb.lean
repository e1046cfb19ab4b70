/- Contracts of the reference's digits, Of. -/
import Derived.Test.YtgilhkdmgbeieaaRf
import Derived.Test.YtgilhkdmgbeieaaOa
namespace Go.Proofs.Ytgilhkdmgbeieaa
open Go.RowKit

theorem Sl.quad (w : World) (E : TypeId) (k : IntKind) (x y z t : Nat) {a b c d : Value} (ha : a = .int k x) (hb : b = .int k y) (hc : c = .int k z) (hd : d = .int k t) :
    Sl (w.alloc (.cells #[a, b, c, d] E)) (w.heap.size + 1) k (some ⟨w.heap.size, 0, none⟩) 4 4 [x, y, z, t] := by
  subst ha hb hc hd
  refine ⟨rfl, Nat.le_refl _, by omega, fun _ => ⟨w.heap.size, 0, rfl, by omega, fun j hj => ?_⟩⟩
  rw [World.cell?_alloc_at _ _ _ _ rfl]
  rcases (show j = 0 ∨ j = 1 ∨ j = 2 ∨ j = 3 by omega) with rfl | rfl | rfl | rfl <;> rfl

theorem quad_val (x : Nat) : val 256 [x % 256, x / 256 % 256, x / 65536 % 256, x / 16777216] = x := by
  simp only [val]; omega
theorem quad_digs {x : Nat} (h : x < 4294967296) : Digs 256 [x % 256, x / 256 % 256, x / 65536 % 256, x / 16777216] := fun y hy => by
  simp at hy
  rcases hy with rfl | rfl | rfl | rfl <;> omega

structure DigsI (l lo : List Nat) (i : Nat) : Prop where
  len : lo.length = 4 * i
  dig : Digs 256 lo
  eq : val 256 lo = val 4294967296 (l.take i)
theorem DigsI.step {l lo : List Nat} {i x : Nat} (h : DigsI l lo i) (hx : l.getD i 0 = x) (hx1 : x < 4294967296) : DigsI l (lo ++ [x % 256, x / 256 % 256, x / 65536 % 256, x / 16777216]) (i + 1) := by
  obtain ⟨h1, h2, h3⟩ := h
  refine ⟨by simp [h1]; omega, h2.append (quad_digs hx1), ?_⟩
  rw [val_append, quad_val, h1, h3, val_take_succ, hx, pow_four]

set_option maxHeartbeats 800000 in
theorem rdigits_c (A : Option Addr) (n c : Nat) (l : List Nat) (w : World) (B : Nat) (h : Sl w B .u32 A n c l) (hB : B ≤ w.heap.size) (hd : Digs 4294967296 l) (hn : n ≤ 1073741823) :
    Calls Try.prog 83 #[.slice A n c] w (DigV w (val 4294967296 l)) := by
  go_enter Try.func83, Try.ntmps83
  go_wp2
  go_loopw [3, 4] (fun ov iv wr => ∃ (i : Nat) (A0 : Option Addr) (n0 c0 : Nat) (lo : List Nat), i ≤ n ∧ iv = .int .i64 i ∧ ov = .slice A0 n0 c0 ∧ Own wr w.heap.size 3 .i64 A0 n0 c0 lo ∧ DigsI l lo i ∧ Below w.heap.size w wr)
    (fun _ iv _ => n - (intOf iv).toNat)
  case atStart => exact ⟨0, none, 0, 0, [], Nat.zero_le _, rfl, rfl, Own.nil _ _ _ _, ⟨rfl, Digs.nil _, by simp [val]⟩, Below.refl _ _⟩
  case round =>
    obtain ⟨i, A0, n0, c0, lo, hi, rfl, rfl, ho, hI, hbw⟩ := hrel
    have hn0 : n0 ≤ 4294967292 := by rw [← ho.len, hI.len]; omega
    have hz := hbw.size
    by_cases hlt : i < n
    · obtain ⟨b1, o1, x, rfl, hb1, hx, hxm, hcx⟩ := (h.below (hbw.mono hB)).cell hlt
      have hx1 := hd x hxm
      have HX := hide hx
      clear hx
      go_wp2_with (first
        | (at_builtin; refine wl_append _ rfl (.tmp 17) (.tmp 28) _ rfl w.heap.size 3 .i64 8 Try.underlying82 info_int (by omega) A0 n0 c0 lo rfl (ho.alloc _) (some ⟨wr.heap.size, 0, none⟩) 4 4 [x % 256, x / 256 % 256, x / 65536 % 256, x / 16777216] rfl (wr.heap.size + 1) (Sl.quad wr _ _ (x % 256) (x / 256 % 256) (x / 65536 % 256) (x / 16777216) rfl rfl rfl rfl) (by omega) (by simp; omega) ?_; intro A3 c3 w3 o3 hg3 hA3))
      go_roundw
      case rel => exact ⟨i + 1, A3, n0 + 4, c3, _, by omega, by go_num, rfl, o3, hI.step HX.out hx1, (hbw.alloc hz _).grown hg3 (by simp; omega) (fun k hk => (ho.block k hk).1)⟩
      case measure => simp [intOf] <;> omega
    · obtain rfl : i = n := by omega
      have he := hI.eq
      rw [List.take_of_length_le (Nat.le_of_eq h.len)] at he
      go_wp2_with (go_at_call 82; refine (rtrim_n _ _ _ _ _ _ ho.sl hI.dig).mono ?_; rintro e w' ⟨m, hm, rfl, ta, rfl⟩)
      go_ret
      rw [he] at ta
      exact ⟨_, _, _, _, rfl, (ho.take hm).sl, ta, hbw, fun g hg => (ho.block g hg).1⟩

set_option maxHeartbeats 800000 in
theorem rof_c (N : Nat) (w : World) (hN : N < 18446744073709551616) : Calls Try.prog 23 #[.int .u64 N] w (NatV w N) := by
  go_enter Try.func23, Try.ntmps23
  go_wp2_with fail
  have hs := Sl.pair w 58 .u32 (N % 4294967296) (N / 4294967296) (v := .int .u32 ((N : Int) % 4294967296)) (u := .int .u32 ((N : Int) / 4294967296)) rfl rfl
  have hd : Digs 4294967296 [N % 4294967296, N / 4294967296] := fun x hx => by
    simp at hx
    rcases hx with rfl | rfl <;> omega
  have hb := (Below.refl w.heap.size w).alloc (Nat.le_refl _) (.cells #[.int .u32 ((N : Int) % 4294967296), .int .u32 ((N : Int) / 4294967296)] 58)
  have hc := rdigits_c _ _ _ _ _ _ hs (by simp) hd (by omega)
  rw [show val 4294967296 [N % 4294967296, N / 4294967296] = N by simp only [val]; omega] at hc
  refine hc.mono ?_
  rintro e w1 ⟨A, n, c, l, rfl, s1, N1, hb1, _⟩
  have hbw1 := hb.trans (hb1.mono hb.size)
  have hl : n ≤ 8 := by
    rw [← s1.len]; exact (N1.length_le (by omega) 8).2 (by omega)
  clear hc hs hb hb1
  go_wp2_with fail
  refine (rtrim_n _ _ _ _ _ _ s1 N1.dig).mono ?_
  rintro e w2 ⟨m, hm, rfl, N2, rfl⟩
  rw [N1.val_] at N2
  go_wp2_with fail
  refine (rnat_c _ _ _ _ _ w1 _ (s1.take hm) (Nat.le_refl _) N2 (by omega)).mono ?_
  rintro e w3 ⟨A3, n3, c3, l3, rfl, s3, N3, hb3, _⟩
  go_wp2
  go_ret
  exact ⟨_, _, _, _, rfl, s3, N3, hbw1.trans (hb3.mono hbw1.size)⟩
end Go.Proofs.Ytgilhkdmgbeieaa
