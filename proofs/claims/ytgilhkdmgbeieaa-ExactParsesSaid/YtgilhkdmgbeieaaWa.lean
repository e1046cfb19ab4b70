/- Contracts of exact's small functions: trim, clone, Check, check, sane. -/
import Derived.Test.YtgilhkdmgbeieaaProg
import Derived.Test.YtgilhkdmgbeieaaBase
import Derived.Test.YtgilhkdmgbeieaaMath
namespace Go.Proofs.Ytgilhkdmgbeieaa
open Go.RowKit

theorem info_u32 : (Try.prog.info? 58).map (fun i => (i.zero, i.size, i.bytes)) = some (some (.int .u32 0), 1, 4) := by kernel_rfl
theorem info_int : (Try.prog.info? 3).map (fun i => (i.zero, i.size, i.bytes)) = some (some (.int .i64 0), 1, 8) := by kernel_rfl

set_option maxHeartbeats 400000 in
theorem trim_c (A : Option Addr) (n c : Nat) (l : List Nat) (w : World) (B : Nat) (h : Sl w B .u32 A n c l) :
    Calls Try.prog 85 #[.slice A n c] w fun e w' => e = .returned (.slice A (trimN l n) c) ∧ w = w' := by
  have hcap := h.cap
  have hmax := h.max
  go_enter Try.func85, Try.ntmps85
  go_wp2
  go_loop [3] (fun v => ∃ k : Nat, k ≤ n ∧ v = .int .i64 k ∧ trimN l k = trimN l n) (fun v => (intOf v).toNat)
  case atStart => exact ⟨n, Nat.le_refl _, rfl, rfl⟩
  case round =>
    obtain ⟨k, hk, rfl, ht⟩ := hrel
    have HT := hide ht
    clear ht
    by_cases h0 : 0 < k
    · obtain ⟨k, rfl⟩ : ∃ j, k = j + 1 := ⟨k - 1, by omega⟩
      obtain ⟨b, off, x, rfl, hb, hx, hm, hcx⟩ := h.cell (i := k) (by omega)
      have HX := hide hx
      clear hx h
      go_wp2
      · go_round
        case rel =>
          refine ⟨k, by omega, by go_num, ?_⟩
          rw [← HT.out, trimN, if_pos]
          rw [HX.out]
          have h0 : ((x : Int) == 0) = true := by assumption
          simpa using h0
        case measure => simp [intOf] <;> omega
      · go_ret
        have h0 : ((x : Int) == 0) = false := by assumption
        refine ⟨?_, rfl⟩
        rw [← HT.out, trimN, if_neg (by rw [HX.out]; simpa using h0)]; rfl
    · obtain rfl : k = 0 := by omega
      clear h
      go_wp2
      go_ret
      exact ⟨by rw [← HT.out]; rfl, rfl⟩
/-- trim, in words of numbers. -/
theorem trim_n (A : Option Addr) (n c : Nat) (l : List Nat) (w : World) (B : Nat) (h : Sl w B .u32 A n c l) (hd : Digs 4294967296 l) :
    Calls Try.prog 85 #[.slice A n c] w fun e w' => ∃ m, m ≤ n ∧ e = .returned (.slice A m c) ∧ Num 4294967296 (l.take m) (val 4294967296 l) ∧ w = w' :=
  (trim_c A n c l w B h).mono fun e w' ⟨he, hw⟩ => ⟨_, trimN_le l n, he, by
    have := Num.trim hd n
    rwa [show l.take n = l from List.take_of_length_le (Nat.le_of_eq h.len)] at this, hw⟩

/-- A number in new memory. -/
def NatR (w : World) (N : Nat) (e : Ending) (w' : World) : Prop :=
  ∃ g n c l, e = .returned (.slice (some ⟨g, 0, none⟩) n c) ∧ Own w' w.heap.size 58 .u32 (some ⟨g, 0, none⟩) n c l ∧ Num 4294967296 l N ∧ Below w.heap.size w w'

set_option maxHeartbeats 400000 in
theorem clone_c (A : Option Addr) (n c : Nat) (l : List Nat) (w : World) (B : Nat) (h : Sl w B .u32 A n c l) (hB : B ≤ w.heap.size) (hd : Digs 4294967296 l) (hn : n ≤ 1099511627776) :
    Calls Try.prog 84 #[.slice A n c] w (NatR w (val 4294967296 l)) := by
  have htr := trimN_le l n
  go_enter Try.func84, Try.ntmps84
  go_wp2_with (first
    | (go_at_call 85; refine (trim_c _ _ _ _ _ _ h).mono ?_; rintro e w' ⟨rfl, rfl⟩)
    | (at_make; refine wl_make _ rfl _ _ _ rfl 58 .u32 4 Try.underlying23 info_u32 (by omega) _ _ (trimN l n) rfl rfl rfl rfl (by omega) ?_; intro w1 hown hgr hsz)
    | (with_reducible refine wl_copy _ rfl _ _ _ _ rfl w.heap.size 58 .u32 4 Try.underlying23 info_u32 _ _ _ _ rfl hown _ _ _ _ rfl B ((h.take htr).below ((Below.refl _ _).grown hgr hB (fun k hk => by cases hk))) ?_; intro w2 hown2 hgr2))
  go_ret
  have hl : (l.take (trimN l n)).length = trimN l n := by rw [List.length_take, h.len]; omega
  have e : (l.take (trimN l n)).take (trimN l n) ++ (List.replicate (trimN l n) 0).drop (trimN l n) = l.take (trimN l n) := by
    rw [List.drop_of_length_le (by simp), List.append_nil, List.take_take, Nat.min_self]
  rw [e] at hown2
  refine ⟨_, _, _, _, rfl, hown2, ?_, ((Below.refl _ _).grown hgr (Nat.le_refl _) (fun k hk => by cases hk)).grown hgr2 (by omega) (fun k hk => by cases hk; omega)⟩
  have := Num.trim hd n
  rwa [show l.take n = l from List.take_of_length_le (Nat.le_of_eq h.len)] at this
set_option maxHeartbeats 800000 in
theorem plus_c (A : Option Addr) (na ca : Nat) (la : List Nat) (A' : Option Addr) (nb cb : Nat) (lb : List Nat) (w : World) (B : Nat) (ha : Sl w B .u32 A na ca la) (hb : Sl w B .u32 A' nb cb lb)
    (hB : B ≤ w.heap.size) (hda : Digs 4294967296 la) (hdb : Digs 4294967296 lb) (hna : na ≤ 1073741824) (hnb : nb ≤ 1073741824) :
    Calls Try.prog 86 #[.slice A na ca, .slice A' nb cb] w (NatR w (val 4294967296 la + val 4294967296 lb)) := by
  obtain ⟨M, HM, h1, h2, h3⟩ : ∃ M : Nat, Hid (max na nb = M) ∧ na ≤ M ∧ nb ≤ M ∧ M ≤ 1073741824 := ⟨_, rfl, by omega, by omega, by omega⟩
  go_enter Try.func86, Try.ntmps86
  go_wp2_with (first
    | (with_reducible refine wl_max _ rfl _ _ _ rfl _ _ _ _ (M : Nat) rfl rfl (by have := HM.out; omega) ?_)
    | (at_make; refine wl_make _ rfl _ _ _ rfl 58 .u32 4 Try.underlying23 info_u32 (by omega) _ _ (M + 1) rfl rfl (by omega) (by omega) (by omega) ?_; intro w1 hown hgr hsz))
  have hbel : Below w.heap.size w w1 := (Below.refl _ _).grown hgr (Nat.le_refl _) (fun k hk => by cases hk)
  clear hgr
  go_loopw [6, 17] (fun cv iv wr => ∃ (i carry : Nat) (lo : List Nat), i ≤ M + 1 ∧ iv = .int .i64 i ∧ cv = .int .u64 carry ∧ carry < 2 ∧
      Own wr w.heap.size 58 .u32 (some ⟨w.heap.size, 0, none⟩) (M + 1) (M + 1) lo ∧ Digs 4294967296 lo ∧ PlusI 4294967296 la lb lo i carry ∧ Below w.heap.size w wr)
    (fun _ iv _ => M + 1 - (intOf iv).toNat)
  case atStart => exact ⟨0, 0, _, by omega, rfl, rfl, by omega, hown, Digs.replicate (by omega) _, rfl, hbel⟩
  case round =>
    obtain ⟨i, carry, lo, hi, rfl, rfl, hc, ho, hdo, hI, hbw⟩ := hrel
    by_cases hlt : i < M + 1
    · obtain ⟨z, _, _, hcz⟩ := ho.cell hlt
      have hfz := ho.frozen i
      rcases (ha.below (hbw.mono hB)).cell_or hda (by omega) i with ⟨hia, b1, o1, x, rfl, hcx, HX, hx1⟩ | ⟨hia, x, hx0, HX, hx1⟩ <;>
      rcases (hb.below (hbw.mono hB)).cell_or hdb (by omega) i with ⟨hib, b2, o2, y, rfl, hcy, HY, hy1⟩ | ⟨hib, y, hy0, HY, hy1⟩ <;>
      (go_wp2
       go_roundw
       case rel =>
         have hs := hI.step (y := (carry + x + y) % 4294967296) (by rw [ho.len]; omega) (by rw [HX.out, HY.out])
         rw [HX.out, HY.out] at hs
         exact ⟨i + 1, (carry + x + y) / 4294967296, _, by omega, by go_num, by go_num, by omega, ho.store i ((carry + x + y) % 4294967296) (by go_num), hdo.set _ _ (by omega), hs, hbw.setCell (Nat.le_refl _) _⟩
       case measure => simp [intOf] <;> omega)
    · obtain rfl : i = M + 1 := by omega
      go_wp2_with (go_at_call 85; refine (trim_c _ _ _ _ _ _ ho.sl).mono ?_; rintro e w' ⟨rfl, rfl⟩)
      go_ret
      have hv := Num.trim hdo (M + 1)
      rw [show lo.take (M + 1) = lo from List.take_of_length_le (Nat.le_of_eq ho.len), hI.done (by omega) (by rw [ha.len]; exact h1) (by rw [hb.len]; exact h2) hda hdb ho.len] at hv
      exact ⟨_, _, _, _, rfl, ho.take (trimN_le _ _), hv, hbw⟩
end Go.Proofs.Ytgilhkdmgbeieaa
