/- The contracts of the reference's read, Parse, FracParse. -/
import Derived.Test.YtgilhkdmgbeieaaUd
import Derived.Test.YtgilhkdmgbeieaaSc
import Derived.Deep.RegionHeld3
namespace Go.Proofs.Ytgilhkdmgbeieaa
open Go.RowKit

/-- Digits and whether they were read. -/
def ReadW (w : World) (b : List Nat) (e : Ending) (w' : World) : Prop :=
  ∃ A n c l ok, e = .returned (.tuple #[.slice A n c, .bool ok]) ∧ Sl w' w'.heap.size .i64 A n c l ∧ ((okD b ∧ ok = true ∧ Num 256 l (numD b)) ∨ (¬ okD b ∧ ok = false)) ∧ Below w.heap.size w w'

set_option maxRecDepth 100000 in
set_option maxHeartbeats 6400000 in
theorem rread_c (s : ByteArray) (w : World) (hs : s.size ≤ 9223372036854775807) :
    Calls Try.prog 113 #[.string s] w (ReadW w (bytesN s)) := by
  obtain ⟨b, hb⟩ : ∃ b, bytesN s = b := ⟨_, rfl⟩
  have hbl := bytesN_length s
  rw [hb] at hbl ⊢
  by_cases h0 : s.size = 0
  · have he : s = ⟨#[]⟩ := by
      obtain ⟨⟨l⟩⟩ := s
      have : l.length = 0 := h0
      rw [List.eq_nil_of_length_eq_zero this]
    subst he
    go_enter Try.func113, Try.ntmps113
    go_wp2
    go_ret2
    exact ⟨_, _, _, _, _, rfl, Sl.nil _ _ _ _ _ (by omega), .inr ⟨fun h => by have := h.1; omega, rfl⟩, Below.refl _ _⟩
  · obtain ⟨hne, hnE⟩ := toList_ne (s := s) (by omega)
    by_cases h617 : 617 < s.size
    · have h617' : (617 : Int) < (s.size : Int) := by omega
      go_enter Try.func113, Try.ntmps113
      go_wp2
      go_ret2
      exact ⟨_, _, _, _, _, rfl, Sl.nil _ _ _ _ _ (by omega), .inr ⟨fun h => by have := h.2.1; omega, rfl⟩, Below.refl _ _⟩
    · have h617' : ¬ (617 : Int) < (s.size : Int) := by omega
      have hz0 : 0 < s.size := by omega
      obtain ⟨x0, hx0⟩ : ∃ x0, (s[0]'hz0).toNat = x0 := ⟨_, rfl⟩
      have hx0b := bytesN_at s 0 hz0
      rw [hb, hx0] at hx0b
      by_cases hlead : x0 = 48 ∧ 1 < s.size
      · obtain ⟨rfl, h1s⟩ := hlead
        have h1s' : (1 : Int) < (s.size : Int) := by omega
        have HX0 := hide hx0b
        clear hx0b
        go_enter Try.func113, Try.ntmps113
        go_wp2
        go_ret2
        exact ⟨_, _, _, _, _, rfl, Sl.nil _ _ _ _ _ (by omega), .inr ⟨fun h => by have := h.2.2.2 HX0.out.symm; omega, rfl⟩, Below.refl _ _⟩
      · have hlead' : x0 ≠ 48 ∨ ¬ (1 : Int) < (s.size : Int) := by omega
        have hbc : ∀ i (h : i < s.size), ∃ x, (s[i]'h).toNat = x ∧ Hid (b.getD i 0 = x) ∧ x < 256 := fun i h => by
          refine ⟨_, rfl, ?_, (s[i]'h).toNat_lt⟩
          show b.getD i 0 = _
          rw [bytesN_at s i h, hb]
        have HBC := hide hbc
        have HB0 : Hid (b.getD 0 0 = x0) := hx0b.symm
        clear hbc hx0b hb
        have hstart : ∀ (R : Prop), (x0 ≠ 48 → R) → (x0 = 48 → ¬ (1 : Int) < (s.size : Int) → R) → R := fun R h1 h2 => by
          by_cases h : x0 = 48
          · exact h2 h (by omega)
          · exact h1 h
        refine hstart _ (fun h48 => ?_) (fun h48 h1s => ?_)
        case' refine_2 => subst h48
        all_goals
          go_enter Try.func113, Try.ntmps113
          go_wp2
          go_loopw [4, 5] (fun v4 iv wr => ∃ (i : Nat) (A : Option Addr) (n c : Nat) (la : List Nat), i ≤ s.size ∧ iv = .int .i64 i ∧ v4 = .slice A n c ∧ Sl wr wr.heap.size .i64 A n c la ∧ Num 256 la (numD (b.take i)) ∧ Hid (∀ x ∈ b.take i, 48 ≤ x ∧ x ≤ 57) ∧ Below w.heap.size w wr)
            (fun _ iv _ => s.size - (intOf iv).toNat)
          case atStart => exact ⟨0, none, 0, 0, [], Nat.zero_le _, rfl, rfl, Sl.nil _ _ _ _ _ (by omega), by rw [List.take_zero]; exact Num.nil _, fun x hx => (by simp at hx), Below.refl _ _⟩
          case round =>
            obtain ⟨i, A, n, c, la, hi, rfl, rfl, sa, Na, Hd, hbw⟩ := hrel
            have hni : n ≤ i := by
              rw [← sa.len]
              refine (Na.length_le (by omega) i).2 (Nat.lt_of_lt_of_le (numD_lt i b Hd.out) (Nat.pow_le_pow_left (by omega) i))
            by_cases hlt : i < s.size
            · obtain ⟨x, hx, HX, hx256⟩ := HBC.out i hlt
              have hlti : (i : Int) < (s.size : Int) := by omega
              by_cases hdig : 48 ≤ x ∧ x ≤ 57
              · obtain ⟨hd1, hd2⟩ := hdig
                obtain ⟨d, hd⟩ : ∃ d, x = d + 48 := ⟨x - 48, by omega⟩
                subst hd
                obtain ⟨N, hN⟩ : ∃ N, numD (b.take i) = N := ⟨_, rfl⟩
                rw [hN] at Na
                have HN := hide hN
                clear hN
                have k5 : ∀ wx (z : Int) (M : Nat), z = (M : Int) → M ≤ 100 → Calls Try.prog 121 #[.int .i64 z] wx (DigV wx M) := fun wx z M hz hM => by rw [hz]; exact small_c M wx (by omega)
                have k2 : ∀ wx Ax nx cx lx, Below wr.heap.size wr wx → Sl wx wx.heap.size .i64 Ax nx cx lx → Num 256 lx 10 → Calls Try.prog 92 #[.slice A n c, .slice Ax nx cx] wx (DigV wx (N * 10)) := fun wx Ax nx cx lx hbx sx tx => by
                  have hl : nx ≤ 1 := by rw [← sx.len]; exact (tx.length_le (by omega) 1).2 (by omega)
                  have := rmul_c _ _ _ _ _ _ _ _ wx _ ((sa.below hbx).mono hbx.size) sx (Nat.le_refl _) Na.dig tx.dig (by omega) (by omega)
                  rwa [Na.val_, tx.val_] at this
                have k4 : ∀ wx Ay ny cy ly Az nz cz lz, Sl wx wx.heap.size .i64 Ay ny cy ly → Num 256 ly (N * 10) → Sl wx wx.heap.size .i64 Az nz cz lz → Num 256 lz d → Calls Try.prog 88 #[.slice Ay ny cy, .slice Az nz cz] wx (DigV wx (N * 10 + d)) := fun wx Ay ny cy ly Az nz cz lz sy ty sz tz => by
                  have hl : nz ≤ 1 := by rw [← sz.len]; exact (tz.length_le (by omega) 1).2 (by omega)
                  have hk : ny ≤ n + 1 := by
                    rw [← sy.len]
                    refine (ty.length_le (by omega) (n + 1)).2 ?_
                    have := Na.lt
                    rw [sa.len] at this
                    rw [Nat.pow_succ]
                    omega
                  have := radd_c _ _ _ _ _ _ _ _ wx _ sy sz (Nat.le_refl _) ty.dig tz.dig (by omega) (by omega)
                  rwa [ty.val_, tz.val_] at this
                have K2 := hide k2
                have K5 := hide k5
                have K4 := hide k4
                clear k2 k4 k5
                have HWR : Hid (IntKind.i64.wrap (IntKind.u8.wrap (d : Int)) = (d : Int)) := by
                  show IntKind.i64.wrap (IntKind.u8.wrap (d : Int)) = (d : Int)
                  simp [IntKind.wrap, IntKind.bits, IntKind.signed]
                  omega
                have hbB := Below.refl wr.heap.size wr
                go_wp2_with fail
                go_region_held3 (fun w' => Below wr.heap.size wr w')
                  (first | exact hbB.drew | exact hW1 | exact hW2 | exact hW3 | exact hW4 | assumption | fail)
                  (first
                    | (go_at_call 121; refine (K5.out _ _ 10 (by omega) (by omega)).mono ?_; rintro e wz ⟨A1, m1, d1, q1, rfl, s1, N1, hbz, _⟩; have hW1 : Below wr.heap.size wr wz := Go.Below.step hbB.drew hbz (Nat.le_refl _))
                    | (go_at_call 92; refine (K2.out _ _ _ _ _ hW1 s1 N1).mono ?_; rintro e wz ⟨A2, m2, d2, q2, rfl, s2, N2, hbz, _⟩; have hW2 : Below wr.heap.size wr wz := Go.Below.step hW1 hbz (Nat.le_refl _))
                    | (go_at_call 121; refine (K5.out _ _ d HWR.out (by omega)).mono ?_; rintro e wz ⟨A3, m3, d3, q3, rfl, s3, N3, hbz, _⟩; have hW3 : Below wr.heap.size wr wz := Go.Below.step hW2 hbz (Nat.le_refl _); replace s2 := (s2.below hbz).mono hbz.size)
                    | (go_at_call 88; refine (K4.out _ _ _ _ _ _ _ _ _ s2 N2 s3 N3).mono ?_; rintro e wz ⟨A4, m4, d4, q4, rfl, s4, N4, hbz, _⟩; have hW4 : Below wr.heap.size wr wz := Go.Below.step hW3 hbz (Nat.le_refl _))
                    | fail)
                all_goals
                  have hnew : Num 256 q4 (numD (b.take (i + 1))) := by
                    rw [take_snoc (by omega) HX.out, numD_snoc, HN.out, Nat.mul_comm 10 N]
                    exact N4
                  have hd' : ∀ x ∈ b.take (i + 1), 48 ≤ x ∧ x ≤ 57 := fun x hx => by
                    rw [take_snoc (by omega) HX.out] at hx
                    rcases List.mem_append.1 hx with h | h
                    · exact Hd.out x h
                    · rw [List.mem_singleton.1 h]; omega
                  have HNW := hide hnew
                  have HD := hide hd'
                  clear hnew hd'
                  go_wp2
                  go_roundw
                  case rel => exact ⟨i + 1, A4, m4, d4, q4, by omega, by go_num, rfl, s4, HNW.out, HD.out, hbw.trans (hW4.mono hbw.size)⟩
                  case measure => simp [intOf] <;> omega
              · have hnd : ¬ okD b := fun h => hdig (h.2.2.1 x (by rw [← HX.out]; exact getD_mem (by omega)))
                have hc : x < 48 ∨ (48 ≤ x ∧ 57 < x) := by omega
                rcases hc with hc | hc
                all_goals
                  go_wp2
                  go_ret2
                  exact ⟨_, _, _, _, _, rfl, Sl.nil _ _ _ _ _ (by omega), .inr ⟨hnd, rfl⟩, hbw⟩
            · obtain rfl : i = s.size := by omega
              have hok : okD b := by
                have h := Hd.out
                rw [List.take_of_length_le (by omega)] at h
                exact ⟨by omega, by omega, h, fun h => by rw [HB0.out] at h; omega⟩
              rw [List.take_of_length_le (by omega)] at Na
              go_wp2
              go_ret2
              exact ⟨_, _, _, _, _, rfl, sa, .inl ⟨hok, rfl, Na⟩, hbw⟩
end Go.Proofs.Ytgilhkdmgbeieaa
