/- Contracts of the draws from a seed, of algebra and of the reference. Arrangements: the plain model of their validity; contracts of part, weights, row, Check of optics. -/
import Derived.Test.YtchhkokpjdkkiaaTopSiftsa02
import Derived.Laws.BitsAllLaws
import Derived.Deep.DeepCutAuto
import Derived.Deep.MidRow
namespace Go.Proofs.Ytchhkokpjdkkiaa
open Go.RowKit

def a1 (s : Nat) : Nat := 4906513781625342421 * s % 18446744073709551616
def h32 (t : Nat) : Nat := t / 4294967296
def x32 (t : Nat) : Nat := t ^^^ t / 4294967296
def h29 (t : Nat) : Nat := t / 536870912
theorem u64_wrap (n : Nat) : IntKind.u64.wrap (n : Int) = ((n % 18446744073709551616 : Nat) : Int) := by
  simp [IntKind.wrap, IntKind.bits, IntKind.signed]
theorem u64_wrap_lt (n : Nat) (h : n < 18446744073709551616) : IntKind.u64.wrap (n : Int) = (n : Int) := by
  rw [u64_wrap, Nat.mod_eq_of_lt h]
theorem w1 (s : Nat) : IntKind.u64.wrap ((s : Int) * 4906513781625342421) = ((a1 s : Nat) : Int) := by
  rw [show (s : Int) * 4906513781625342421 = ((4906513781625342421 * s : Nat) : Int) by omega, u64_wrap]; rfl
theorem w1' (s : Nat) : IntKind.u64.wrap (4906513781625342421 * (s : Int)) = ((a1 s : Nat) : Int) := by
  rw [show 4906513781625342421 * (s : Int) = ((4906513781625342421 * s : Nat) : Int) by omega, u64_wrap]; rfl
theorem w2 (s : Nat) : IntKind.u64.wrap ((a1 s : Int) + 1181783497276652981) = ((nx s : Nat) : Int) := by
  rw [show (a1 s : Int) + 1181783497276652981 = ((a1 s + 1181783497276652981 : Nat) : Int) by omega, u64_wrap]
  unfold a1 nx; rw [Nat.mod_add_mod]
theorem w3' (t : Nat) (ht : t < 18446744073709551616) : IntKind.u64.wrap ((t : Int).tdiv 4294967296) = ((h32 t : Nat) : Int) := by
  rw [Int.tdiv_eq_ediv_of_nonneg (by omega), show (t : Int) / 4294967296 = ((t / 4294967296 : Nat) : Int) by omega, u64_wrap_lt _ (by omega)]; rfl
theorem w3 (t : Nat) : (t : Int) / 4294967296 = ((h32 t : Nat) : Int) := by unfold h32; omega
theorem w4 (t : Nat) (ht : t < 18446744073709551616) : bits .xor .u64 (t : Int) (h32 t : Int) = ((x32 t : Nat) : Int) := u64_xor_nat t (h32 t) ht (by unfold h32; omega)
theorem w5 (t : Nat) : IntKind.u64.wrap ((x32 t : Int) * 7809847782465536323) = ((ny1 t : Nat) : Int) := by
  rw [show (x32 t : Int) * 7809847782465536323 = ((7809847782465536323 * x32 t : Nat) : Int) by omega, u64_wrap]; rfl
theorem w5' (t : Nat) : IntKind.u64.wrap (7809847782465536323 * (x32 t : Int)) = ((ny1 t : Nat) : Int) := by
  rw [show 7809847782465536323 * (x32 t : Int) = ((7809847782465536323 * x32 t : Nat) : Int) by omega, u64_wrap]; rfl
theorem w6' (t : Nat) (ht : t < 18446744073709551616) : IntKind.u64.wrap ((t : Int).tdiv 536870912) = ((h29 t : Nat) : Int) := by
  rw [Int.tdiv_eq_ediv_of_nonneg (by omega), show (t : Int) / 536870912 = ((t / 536870912 : Nat) : Int) by omega, u64_wrap_lt _ (by omega)]; rfl
theorem w6 (t : Nat) : (t : Int) / 536870912 = ((h29 t : Nat) : Int) := by unfold h29; omega
theorem w7 (s : Nat) : bits .xor .u64 (ny1 (nx s) : Int) (h29 (ny1 (nx s)) : Int) = ((ny s : Nat) : Int) := by
  have hb := ny1_lt (nx s)
  exact u64_xor_nat _ _ hb (by unfold h29; omega)

theorem w9 (s n : Nat) (h1 : 1 ≤ n) (h2 : n ≤ 256) : wrap64 ((ny s : Int) % (n : Int)) = ((bel s n : Nat) : Int) := by
  have hb : bel s n < n := Nat.mod_lt _ (by omega)
  rw [show (ny s : Int) % (n : Int) = ((bel s n : Nat) : Int) from rfl]
  unfold wrap64; omega
theorem bel_lt (s n : Nat) (hn : 1 ≤ n) : bel s n < n := Nat.mod_lt _ (by omega)
def Dr (w : World) (D s : Nat) : Prop := Blk w D 195 #[.int .u64 (s : Int), .bool true]
set_option maxRecDepth 100000 in
set_option maxHeartbeats 1600000 in
theorem new_c (s : Nat) (w : World) : Calls Try.prog 67 #[.int .u64 (s : Int)] w fun e w' => e = .returned (.pointer (some ⟨w.heap.size, 0, none⟩)) ∧ Dr w' w.heap.size s ∧ w' = w.alloc (.cells #[.int .u64 (s : Int), .bool true] 195) := by
  go_enter Try.func67, Try.ntmps67
  go_wp2
  go_ret
  exact ⟨rfl, Blk.new _ _ _, rfl⟩
set_option maxRecDepth 100000 in
set_option maxHeartbeats 1600000 in
theorem made_c (D s : Nat) (w : World) (h : Dr w D s) : Calls Try.prog 136 #[.pointer (some ⟨D, 0, none⟩)] w fun e w' => e = .returned (.bool true) ∧ w = w' := by
  have c1 := h.cell 1
  simp at c1
  clear h
  go_enter Try.func136, Try.ntmps136
  go_wp2
  go_ret
  exact ⟨rfl, rfl⟩
set_option maxRecDepth 100000 in
set_option maxHeartbeats 1600000 in
theorem next_c (D s : Nat) (w : World) (h : Dr w D s) : Calls Try.prog 123 #[.pointer (some ⟨D, 0, none⟩)] w fun e w' => e = .returned (.int .u64 (ny s : Int)) ∧ Dr w' D (nx s) ∧ w.grownBy w' (some D) := by
  have c0 := h.cell 0
  have f0 := h.frozen 0
  simp at c0
  have hb := nx_lt s
  have hb2 := ny1_lt (nx s)
  have H1 := hide hb
  have H2 := hide hb2
  clear hb hb2
  go_enter Try.func123, Try.ntmps123
  go_wp2_with (go_at_call 136; refine (made_c D s w h).mono ?_; rintro e w' ⟨rfl, rfl⟩)
  go_quiet (fail)
  go_wp2
  go_ret
  have hset := h.set_ 0 (.int .u64 (nx s : Int))
  simp only [w1, w2, w3, w4 _ H1.out, w5, w6, w7]
  exact ⟨rfl, by unfold Dr; simpa using hset.drewN _, grownBy_drewN (grownBy_setCell _ _ _ _) _⟩

set_option maxRecDepth 100000 in
set_option maxHeartbeats 1600000 in
theorem belowm_c (D s n : Nat) (w : World) (h : Dr w D s) (h1 : 1 ≤ n) (h2 : n ≤ 256) : Calls Try.prog 130 #[.pointer (some ⟨D, 0, none⟩), .int .i64 (n : Int)] w fun e w' => e = .returned (.tuple #[.int .i64 (bel s n : Int), .int .i64 0]) ∧ Dr w' D (nx s) ∧ w.grownBy w' (some D) := by
  have g1 : (1 : Int) ≤ (n : Int) := by omega
  have g2 : (n : Int) ≤ 256 := by omega
  go_enter Try.func130, Try.ntmps130
  go_wp2_with (first | (go_at_call 136; refine (made_c D s w h).mono ?_; rintro e w' ⟨rfl, rfl⟩) | (go_at_call 123; refine (next_c D s w h).mono ?_; rintro e w1 ⟨rfl, hd, hg⟩))
  go_ret2
  simp only [w9 s n h1 h2]
  exact ⟨rfl, hd, hg⟩
set_option maxRecDepth 100000 in
set_option maxHeartbeats 1600000 in
theorem below_c (D s n : Nat) (w : World) (h : Dr w D s) (h1 : 1 ≤ n) (h2 : n ≤ 256) : Calls Try.prog 106 #[.pointer (some ⟨D, 0, none⟩), .int .i64 (n : Int)] w fun e w' => e = .returned (.int .i64 (bel s n : Int)) ∧ Dr w' D (nx s) ∧ w.grownBy w' (some D) := by
  go_enter Try.func106, Try.ntmps106
  go_wp2_with (go_at_call 130; refine (belowm_c D s n w h h1 h2).mono ?_; rintro e w1 ⟨rfl, hd, hg⟩)
  go_ret
  exact ⟨rfl, hd, hg⟩
set_option maxRecDepth 100000 in
set_option maxHeartbeats 1600000 in
theorem chance_c (D s : Nat) (p : Int) (w : World) (h : Dr w D s) : Calls Try.prog 99 #[.pointer (some ⟨D, 0, none⟩), .int .i64 p] w fun e w' => e = .returned (.bool (decide ((bel s 256 : Int) < p))) ∧ Dr w' D (nx s) ∧ w.grownBy w' (some D) := by
  have hc := below_c D s 256 w h (by omega) (by omega)
  go_enter Try.func99, Try.ntmps99
  go_wp2_with (go_at_call 106; refine hc.mono ?_; rintro e w1 ⟨rfl, hd, hg⟩)
  go_ret
  exact ⟨rfl, hd, hg⟩

end Go.Proofs.Ytchhkokpjdkkiaa

namespace Go.Proofs.Ytchhkokpjdkkiaa
open Go.RowKit

/-- An arrangement's 18 numbers, in memory's order. -/
def cells18 (f : Nat → Int) : Array Value := #[.int .i64 (f 0), .int .i64 (f 1), .int .i64 (f 2), .int .i64 (f 3), .int .i64 (f 4), .int .i64 (f 5), .int .i64 (f 6), .int .i64 (f 7), .int .i64 (f 8), .int .i64 (f 9), .int .i64 (f 10), .int .i64 (f 11), .int .i64 (f 12), .int .i64 (f 13), .int .i64 (f 14), .int .i64 (f 15), .int .i64 (f 16), .int .i64 (f 17)]
theorem cells18_get (f : Nat → Int) {j : Nat} (hj : j < 18) : (cells18 f)[j]? = some (.int .i64 (f j)) := by
  match j, hj with
  | 0, _ | 1, _ | 2, _ | 3, _ | 4, _ | 5, _ | 6, _ | 7, _ | 8, _ | 9, _ | 10, _ | 11, _ | 12, _ | 13, _ | 14, _ | 15, _ | 16, _ | 17, _ => rfl
  | j + 18, h => omega
theorem cells18_one (f : Nat → Int) : (cells18 f).all (·.oneCell') = true := by simp [cells18, Value.oneCell']
def part (n : Int) : Bool := decide (0 ≤ n ∧ n ≤ 256)
def wts (l : List Int) : Bool := l.all part && decide (l.sum = 256)
def rowL (f : Nat → Int) (i : Nat) : List Int := [f (4 + 4 * i), f (5 + 4 * i), f (6 + 4 * i), f (7 + 4 * i)]
def rowsOk (f : Nat → Int) (k : Nat) : Bool := (List.range k).all fun i => wts (rowL f i)
def okA (f : Nat → Int) : Bool := decide (0 ≤ f 0 ∧ f 0 ≤ 2) && wts [f 1, f 2, f 3] && part (f 16) && part (f 17)
def okB (f : Nat → Int) : Bool := decide (f 4 = 256 ∧ f 5 = 0 ∧ f 6 = 0 ∧ f 7 = 0)
def okC (f : Nat → Int) : Bool := decide (f 0 = 1) || decide ((f 1 = 0 ∧ f 2 = 0 ∧ f 3 = 256) ∧ f 8 = 256 ∧ f 9 = 0 ∧ f 10 = 0 ∧ f 11 = 0)
/-- The arrangement is valid. -/
def okO (f : Nat → Int) : Bool := okA f && rowsOk f 3 && okB f && okC f
def checkErr (f : Nat → Int) : Int := if okO f then 0 else 2
theorem rowsOk_succ (f : Nat → Int) (k : Nat) : rowsOk f (k + 1) = (rowsOk f k && wts (rowL f k)) := by
  unfold rowsOk; rw [List.range_succ, List.all_append]; simp

theorem Rd.ofBlk {w : World} {g off n : Nat} {t : TypeId} {cs : Array Value} {L : List Int} (h : Blk w g t cs) (hl : L.length = n) (hn : n ≤ 9223372036854775807) (hc : ∀ (i : Nat) (x : Int), L[i]? = some x → cs[off + i]? = some (.int .i64 x)) : Rd eInt w w.heap.size (some ⟨g, off, none⟩) n n L :=
  ⟨hl, Nat.le_refl _, hn, fun _ => ⟨g, off, rfl, h.lt, fun i x hx j v hv => by
    have hj : j = 0 := by have := Enc.cell_lt hv; simp [eInt] at this; omega
    subst hj
    have hv' : Value.int .i64 x = v := by simpa [eInt] using hv
    subst hv'
    rw [show off + i * eInt.nf + 0 = off + i by simp [eInt], h.cell]
    exact hc i x hx⟩⟩

set_option maxRecDepth 100000 in
set_option maxHeartbeats 1600000 in
theorem part_c (n : Int) (w : World) : Calls Try.prog 63 #[.int .i64 n] w fun e w' => e = .returned (.bool (part n)) ∧ w = w' := by
  go_enter Try.func63, Try.ntmps63
  go_wp2
  all_goals
    go_ret
    refine ⟨ret_b ?_, rfl⟩
    unfold part
    first | (simp; done) | (simp; omega) | (rw [Bool.eq_iff_iff]; simp; done) | (rw [Bool.eq_iff_iff]; simp; omega)
theorem part_iff (n : Int) : part n = true ↔ 0 ≤ n ∧ n ≤ 256 := by unfold part; simp
theorem sum_take_succ {L : List Int} {k : Nat} {x : Int} (h : L[k]? = some x) : (L.take (k + 1)).sum = (L.take k).sum + x := by
  rw [List.take_add_one, h, List.sum_append]; simp
theorem sum_bd {L : List Int} (h : L.all part = true) : 0 ≤ L.sum ∧ L.sum ≤ 256 * L.length := by
  induction L with
  | nil => simp
  | cons x L ih =>
    simp only [List.all_cons, Bool.and_eq_true] at h
    have h1 := (part_iff x).1 h.1
    have h2 := ih h.2
    simp only [List.sum_cons, List.length_cons]
    omega

set_option maxRecDepth 100000 in
set_option maxHeartbeats 1600000 in
theorem weights_c (A : Option Addr) (n c : Nat) (L : List Int) (w : World) (B : Nat) (s : Rd eInt w B A n c L) (hn : n ≤ 1000) :
    Calls Try.prog 62 #[.slice A n c] w fun e w' => e = .returned (.bool (wts L)) ∧ w = w' := by
  have hl := s.len
  have hm := s.max
  have hcap := s.cap
  have HL := hide hl
  clear hl
  go_enter Try.func62, Try.ntmps62
  go_wp2
  go_loop [3, 8] (fun sv iv => ∃ k : Nat, k ≤ n ∧ iv = .int .i64 k ∧ sv = .int .i64 (L.take k).sum ∧ (L.take k).all part = true) (fun _ iv => n - (intOf iv).toNat)
  case atStart => exact ⟨0, by omega, rfl, by simp, by simp⟩
  case round =>
    obtain ⟨k, hk, rfl, rfl, hall⟩ := hrel
    have hbd := sum_bd hall
    rw [List.length_take] at hbd
    have HA := hide hall
    clear hall
    by_cases hlt : k < n
    · obtain ⟨b, off, x, rfl, hb, hx, hc⟩ := s.get hlt
      have c0 := hc 0 _ rfl
      simp only [eInt, Nat.add_zero, Nat.mul_one] at c0
      have HX := hide hx
      clear hc hx
      have hpc := part_c x
      obtain ⟨s0, hs0⟩ : ∃ s0, s0 = (L.take k).sum := ⟨_, rfl⟩
      rw [← hs0] at hbd ⊢
      have HS := hide hs0
      clear hs0
      have b1 : 0 ≤ s0 := by omega
      have b2 : s0 ≤ 256000 := by omega
      clear hbd
      by_cases hp : part x = true
      · have hpx := (part_iff x).1 hp
        obtain ⟨p1, p2⟩ := hpx
        rw [hp] at hpc
        have HP := hide hpc
        have HO := hide hp
        clear hpc hp
        go_wp2_with (go_at_call 63; refine (HP.out _).mono ?_; rintro e w' ⟨rfl, rfl⟩)
        go_round
        case rel => exact ⟨k + 1, by omega, by go_num, by rw [sum_take_succ HX.out, ← HS.out], all_take_succ HA.out HX.out HO.out⟩
        case measure => simp [intOf] <;> omega
      · have hp : part x = false := by simpa using hp
        rw [hp] at hpc
        have HP := hide hpc
        have HO := hide hp
        clear hpc hp
        go_wp2_with (go_at_call 63; refine (HP.out _).mono ?_; rintro e w' ⟨rfl, rfl⟩)
        go_ret
        refine ⟨ret_b ?_, rfl⟩
        unfold wts; rw [all_false HX.out HO.out]; rfl
    · have hall := all_whole HA.out HL.out hlt
      have hke : L.take k = L := List.take_of_length_le (by have := HL.out; omega)
      rw [hke]
      go_wp2
      go_ret
      refine ⟨ret_b ?_, rfl⟩
      unfold wts; rw [hall]; simp
      rw [Bool.eq_iff_iff]; simp

theorem cls_rd {w : World} {g : Nat} {t : TypeId} {f : Nat → Int} (h : Blk w g t (cells18 f)) : Rd eInt w w.heap.size (some ⟨g, 1, none⟩) 3 3 [f 1, f 2, f 3] :=
  Rd.ofBlk h rfl (by omega) fun i x hx => by
    match i, hx with
    | 0, hx | 1, hx | 2, hx => simp at hx; subst hx; exact cells18_get f (by omega)
    | i + 3, hx => simp at hx
theorem row_rd {w : World} {g : Nat} {t : TypeId} {f : Nat → Int} {k : Nat} (h : Blk w g t #[.int .i64 (f (4 + 4 * k)), .int .i64 (f (5 + 4 * k)), .int .i64 (f (6 + 4 * k)), .int .i64 (f (7 + 4 * k))]) : Rd eInt w w.heap.size (some ⟨g, 0, none⟩) 4 4 (rowL f k) :=
  Rd.ofBlk h rfl (by omega) fun i x hx => by
    match i, hx with
    | 0, hx | 1, hx | 2, hx | 3, hx => simp [rowL] at hx; subst hx; rfl
    | i + 4, hx => simp [rowL] at hx
theorem row_rd2 {w : World} {g : Nat} {t : TypeId} {f : Nat → Int} {k : Nat} (hk : k < 3) (h : Blk w g t (cells18 f)) : Rd eInt w w.heap.size (some ⟨g, 4 + 4 * k, none⟩) 4 4 (rowL f k) :=
  Rd.ofBlk h rfl (by omega) fun i x hx => by
    match i, hx with
    | 0, hx | 1, hx | 2, hx | 3, hx => simp [rowL] at hx; subst hx; rw [cells18_get f (by omega)]; congr 3 <;> omega
    | i + 4, hx => simp [rowL] at hx

set_option maxRecDepth 100000 in
set_option maxHeartbeats 6400000 in
theorem check_c (f : Nat → Int) (w : World) : Calls Try.prog 34 #[.agg (cells18 f)] w fun e w' => e = .returned (.int .i64 (checkErr f)) ∧ Below w.heap.size w w' := by
  unfold cells18
  go_enter Try.func34, Try.ntmps34
  go_upto_region 2 with fail
  have hO := (Blk.newAt w 57 (cells18 f) w.heap.size rfl).alloc (.cells #[.int .i64 256, .int .i64 0, .int .i64 0, .int .i64 0] 54)
  have hD := Blk.newAt (w.alloc (.cells (cells18 f) 57)) 54 #[.int .i64 256, .int .i64 0, .int .i64 0, .int .i64 0] (w.heap.size + 1) (by simp)
  have hb := below_on (below_alloc w (.cells (cells18 f) 57)) (below_alloc _ (.cells #[.int .i64 256, .int .i64 0, .int .i64 0, .int .i64 0] 54))
  unfold cells18 at hO hD hb
  obtain ⟨W, hW⟩ : ∃ W, W = (w.alloc (.cells #[.int .i64 (f 0), .int .i64 (f 1), .int .i64 (f 2), .int .i64 (f 3), .int .i64 (f 4), .int .i64 (f 5), .int .i64 (f 6), .int .i64 (f 7), .int .i64 (f 8), .int .i64 (f 9), .int .i64 (f 10), .int .i64 (f 11), .int .i64 (f 12), .int .i64 (f 13), .int .i64 (f 14), .int .i64 (f 15), .int .i64 (f 16), .int .i64 (f 17)] 57)).alloc (.cells #[.int .i64 256, .int .i64 0, .int .i64 0, .int .i64 0] 54) := ⟨_, rfl⟩
  rw [← hW] at hO hD hb ⊢
  clear hW
  have c0 := hO.cell 0
  have c16 := hO.cell 16
  have c17 := hO.cell 17
  simp at c0 c16 c17
  go_cut [4] (fun s4 wx => s4 = .bool (okA f) ∧ wx = W)
  case first =>
    go_wp2_with (first | (go_at_call 62; refine (weights_c _ _ _ _ W _ (cls_rd hO) (by omega)).mono ?_; rintro e w' ⟨rfl, rfl⟩) | (go_at_call 63; refine (part_c _ _).mono ?_; rintro e w' ⟨rfl, rfl⟩))
    all_goals
      go_meet
      refine ⟨congrArg Value.bool ?_, rfl⟩
      unfold okA
      first | (simp [*]; done) | (simp; omega)
  case rest =>
    obtain ⟨rfl, rfl⟩ := hcut
    clear c0 c16 c17
    have hr : wc.rangeAt w.heap.size 4 [.int .i64 (f 4), .int .i64 (f 5), .int .i64 (f 6), .int .i64 (f 7), .int .i64 (f 8), .int .i64 (f 9), .int .i64 (f 10), .int .i64 (f 11), .int .i64 (f 12), .int .i64 (f 13), .int .i64 (f 14), .int .i64 (f 15)] := by have h := World.rangeAt_of_block hO 4 12; simpa using h
    have i0 : ∀ W, (Instr.index 55 (.agg #[.int .i64 (f 4), .int .i64 (f 5), .int .i64 (f 6), .int .i64 (f 7), .int .i64 (f 8), .int .i64 (f 9), .int .i64 (f 10), .int .i64 (f 11), .int .i64 (f 12), .int .i64 (f 13), .int .i64 (f 14), .int .i64 (f 15)]) (.int .i64 0)).run Try.prog W = .ok (.agg #[.int .i64 (f 4), .int .i64 (f 5), .int .i64 (f 6), .int .i64 (f 7)]) W := fun _ => by kernel_rfl
    have i1 : ∀ W, (Instr.index 55 (.agg #[.int .i64 (f 4), .int .i64 (f 5), .int .i64 (f 6), .int .i64 (f 7), .int .i64 (f 8), .int .i64 (f 9), .int .i64 (f 10), .int .i64 (f 11), .int .i64 (f 12), .int .i64 (f 13), .int .i64 (f 14), .int .i64 (f 15)]) (.int .i64 1)).run Try.prog W = .ok (.agg #[.int .i64 (f 8), .int .i64 (f 9), .int .i64 (f 10), .int .i64 (f 11)]) W := fun _ => by kernel_rfl
    have i2 : ∀ W, (Instr.index 55 (.agg #[.int .i64 (f 4), .int .i64 (f 5), .int .i64 (f 6), .int .i64 (f 7), .int .i64 (f 8), .int .i64 (f 9), .int .i64 (f 10), .int .i64 (f 11), .int .i64 (f 12), .int .i64 (f 13), .int .i64 (f 14), .int .i64 (f 15)]) (.int .i64 2)).run Try.prog W = .ok (.agg #[.int .i64 (f 12), .int .i64 (f 13), .int .i64 (f 14), .int .i64 (f 15)]) W := fun _ => by kernel_rfl
    go_wp2_with (refine wpList_load_mid (op := ⟨some 32, _, _, _, _, _⟩) rfl 55 _ rfl w.heap.size 4 rfl _ _ hr Try.underlying55 rfl (by kernel_rfl) ?_)
    go_loopw [33, 4] (fun iv bv wr => ∃ k : Nat, k ≤ 3 ∧ iv = .int .i64 k ∧ bv = .bool (okA f && rowsOk f k) ∧ Blk wr w.heap.size 57 (cells18 f) ∧ Blk wr (w.heap.size + 1) 54 #[.int .i64 256, .int .i64 0, .int .i64 0, .int .i64 0] ∧ Below w.heap.size w wr) (fun iv _ _ => 3 - (intOf iv).toNat)
    case atStart => exact ⟨0, by omega, rfl, by simp [rowsOk], hO, hD, hb⟩
    case round =>
      clear hO hD hb hr
      obtain ⟨k, hk, rfl, rfl, hO, hD, hbw⟩ := hrel
      obtain ⟨bb, HB⟩ : ∃ bb, Hid ((okA f && rowsOk f k) = bb) := ⟨_, rfl⟩
      rw [HB.out]
      by_cases hlt : k < 3
      · have hk3 : k = 0 ∨ k = 1 ∨ k = 2 := by omega
        rcases hk3 with rfl | rfl | rfl
        · -- row 0
          cases bb
          · go_wp2
            go_roundw
            case rel => exact ⟨1, by omega, by go_num, by rw [rowsOk_succ, ← Bool.and_assoc, HB.out]; rfl, hO.alloc _, hD.alloc _, hbw.alloc hbw.size _⟩
            case measure => simp [intOf] <;> omega
          · have hr := row_rd (k := 0) (Blk.new wr 54 #[.int .i64 (f 4), .int .i64 (f 5), .int .i64 (f 6), .int .i64 (f 7)])
            go_wp2_with (go_at_call 62; refine (weights_c _ _ _ _ _ _ hr (by omega)).mono ?_; rintro e w' ⟨rfl, rfl⟩)
            go_roundw
            case rel => exact ⟨1, by omega, by go_num, by rw [rowsOk_succ, ← Bool.and_assoc, HB.out]; rfl, hO.alloc _, hD.alloc _, hbw.alloc hbw.size _⟩
            case measure => simp [intOf] <;> omega
        · -- row 1
          cases bb
          · go_wp2
            go_roundw
            case rel => exact ⟨2, by omega, by go_num, by rw [rowsOk_succ, ← Bool.and_assoc, HB.out]; rfl, hO.alloc _, hD.alloc _, hbw.alloc hbw.size _⟩
            case measure => simp [intOf] <;> omega
          · have hr := row_rd (k := 1) (Blk.new wr 54 #[.int .i64 (f 8), .int .i64 (f 9), .int .i64 (f 10), .int .i64 (f 11)])
            go_wp2_with (go_at_call 62; refine (weights_c _ _ _ _ _ _ hr (by omega)).mono ?_; rintro e w' ⟨rfl, rfl⟩)
            go_roundw
            case rel => exact ⟨2, by omega, by go_num, by rw [rowsOk_succ, ← Bool.and_assoc, HB.out]; rfl, hO.alloc _, hD.alloc _, hbw.alloc hbw.size _⟩
            case measure => simp [intOf] <;> omega
        · -- row 2
          cases bb
          · go_wp2
            go_roundw
            case rel => exact ⟨3, by omega, by go_num, by rw [rowsOk_succ, ← Bool.and_assoc, HB.out]; rfl, hO.alloc _, hD.alloc _, hbw.alloc hbw.size _⟩
            case measure => simp [intOf] <;> omega
          · have hr := row_rd (k := 2) (Blk.new wr 54 #[.int .i64 (f 12), .int .i64 (f 13), .int .i64 (f 14), .int .i64 (f 15)])
            go_wp2_with (go_at_call 62; refine (weights_c _ _ _ _ _ _ hr (by omega)).mono ?_; rintro e w' ⟨rfl, rfl⟩)
            go_roundw
            case rel => exact ⟨3, by omega, by go_num, by rw [rowsOk_succ, ← Bool.and_assoc, HB.out]; rfl, hO.alloc _, hD.alloc _, hbw.alloc hbw.size _⟩
            case measure => simp [intOf] <;> omega
      · obtain rfl : k = 3 := by omega
        unfold cells18 at hO
        clear i0 i1 i2
        have c0 := hO.cell 0
        have c1 := hO.cell 1
        have c2 := hO.cell 2
        have c3 := hO.cell 3
        have c4 := hO.cell 4
        have c5 := hO.cell 5
        have c6 := hO.cell 6
        have c7 := hO.cell 7
        have c8 := hO.cell 8
        have c9 := hO.cell 9
        have c10 := hO.cell 10
        have c11 := hO.cell 11
        have d0 := hD.cell 0
        have d1 := hD.cell 1
        have d2 := hD.cell 2
        have d3 := hD.cell 3
        simp at c0 c1 c2 c3 c4 c5 c6 c7 c8 c9 c10 c11 d0 d1 d2 d3
        clear hO hD
        cases bb
        · by_cases h1 : f 0 = 1
          · have hd : (f 0 != 1) = false := by simpa using h1
            have H1 := hide h1
            clear h1
            go_wp2
            go_ret
            exact ⟨ret_i (by unfold checkErr okO; rw [HB.out]; rfl), hbw⟩
          · have hd : (f 0 != 1) = true := by simpa using h1
            have H1 := hide h1
            clear h1
            go_wp2
            go_ret
            exact ⟨ret_i (by unfold checkErr okO; rw [HB.out]; rfl), hbw⟩
        · have e4 := eql4 (f 4) (f 5) (f 6) (f 7) 256 0 0 0
          have e8 := eql4 (f 8) (f 9) (f 10) (f 11) 256 0 0 0
          have e3 := eql3 (f 1) (f 2) (f 3) 0 0 256
          obtain ⟨b4, HB4⟩ : ∃ b4, Hid (decide (f 4 = 256 ∧ f 5 = 0 ∧ f 6 = 0 ∧ f 7 = 0) = b4) := ⟨_, rfl⟩
          obtain ⟨b3, HB3⟩ : ∃ b3, Hid (decide (f 1 = 0 ∧ f 2 = 0 ∧ f 3 = 256) = b3) := ⟨_, rfl⟩
          obtain ⟨b8, HB8⟩ : ∃ b8, Hid (decide (f 8 = 256 ∧ f 9 = 0 ∧ f 10 = 0 ∧ f 11 = 0) = b8) := ⟨_, rfl⟩
          rw [HB4.out] at e4
          rw [HB3.out] at e3
          rw [HB8.out] at e8
          by_cases h1 : f 0 = 1
          · have hd : (f 0 != 1) = false := by simpa using h1
            have hC : okC f = true := by unfold okC; rw [decide_eq_true h1]; rfl
            have HC := hide hC
            clear h1 hC
            cases b4
            · go_wp2
              go_ret
              exact ⟨ret_i (by unfold checkErr okO okB; rw [HB.out, HB4.out]; rfl), hbw⟩
            · go_wp2
              go_ret
              exact ⟨ret_i (by unfold checkErr okO okB; rw [HB.out, HB4.out, HC.out]; rfl), hbw⟩
          · have hd : (f 0 != 1) = true := by simpa using h1
            have hC : okC f = (b3 && b8) := by unfold okC; rw [decide_eq_false h1, ← HB3.out, ← HB8.out, Bool.false_or, Bool.decide_and]
            have HC := hide hC
            clear h1 hC
            cases b4
            · go_wp2
              go_ret
              exact ⟨ret_i (by unfold checkErr okO okB; rw [HB.out, HB4.out]; rfl), hbw⟩
            · cases b3
              · go_wp2
                go_ret
                exact ⟨ret_i (by unfold checkErr okO okB; rw [HB.out, HB4.out, HC.out]; rfl), hbw⟩
              · cases b8
                · go_wp2
                  go_ret
                  exact ⟨ret_i (by unfold checkErr okO okB; rw [HB.out, HB4.out, HC.out]; rfl), hbw⟩
                · go_wp2
                  go_ret
                  exact ⟨ret_i (by unfold checkErr okO okB; rw [HB.out, HB4.out, HC.out]; rfl), hbw⟩
end Go.Proofs.Ytchhkokpjdkkiaa
