/- Contract of optics.Text. -/
import Derived.Test.YthdidjnhfkeokaaDoorQj
import Derived.Test.YthdidjnhfkeokaaDoorSh
import Derived.Lib.ItoaLen
import Derived.Deep.RegionHeld3
namespace Go.Proofs.YthdidjnhfkeokaaDoor
open Go.RowKit

def eStr : Enc ByteArray := ⟨1, fun b => [.string b], fun _ => rfl, by simp [Value.oneCell'], Nat.one_pos⟩
theorem info_str : (Tryd.prog.info? 9).map (fun i => (i.zero, i.size, i.bytes)) = some (some (.string ByteArray.empty), 1, 16) := by kernel_rfl
/-- The table that strconv.Itoa reads lies as its initialiser lays it. -/
def Tab (w : World) : Prop := Lib.TabIs Tryd.prog w "internal/strconv.uint64pow10" .u64 Lib.pow10Tab
theorem tab_name : Tryd.prog.globalNamed "internal/strconv.uint64pow10" = some 1 := by kernel_rfl
theorem Tab.on {w w' : World} (h : Tab w) (hb : Below w.heap.size w w') : Tab w' := by
  unfold Tab Lib.TabIs World.var? at h ⊢
  rw [tab_name] at h ⊢
  simp only [Option.bind_some] at h ⊢
  have hlt : 1 < w.heap.size := by
    rcases Nat.lt_or_ge 1 w.heap.size with h' | h'
    · exact h'
    · rw [Array.getElem?_eq_none h'] at h; cases h
  rw [hb.block _ hlt]
  exact h
theorem below_grow (w : World) (os : Array Obj) : Below w.heap.size w (Sort.grow w os) :=
  ⟨rfl, rfl, rfl, by simp [Sort.grow], fun k hk => by simp [Sort.grow, Array.getElem?_append_left hk]⟩
theorem itoa_c (n : Int) (w : World) (h0 : -9223372036854775808 ≤ n) (h1 : n ≤ 9223372036854775807) (ht : Tab w) :
    Calls Tryd.prog 33 #[.int .i64 n] w fun e w' => e = .returned (.string ⟨(Lib.itoa n).toArray⟩) ∧ Below w.heap.size w w' :=
  (Tryd.strconv_Itoa n h0 h1 w ht).mono fun e w' ⟨he, k, os, hw⟩ => ⟨he, by
    subst hw
    have hb : Below w.heap.size w (w.drewN k) := below_drewN (Below.refl _ _) k
    exact hb.trans (below_grow (w.drewN k) os)⟩

/-- The words of an arrangement's text. -/
def kw (k : Int) : ByteArray := if k = 0 then ⟨#[112, 114, 101, 112, 97, 114, 101]⟩ else if k = 1 then ⟨#[100, 101, 99, 111, 121]⟩ else ⟨#[112, 97, 105, 114, 115]⟩
def itoaB (n : Int) : ByteArray := ⟨(Lib.itoa n).toArray⟩
def words18 (f : Nat → Int) (k : Nat) : List ByteArray := kw (f 0) :: (List.range' 1 k).map fun i => itoaB (f i)
def textB (f : Nat → Int) : ByteArray := ⟨(Lib.join ((words18 f 17).map (·.data.toList)) [32]).toArray⟩
def STextO (f : Nat → Int) (w : World) (e : Ending) (w' : World) : Prop := e = .returned (.tuple #[.string (if okO f then textB f else ByteArray.empty), .int .i64 (checkErr f)]) ∧ Below w.heap.size w w'
theorem words18_len (f : Nat → Int) (k : Nat) : (words18 f k).length = k + 1 := by simp [words18]
theorem words18_succ (f : Nat → Int) (k : Nat) : words18 f (k + 1) = words18 f k ++ [itoaB (f (1 + k))] := by
  unfold words18; rw [← range_snoc, List.map_append]; rfl
theorem joinTail_len (sep : List UInt8) (r : List (List UInt8)) (hs : sep.length = 1) (h : ∀ x ∈ r, x.length ≤ 30) : (Lib.joinTail sep r).length ≤ r.length * 31 := by
  induction r with
  | nil => simp [Lib.joinTail]
  | cons x r ih =>
    have h1 := h x (by simp)
    have h2 := ih (fun y hy => h y (by simp [hy]))
    unfold Lib.joinTail at h2 ⊢
    simp only [List.map_cons, List.flatten_cons, List.length_append, List.length_cons, hs]
    omega
theorem join_len (xs : List (List UInt8)) (sep : List UInt8) (hs : sep.length = 1) (h : ∀ x ∈ xs, x.length ≤ 30) : (Lib.join xs sep).length ≤ xs.length * 31 := by
  cases xs with
  | nil => simp [Lib.join_nil]
  | cons x r =>
    rw [Lib.join_cons, List.length_append, List.length_cons]
    have h1 := h x (by simp)
    have h2 := joinTail_len sep r hs (fun y hy => h y (by simp [hy]))
    omega
theorem okO_parts {f : Nat → Int} (h : okO f = true) : (0 ≤ f 0 ∧ f 0 ≤ 2) ∧ ∀ i, 1 ≤ i → i ≤ 17 → 0 ≤ f i ∧ f i ≤ 256 := by
  simp only [okO, okA, Bool.and_eq_true, decide_eq_true_eq] at h
  obtain ⟨⟨⟨⟨⟨⟨k0, h1⟩, h16⟩, h17⟩, hr⟩, _⟩, _⟩ := h
  refine ⟨k0, fun i hi1 hi2 => (part_iff _).1 ?_⟩
  have hw : ∀ {l : List Int}, wts l = true → ∀ x ∈ l, part x = true := fun {l} h x hx => by
    unfold wts at h; simp only [Bool.and_eq_true] at h; exact List.all_eq_true.1 h.1 x hx
  have hrow : ∀ k, k < 3 → wts (rowL f k) = true := fun k hk => List.all_eq_true.1 hr k (by simpa using hk)
  match i, hi1, hi2 with
  | 1, _, _ | 2, _, _ | 3, _, _ => exact hw h1 _ (by simp)
  | 4, _, _ | 5, _, _ | 6, _, _ | 7, _, _ => exact hw (hrow 0 (by omega)) _ (by simp [rowL])
  | 8, _, _ | 9, _, _ | 10, _, _ | 11, _, _ => exact hw (hrow 1 (by omega)) _ (by simp [rowL])
  | 12, _, _ | 13, _, _ | 14, _, _ | 15, _, _ => exact hw (hrow 2 (by omega)) _ (by simp [rowL])
  | 16, _, _ => exact h16
  | 17, _, _ => exact h17
  | i + 18, _, hi => omega

set_option maxRecDepth 100000 in
set_option maxHeartbeats 1600000 in
theorem sources_c (w : World) : Calls Tryd.prog 31 #[] w fun e w' => e = .returned (.agg #[.string ⟨#[112, 114, 101, 112, 97, 114, 101]⟩, .string ⟨#[100, 101, 99, 111, 121]⟩, .string ⟨#[112, 97, 105, 114, 115]⟩]) ∧ Below w.heap.size w w' := by
  go_enter Tryd.func31, Tryd.ntmps31
  go_wp2
  exact bodyPost_ret (v := .agg #[.string ⟨#[112, 114, 101, 112, 97, 114, 101]⟩, .string ⟨#[100, 101, 99, 111, 121]⟩, .string ⟨#[112, 97, 105, 114, 115]⟩]) (by simp [results, Tryd.results31, go_sem]) rfl ⟨rfl, (Below.refl _ _).alloc (Nat.le_refl _) _⟩

theorem kw_len (k : Int) : (kw k).data.toList.length ≤ 7 := by
  unfold kw
  split
  · simp
  · split
    · simp
    · simp
theorem text_len {f : Nat → Int} (h : ∀ i, 1 ≤ i → i ≤ 17 → 0 ≤ f i ∧ f i ≤ 256) : (Lib.join ((words18 f 17).map (·.data.toList)) [32]).length ≤ 140737488355328 := by
  have h := join_len ((words18 f 17).map (·.data.toList)) [32] rfl (fun x hx => by
    obtain ⟨y, hy, rfl⟩ := List.mem_map.1 hx
    simp only [words18, List.mem_cons, List.mem_map] at hy
    rcases hy with rfl | ⟨i, hi, rfl⟩
    · have := kw_len (f 0); omega
    · rw [List.mem_range'_1] at hi
      have hb := h i hi.1 (by omega)
      have := Lib.itoa_length_le (f i) (by omega) (by omega)
      simp only [itoaB]; omega)
  rw [List.length_map, words18_len] at h
  omega
theorem src_0 (W : World) : (Instr.index 69 (.agg #[.string ⟨#[112, 114, 101, 112, 97, 114, 101]⟩, .string ⟨#[100, 101, 99, 111, 121]⟩, .string ⟨#[112, 97, 105, 114, 115]⟩]) (.int .i64 0)).run Tryd.prog W = .ok (.string ⟨#[112, 114, 101, 112, 97, 114, 101]⟩) W := by kernel_rfl
theorem src_1 (W : World) : (Instr.index 69 (.agg #[.string ⟨#[112, 114, 101, 112, 97, 114, 101]⟩, .string ⟨#[100, 101, 99, 111, 121]⟩, .string ⟨#[112, 97, 105, 114, 115]⟩]) (.int .i64 1)).run Tryd.prog W = .ok (.string ⟨#[100, 101, 99, 111, 121]⟩) W := by kernel_rfl
theorem src_2 (W : World) : (Instr.index 69 (.agg #[.string ⟨#[112, 114, 101, 112, 97, 114, 101]⟩, .string ⟨#[100, 101, 99, 111, 121]⟩, .string ⟨#[112, 97, 105, 114, 115]⟩]) (.int .i64 2)).run Tryd.prog W = .ok (.string ⟨#[112, 97, 105, 114, 115]⟩) W := by kernel_rfl
theorem src_ix (k : Int) (hk : 0 ≤ k ∧ k ≤ 2) (W : World) : (Instr.index 69 (.agg #[.string ⟨#[112, 114, 101, 112, 97, 114, 101]⟩, .string ⟨#[100, 101, 99, 111, 121]⟩, .string ⟨#[112, 97, 105, 114, 115]⟩]) (.int .i64 k)).run Tryd.prog W = .ok (.string (kw k)) W := by
  have h3 : k = 0 ∨ k = 1 ∨ k = 2 := by omega
  rcases h3 with rfl | rfl | rfl
  · exact src_0 W
  · exact src_1 W
  · exact src_2 W

set_option maxRecDepth 100000 in
set_option maxHeartbeats 6400000 in
theorem text_c (f : Nat → Int) (w : World) (ht : Tab w) : Calls Tryd.prog 8 #[.agg (cells18 f)] w (STextO f w) := by
  have hb0 := below_alloc w (.cells (cells18 f) 26)
  have hO := Blk.newAt w 26 (cells18 f) w.heap.size rfl
  have hcc := check_c f
  by_cases hok : okO f = true
  · have hce : checkErr f = 0 := by unfold checkErr; rw [if_pos hok]
    rw [hce] at hcc
    have HP := hide (okO_parts hok)
    have HOK := hide hok
    have HCE := hide hce
    have HC := hide hcc
    clear hcc hce hok
    go_enter Tryd.func8, Tryd.ntmps8
    go_wp2_with (first | (refine wl_load (o := ⟨some 8, _, _, _, _, _⟩) rfl 26 _ rfl w.heap.size rfl 26 (cells18 f) _ hO Tryd.underlying26 rfl (by kernel_rfl) ?_) | (go_at_call 10; refine (HC.out _).mono ?_; rintro e w1 ⟨rfl, hb1⟩))
    have hO1 := hO.keep hb1
    have hb01 := below_on hb0 hb1
    have ht1 := ht.on hb01
    clear hO hb0 hb1 ht HC
    have c0 := hO1.cell 0
    rw [cells18_get f (by omega)] at c0
    have hix := src_ix (f 0) HP.out.1
    have keep : ∀ wx wy : World, (wx.cell? ⟨w.heap.size, 0, none⟩ = some (.int .i64 (f 0)) ∧ Below w1.heap.size w1 wx) → Below wx.heap.size wx wy → wy.cell? ⟨w.heap.size, 0, none⟩ = some (.int .i64 (f 0)) ∧ Below w1.heap.size w1 wy := fun wx wy ⟨_, h2⟩ h3 => by
      have hb := h2.trans (h3.mono h2.size)
      exact ⟨(hb.cell (p := ⟨w.heap.size, 0, none⟩) hO1.lt).trans c0, hb⟩
    have KP := hide keep
    clear keep
    go_region_held3 (fun w' => w'.cell? ⟨w.heap.size, 0, none⟩ = some (.int .i64 (f 0)) ∧ Below w1.heap.size w1 w') (first | exact ⟨c0, Below.refl _ _⟩ | exact ⟨c0, (Below.refl _ _).drew⟩ | assumption | exact KP.out _ _ (by assumption) hbs | exact ⟨by assumption, by assumption⟩ | exact KP.out _ _ (by assumption) (below_alloc _ _))
      ((go_at_call 31; refine (sources_c _).mono ?_; rintro e wz ⟨rfl, hbs⟩))
    obtain ⟨_, hbz⟩ : (wz.alloc (.cells #[.string (kw (f 0))] 9)).cell? ⟨w.heap.size, 0, none⟩ = some (.int .i64 (f 0)) ∧ Below w1.heap.size w1 (wz.alloc (.cells #[.string (kw (f 0))] 9)) := by assumption
    have hwz : w1.heap.size ≤ wz.heap.size := by first | exact hbs.size | (have := hbs.size; simp at this; exact this)
    have o1 := Ow.new (e := eStr) wz 9 (kw (f 0)) #[.string (kw (f 0))] rfl w1.heap.size hwz wz.heap.size rfl
    have hsz : wz.heap.size < (wz.alloc (.cells #[.string (kw (f 0))] 9)).heap.size := by simp
    have hap0 : ∀ g, (some (⟨wz.heap.size, 0, none⟩ : Addr)).map (·.block) = some g → g = wz.heap.size := fun g hg => by simpa using hg.symm
    clear hix KP c0 hbs
    go_wp2_with (go_at_call 32; refine (numbers_c _ _).mono ?_; rintro e w3 ⟨Ap, cp, rfl, op, hbp⟩; refine Hid.out ?_)
    refine hide ?_
    have o2 := o1.on hbp
    have hbw3 := hbz.trans (hbp.mono hbz.size)
    have hapt : Apart (some ⟨wz.heap.size, 0, none⟩) Ap := fun g hg hg2 => by have := hap0 g hg; have := (op.block g hg2).1; omega
    clear hbz hbp o1 hap0
    go_wp2
    go_loopw [20, 5] (fun iv av wr => ∃ (k : Nat) (A : Option Addr) (c : Nat), k ≤ 17 ∧ iv = .int .i64 k ∧ av = .slice A (k + 1) c ∧ Ow eStr wr w1.heap.size 9 A (k + 1) c (words18 f k) ∧ Ow (ePtr w.heap.size) wr w1.heap.size 75 Ap 17 cp (List.range' 1 17) ∧ Apart A Ap ∧ Below w1.heap.size w1 wr) (fun iv _ _ => 17 - (intOf iv).toNat)
    case atStart => exact ⟨0, _, _, by omega, rfl, rfl, o2, op.mono (by omega), hapt, hbw3⟩
    case round =>
      clear o2 op hapt hbw3
      obtain ⟨k, A, c, hk, rfl, rfl, o2, op, hap, hbw⟩ := hrel
      have hz := hbw.size
      by_cases hlt : k < 17
      · obtain ⟨gp, x, rfl, _, hgp, hx, hcp⟩ := op.get hlt
        have hx1 : x = 1 + k := by
          rw [List.getElem?_range' (by omega)] at hx
          simp at hx; omega
        subst hx1
        have p0 := hcp 0 _ rfl
        simp only [ePtr, Nat.add_zero, Nat.mul_one] at p0
        have hOr := hO1.keep hbw
        have q0 := hOr.cell (1 + k)
        rw [cells18_get f (by omega)] at q0
        have hk0 : (0 : Int) ≤ (k : Int) := by omega
        have hk1 : (k : Int) < 17 := by omega
        have hfb := HP.out.2 (1 + k) (by omega) (by omega)
        have htr := ht1.on hbw
        have hit := itoa_c (f (1 + k)) wr (by omega) (by omega) htr
        have HI := hide hit
        clear hcp hx hOr htr hit
        go_wp2_with (go_at_call 33; refine HI.out.mono ?_; rintro e w4 ⟨rfl, hb4⟩; refine Hid.out ?_)
        refine hide ?_
        have o3 := o2.on hb4
        have op3 := op.on hb4
        have hbw4 := hbw.trans (hb4.mono hz)
        have hz4 := hbw4.size
        clear o2 op hb4 p0 q0 hfb
        go_wp2_with (at_builtin; refine wl_app eStr _ rfl (.tmp 24) (.tmp 29) _ rfl w1.heap.size 9 (.string ByteArray.empty) 16 Tryd.underlying71 info_str rfl (by omega) _ _ _ _ (by rfl) (o3.alloc _) _ 1 1 [itoaB (f (1 + k))] (by rfl) _ (Rd.newAt _ _ (itoaB (f (1 + k))) _ rfl _ (by simp)) (by omega) (by simp; omega) ?_; intro A5 c5 w5 o5 hg5 hA5)
        go_roundw
        case rel => exact ⟨k + 1, A5, c5, by omega, by go_num, rfl, by rw [words18_succ]; exact o5, (op3.alloc _).app hg5 hap.symm, hap.app hA5 (op3.alloc _), below_app (hbw4.alloc hz4 _) (o3.alloc _) hg5 (Nat.le_refl _) (Nat.le_refl _)⟩
        case measure => simp [intOf] <;> omega
      · obtain rfl : k = 17 := by omega
        have hjl := text_len HP.out.2
        obtain ⟨gs, x0, rfl, _, hgs, _, _⟩ := o2.get (show 0 < 17 + 1 by omega)
        have hcells : ∀ (j : Nat) x, (words18 f 17)[j]? = some x → wr.cell? ⟨gs, 0 + j, none⟩ = some (.string x) := fun j x hx => by
          have hj : j < 17 + 1 := by rw [← words18_len f 17]; exact (List.getElem?_eq_some_iff.1 hx).1
          obtain ⟨g', y, eg, _, _, hy, hc⟩ := o2.get hj
          injection eg with eg; injection eg with eg; subst eg
          rw [hx] at hy; injection hy with hy; subst hy
          have := hc 0 _ rfl
          simpa [eStr] using this
        have hcap : 18 ≤ c := o2.rd.cap
        have hj := Tryd.strings_Join gs 0 c (words18 f 17) ⟨#[32]⟩ wr hcells hgs (by rw [words18_len]; omega) (by rw [words18_len]; omega) hjl
        rw [words18_len] at hj
        have HJ := hide hj
        clear hj hcells hjl
        go_wp2_with (go_at_call 34; refine HJ.out.mono ?_; rintro e w6 ⟨rfl, hb6⟩)
        go_ret2
        exact ⟨by rw [if_pos HOK.out, HCE.out]; rfl, below_on hb01 (hbw.trans (hb6.mono hz))⟩
  · have hce : checkErr f = 2 := by unfold checkErr; rw [if_neg hok]
    rw [hce] at hcc
    have HOK := hide hok
    have HCE := hide hce
    have HC := hide hcc
    clear hcc hce hok
    go_enter Tryd.func8, Tryd.ntmps8
    go_wp2_with (first | (refine wl_load (o := ⟨some 8, _, _, _, _, _⟩) rfl 26 _ rfl w.heap.size rfl 26 (cells18 f) _ hO Tryd.underlying26 rfl (by kernel_rfl) ?_) | (go_at_call 10; refine (HC.out _).mono ?_; rintro e w1 ⟨rfl, hb1⟩))
    go_ret2
    exact ⟨by rw [if_neg HOK.out, HCE.out]; rfl, below_on hb0 hb1⟩
end Go.Proofs.YthdidjnhfkeokaaDoor
