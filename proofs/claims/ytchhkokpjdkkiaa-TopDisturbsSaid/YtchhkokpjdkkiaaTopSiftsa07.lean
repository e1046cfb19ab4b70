/- Contract of optics.Emit. Contracts of ranged and CheckRule of optics. -/
import Derived.Test.YtchhkokpjdkkiaaTopSiftsa06
import Derived.Test.YtchhkokpjdkkiaaTopSiftsa02
import Derived.Test.YtchhkokpjdkkiaaTopSiftsa03
namespace Go.Proofs.Ytchhkokpjdkkiaa
open Go.RowKit Go.Shelf
attribute [local go_sem] Oper.semAt_some

set_option maxRecDepth 100000 in
set_option maxHeartbeats 1600000 in
theorem slots_c (f : Nat → Int) (n : Int) (s : Nat) (w : World) : Calls Try.prog 65 #[.agg (cells18 f), .int .i64 n, .int .u64 (s : Int)] w fun e w' =>
    e = .returned (.func (.func 94) #[] #[.pointer (some ⟨w.heap.size + 2, 0, none⟩), .pointer (some ⟨w.heap.size + 1, 0, none⟩), .pointer (some ⟨w.heap.size, 0, none⟩)]) ∧
      w' = ((w.alloc (.cells (cells18 f) 57)).alloc (.cells #[.int .i64 n] 3)).alloc (.cells #[.int .u64 (s : Int)] 24) := by
  go_enter Try.func65, Try.ntmps65
  go_wp2
  go_ret
  exact ⟨rfl, rfl⟩

/-- Between two rounds. -/
def EmI (w : World) (Bo base : Nat) (pre : List Pu) (W : World) : Prop :=
  (∃ A c, Blk W Bo 62 #[.slice A pre.length c] ∧ Ow ePu W base 79 A pre.length c pre) ∧ Below w.heap.size w W
def EmA (a0 : Pu → Value → Act) (x : Pu) (a' : Act) (W : World) : Prop := ∃ Bx, Blk W Bx 79 #[.int .i64 x.b, .bool x.bit, .int .i64 x.cl, .int .i64 x.ph, .bool x.seen] ∧ a' = a0 x (.pointer (some ⟨Bx, 0, none⟩))
theorem turns_not {TD : TypeId} {B : Nat} {W W' : World} {row : Option Nat} (hg : W.grownBy W' row) (ht : Turns TD B W row) {r : Nat} {t : TypeId} {cs : Array Value} (h : W.heap[r]? = some (.cells cs t (0, 0))) (hT : t ≠ TD ∨ r < B) : W'.heap[r]? = some (.cells cs t (0, 0)) := by
  refine (hg.block r (Array.getElem?_eq_some_iff.1 h).1 (fun e => ?_)).trans h
  obtain ⟨hB, o, ho, hc⟩ := ht r e.symm
  rw [h] at ho
  cases ho
  rcases hc with hc | ⟨cs', hc⟩
  · cases hc
  · cases hc
    rcases hT with hT | hT
    · exact hT rfl
    · omega
theorem emI_abd (w : World) (Bo base : Nat) (hw : w.heap.size ≤ base) : Abd 195 base (EmI w Bo base) := by
  rintro pre W W' row ⟨⟨A, c, bO, o1⟩, hB⟩ hg ht
  refine ⟨⟨A, c, turns_not hg ht bO (.inl (by decide)), o1.keep fun q eq => ?_⟩, hB.trans ⟨hg.os, hg.tape, hg.output, hg.size, fun k hk => hg.block k (by have := hB.size; omega) (fun e => by have := (ht k e.symm).1; omega)⟩⟩
  rcases o1.form with ⟨rfl, _, _⟩ | ⟨g, cur, ea, _, _, hh, _⟩
  · cases eq
  · rw [ea] at eq
    injection eq with eq
    injection eq with eq
    subst eq
    rw [hh]
    exact turns_not hg ht hh (.inl (by decide))
theorem emA_abd (base : Nat) (a0 : Pu → Value → Act) (x : Pu) (a' : Act) : Abd 195 base (fun (_ : Unit) W => EmA a0 x a' W) := by
  rintro _ W W' row ⟨Bx, bX, e⟩ hg ht
  exact ⟨Bx, turns_not hg ht bX (.inl (by decide)), e⟩
theorem emiF_len' (f : Nat → Int) (s k : Nat) : (emiF f s k).1.length = k := emiF_len f s k

set_option maxRecDepth 100000 in
set_option maxHeartbeats 6400000 in
theorem emit_c (f : Nat → Int) (n : Int) (s : Nat) (w : World) : Calls Try.prog 36 #[.agg (cells18 f), .int .i64 n, .int .u64 (s : Int)] w (SEm f n s w) := by
  have hO := Blk.newAt w 57 (cells18 f) w.heap.size rfl
  have hb := below_alloc w (.cells (cells18 f) 57)
  obtain ⟨W, hW⟩ : ∃ W, W = w.alloc (.cells (cells18 f) 57) := ⟨_, rfl⟩
  rw [← hW] at hO hb
  have HW := hide hW
  have hck := check_c f W
  have hlt0 := hO.lt
  clear hW
  by_cases h0 : checkErr f = 0
  · rw [h0] at hck
    have HCK := hide hck
    have H0 := hide h0
    clear hck h0
    by_cases hr : n < 0 ∨ 4096 < n
    · have HE := hide (emitErr_range H0.out hr)
      by_cases hr1 : n < 0
      · clear hr
        go_enter Try.func36, Try.ntmps36
        go_upto_region 1 with fail
        rw [← HW.out]
        go_wp2_with (first | (refine wl_load (o := ⟨some 11, _, _, _, _, _⟩) rfl 57 _ rfl w.heap.size rfl 57 (cells18 f) _ hO Try.underlying57 rfl (by kernel_rfl) ?_) | (go_at_call 34; refine HCK.out.mono ?_; rintro e w1 ⟨rfl, hb1⟩))
        go_ret2
        exact SEm.err HE.out (by omega) (below_on hb hb1)
      · have hr2 : 4096 < n := by omega
        clear hr
        go_enter Try.func36, Try.ntmps36
        go_upto_region 1 with fail
        rw [← HW.out]
        go_wp2_with (first | (refine wl_load (o := ⟨some 11, _, _, _, _, _⟩) rfl 57 _ rfl w.heap.size rfl 57 (cells18 f) _ hO Try.underlying57 rfl (by kernel_rfl) ?_) | (go_at_call 34; refine HCK.out.mono ?_; rintro e w1 ⟨rfl, hb1⟩))
        go_ret2
        exact SEm.err HE.out (by omega) (below_on hb hb1)
    · have HE := hide (emitErr_ok H0.out hr)
      obtain ⟨n, rfl⟩ := Int.eq_ofNat_of_zero_le (show 0 ≤ n by omega)
      have hn2 : n ≤ 4096 := by omega
      clear hr
      refine (callsIn_wide (n := 6)).1 ?_
      refine callsIn_of_wp_marks Try.func36 rfl trivial ?_ rfl
      simp only [Try.ntmps36, List.size_toArray, List.length_cons, List.length_nil, Nat.reduceAdd, Nat.reduceSub, Array.replicate_succ, Array.replicate_zero, List.push_toArray, List.append_toArray, List.nil_append, List.cons_append]
      have hO' := hO
      have hck' := HCK.out
      rw [HW.out] at hO' hck'
      have HCK' := hide hck'
      clear hck'
      gi_wp2_with (first | (refine wlIn_load (o := ⟨some 11, _, _, _, _, _⟩) rfl 57 _ rfl w.heap.size rfl 57 (cells18 f) _ hO' Try.underlying57 rfl (by kernel_rfl) ?_) | (refine ⟨trivial, ?_⟩; gi_at_call 34; refine (callsIn_wide.2 HCK'.out).mono ?_; rintro e w1 ⟨rfl, hb1⟩; have hO1 := (hO'.keep hb1).alloc (.cells #[.slice none 0 0] 62)) | (refine wlIn_load (o := ⟨some 22, _, _, _, _, _⟩) rfl 57 _ rfl w.heap.size rfl 57 (cells18 f) _ hO1 Try.underlying57 rfl (by kernel_rfl) ?_) | (refine ⟨trivial, ?_⟩; gi_at_call 65; refine (callsIn_wide.2 (slots_c f n s _)).mono ?_; rintro e w2 ⟨rfl, hw2⟩; have HW2 := hide hw2; clear hw2))
      have bO : Blk w2 w1.heap.size 62 #[.slice none 0 0] := by rw [HW2.out]; exact (((Blk.new w1 _ _).alloc _).alloc _).alloc _
      have bX : Blk w2 (w1.heap.size + 1) 57 (cells18 f) := by rw [HW2.out]; exact ((Blk.newAt (w1.alloc _) _ _ (w1.heap.size + 1) (by simp)).alloc _).alloc _
      have bN : Blk w2 (w1.heap.size + 1 + 1) 3 #[.int .i64 (n : Int)] := by rw [HW2.out]; exact (Blk.newAt ((w1.alloc _).alloc _) _ _ (w1.heap.size + 1 + 1) (by simp)).alloc _
      have bS : Blk w2 (w1.heap.size + 1 + 2) 24 #[.int .u64 (s : Int)] := by rw [HW2.out]; exact Blk.newAt (((w1.alloc _).alloc _).alloc _) _ _ (w1.heap.size + 1 + 2) (by simp)
      have hb1' := below_on (below_alloc w (.cells (cells18 f) 57)) hb1
      have hb2 : Below w.heap.size w w2 := by
        rw [HW2.out]
        exact (((hb1'.alloc hb1'.size _).alloc (by have := hb1'.size; simp; omega) _).alloc (by have := hb1'.size; simp; omega) _).alloc (by have := hb1'.size; simp; omega) _
      have hsz := hb2.size
      have hltO := bO.lt
      have hwBo : w.heap.size ≤ w1.heap.size := hb1'.size
      clear HW2 hO1 hO' HCK' HCK HW hb hO hb1' hlt0 hb1
      obtain ⟨Bo, hBo⟩ : ∃ d, d = w1.heap.size := ⟨_, rfl⟩
      rw [← hBo] at bO bX bN bS hltO hwBo ⊢
      clear hBo
      refine wpIn_rangeFunc_state (F := Fence.wide) (n := 6) 195 rfl (by omega) (gf := 94) (lb := #[.pointer (some ⟨Bo + 1 + 2, 0, none⟩), .pointer (some ⟨Bo + 1 + 1, 0, none⟩), .pointer (some ⟨Bo + 1, 0, none⟩)]) rfl trivial (enters_of Try.func94 (by kernel_rfl) rfl)
        (fun x : Pu => #[.agg #[.int .i64 x.b, .bool x.bit, .int .i64 x.cl, .int .i64 x.ph, .bool x.seen]]) KC (emiF f s n).1 (Nxt f s n)
        (fun l J W hWb hJ hY h0 => slots_in f H0.out n s (Bo + 1 + 2) (Bo + 1 + 1) (Bo + 1) l 5 (by omega) hn2 J W (bS.keep hWb) (bN.keep hWb) (bX.keep hWb) hJ hY h0)
        KC.trans (fun W l o o' _ hl ho => KC.putObj W l o o' hl ho) (fun _ => rfl)
        (EmI w Bo w2.heap.size) (emI_abd w Bo _ hsz) ⟨⟨none, 0, bO, Ow.nil _ _ _⟩, hb2⟩
        (EmA (fun x v => { tmps := #[.agg (cells18 f), .int .i64 (n : Int), .int .u64 (s : Int), .pointer (some ⟨w.heap.size, 0, none⟩), undef, undef, .slice none 0 0, .int .i64 0, .int .i64 0, .pointer (some ⟨Bo, 0, none⟩), v, .agg (cells18 f), .int .i64 0, .int .i64 0, .bool false, undef, .int .i64 (n : Int), .bool (decide ((n : Int) < 0)), .bool (decide ((n : Int) < 0)), .int .i64 (n : Int), .bool (decide (4096 < (n : Int))), .bool (decide ((n : Int) < 0) || decide (4096 < (n : Int))), .agg (cells18 f), .int .i64 (n : Int), .int .u64 (s : Int), .func (.func 94) #[] #[.pointer (some ⟨Bo + 1 + 2, 0, none⟩), .pointer (some ⟨Bo + 1 + 1, 0, none⟩), .pointer (some ⟨Bo + 1, 0, none⟩)], .agg #[.int .i64 x.b, .bool x.bit, .int .i64 x.cl, .int .i64 x.ph, .bool x.seen], undef, undef, undef, undef, undef], defers := [] }))
        (fun x a' => emA_abd _ _ x a') ?assign ?body ?done
      case assign =>
        rintro l pre x W K ⟨⟨A, c, p1, p2⟩, p3⟩ hK
        gi_wp2
        exact hK _ _ (KeepsFrom.of_grownBy (World.grownBy_alloc W _ none) (fun j e => by cases e)) (KC.grown (World.grownBy_alloc W _ none) (fun r e => by cases e)) ⟨⟨A, c, p1.alloc _, p2.alloc _⟩, p3.alloc p3.size _⟩ ⟨W.heap.size, Blk.new W _ _, rfl⟩
      case body =>
        rintro l pre x a' W hl hlW ⟨⟨A, c, p1, o1⟩, p3⟩ ⟨Bx, bx, rfl⟩ ⟨i, hi, hpre, hx⟩
        have hlen : pre.length ≤ 4096 := by rw [hpre, emiF_len]; omega
        have e0 := p1.cell 0
        have ef := p1.frozen 0
        have b0 := bx.cell 0
        have b1 := bx.cell 1
        have b2 := bx.cell 2
        have b3 := bx.cell 3
        have b4 := bx.cell 4
        simp only [List.getElem?_toArray, List.getElem?_cons_zero, List.getElem?_cons_succ] at e0 b0 b1 b2 b3 b4
        have hR := Rd.newAt (e := ePu) W 79 x #[.int .i64 x.b, .bool x.bit, .int .i64 x.cl, .int .i64 x.ph, .bool x.seen] rfl W.heap.size rfl
        have hlB : w2.heap.size ≤ W.heap.size := by have := bx.lt; exact Nat.le_trans hl (Nat.le_of_lt hlW)
        have hBA : some Bo ≠ A.map (·.block) := fun e => by have := (o1.block _ e.symm).1; omega
        have hp1 := p1.alloc (.cells #[.int .i64 x.b, .bool x.bit, .int .i64 x.cl, .int .i64 x.ph, .bool x.seen] 79)
        clear hpre hx
        gi_wp2_with (gi_at_builtin; refine wlIn_app ePu _ rfl (.tmp 27) (.tmp 29) _ rfl w2.heap.size 79 (.agg #[.int .i64 0, .bool false, .int .i64 0, .int .i64 0, .bool false]) 40 Try.underlying62 info_pu rfl (by omega) _ _ _ _ (by rfl) (o1.alloc _) _ 1 1 [x] (by rfl) _ hR (by omega) (by simp; omega) ?_; intro A5 c5 w3 o3 hg3 hA3; have q3 := hp1.grown hg3 hBA; have q0 := q3.cell 0; have qf := q3.frozen 0; simp only [List.getElem?_toArray, List.getElem?_cons_zero] at q0)
        have hAc : ∀ k o, W.heap[k]? = some o → (o.isCells = false ∨ ∃ cs t, o = .cells cs t (0, 0) ∧ t ≠ 79) → some k ≠ A.map (·.block) := by
          intro k o hk ho e
          rcases o1.form with ⟨rfl, _, _⟩ | ⟨g, cur, rfl, _, _, hh, _⟩
          · cases e
          · injection e with e
            simp only at e
            subst e
            rw [hk] at hh
            cases hh
            rcases ho with ho | ⟨cs, t, h1, h2⟩
            · cases ho
            · cases h1; exact h2 rfl
        have hsz3 : W.heap.size ≤ w3.heap.size := by have := hg3.size; simp at this; omega
        refine ⟨⟨by simpa [World.setCell] using hsz3, fun k o hk hko ho => ?_⟩, ⟨by simpa [World.setCell] using hsz3, fun r t cs h1 h2 hb => ?_⟩, ⟨A5, c5, ?_, ?_⟩, ?_⟩
        · have hkl := (Array.getElem?_eq_some_iff.1 hko).1
          rw [Below.heap_setCell _ _ _ _ (by simp; omega)]
          exact (hg3.block k (by simp; omega) (hAc k o hko (.inl ho))).trans ((Below.heap_alloc W _ k hkl).trans hko)
        · have hrB : r ≠ Bo := fun e => by subst e; unfold Blk at hb p1; rw [hb] at p1; injection p1 with p1; injection p1 with _ p1 _; exact h2 p1
          exact ((hb.alloc _).grown hg3 (hAc r _ hb (.inr ⟨cs, t, rfl, h1⟩))).far (by simpa using hrB) _
        · have := q3.set_ 0 (.slice A5 (pre.length + 1) c5)
          simpa using this
        · have := o3.far (p := ⟨Bo, 0, none⟩) (fun g eg e => by have := (o3.lt eg).1; simp at e; omega) (.slice A5 (pre.length + 1) c5)
          simpa using this
        · exact (below_app (p3.alloc p3.size _) (o1.alloc _) hg3 (by omega) (Nat.le_refl _)).setCell hwBo _
      case done =>
        rintro D W hD ⟨⟨A, c, p1, o1⟩, p3⟩ hK
        rw [emiF_len] at p1 o1
        have e0 := p1.cell 0
        simp only [List.getElem?_toArray, List.getElem?_cons_zero] at e0
        have HO1 := hide (o1.grown (grownBy_putObj' W D (.deferred none)) (fun g eg e => by
          rcases o1.form with ⟨rfl, _, _⟩ | ⟨g', cur, rfl, _, _, hh, _⟩
          · cases eg
          · injection eg with eg
            injection eg with eg
            subst eg
            injection e with e
            subst e
            rw [hK] at hh
            cases hh))
        have HB1 := hide (p3.grown (grownBy_putObj' W D (.deferred none)) p3.size (fun k e => by cases e; omega))
        clear p1 o1 p3
        gi_wp2
        refine ⟨by simp, .inl ⟨_, _, rfl, run_takeDeferred hK, ?_⟩⟩
        have hfin := SEm.ok HE.out HB1.out HO1.out.rd
        refine ⟨_, results_tmp2 rfl _ _ _, ?_⟩
        first
          | exact hfin
          | simpa using hfin
          | (simp; exact hfin)
  · have h2 := check_two h0
    rw [h2] at hck
    have HCK := hide hck
    have HE := hide (emitErr_check (n := n) h2)
    clear hck h0 h2
    go_enter Try.func36, Try.ntmps36
    go_upto_region 1 with fail
    rw [← HW.out]
    go_wp2_with (first | (refine wl_load (o := ⟨some 11, _, _, _, _, _⟩) rfl 57 _ rfl w.heap.size rfl 57 (cells18 f) _ hO Try.underlying57 rfl (by kernel_rfl) ?_) | (go_at_call 34; refine HCK.out.mono ?_; rintro e w1 ⟨rfl, hb1⟩))
    go_ret2
    exact SEm.err HE.out (by omega) (below_on hb hb1)
end Go.Proofs.Ytchhkokpjdkkiaa

namespace Go.Proofs.Ytchhkokpjdkkiaa
open Go.RowKit

def ruErr (r : Ru) : Int := if okRu r then 0 else 2
theorem ret_ru {a b : Int} (h : a = b) : Ending.returned (.int .i64 a) = .returned (.int .i64 b) := by rw [h]
theorem ruErr_no {r : Ru} (h : okRu r = false) : (2 : Int) = ruErr r := by unfold ruErr; rw [h]; rfl
theorem ruErr_yes {r : Ru} (h : okRu r = true) : (0 : Int) = ruErr r := by unfold ruErr; rw [h]; rfl
theorem part_true {a : Int} (h : part a = true) : 0 ≤ a ∧ a ≤ 256 := by simpa [part] using h
theorem part_false {a : Int} (h : part a = false) : ¬ (0 ≤ a ∧ a ≤ 256) := by simpa [part] using h

set_option maxRecDepth 100000 in
set_option maxHeartbeats 1600000 in
theorem ranged_c (r : Ru) (w : World) : Calls Try.prog 69 #[.agg #[.int .i64 r.k, .int .i64 r.fr, .int .i64 r.to, .int .i64 r.a, .int .i64 r.b]] w fun e w' => e = .returned (.bool (decide (4 ≤ r.k))) ∧ Below w.heap.size w w' := by
  obtain ⟨k, fr, td, a, b⟩ := r
  go_enter Try.func69, Try.ntmps69
  go_wp2
  go_ret
  exact ⟨rfl, below_alloc _ _⟩
theorem ranged_v (k fr td a b : Int) (v : Bool) (h : decide (4 ≤ k) = v) (w : World) : Calls Try.prog 69 #[.agg #[.int .i64 k, .int .i64 fr, .int .i64 td, .int .i64 a, .int .i64 b]] w fun e w' => e = .returned (.bool v) ∧ Below w.heap.size w w' := by
  subst h; exact ranged_c ⟨k, fr, td, a, b⟩ w

set_option maxRecDepth 100000 in
set_option maxHeartbeats 3200000 in
theorem checkRule_1 (fr td a b : Int) (w : World) : Calls Try.prog 64 #[.agg #[.int .i64 1, .int .i64 fr, .int .i64 td, .int .i64 a, .int .i64 b]] w fun e w' => e = .returned (.int .i64 (ruErr ⟨1, fr, td, a, b⟩)) ∧ Below w.heap.size w w' := by
  cases hp : part a
  · have hpc := fun W => part_c a W
    rw [hp] at hpc
    have HP := hide hpc
    have HPP := hide hp
    clear hpc hp
    go_enter Try.func64, Try.ntmps64
    go_wp2_with (first | (go_at_call 63; refine (HP.out _).mono ?_; rintro e w' ⟨rfl, rfl⟩) | (go_at_call 69; refine (ranged_v _ _ _ _ _ false (by simp) _).mono ?_; rintro e w1 ⟨rfl, hb1⟩; have hB := (Blk.new w _ _).keep hb1; have z1 := hB.cell 1; have z2 := hB.cell 2; simp only [List.getElem?_toArray, List.getElem?_cons_zero, List.getElem?_cons_succ] at z1 z2))
    all_goals
      go_ret
      have hq := part_false HPP.out
      refine ⟨ret_ru ?_, by first | exact below_alloc _ _ | exact below_on (below_alloc _ _) hb1⟩
      first
        | (refine ruErr_no ?_; unfold okRu okSpan; simp; intros; omega)
        | (have hz : ¬ td < 4096 := by simpa using ‹(!decide (td < 4096)) = true›
           refine ruErr_no ?_; unfold okRu okSpan; simp; intros; omega)
        | (have hz : td < 4096 := by simpa using ‹(!decide (td < 4096)) = false›
           refine ruErr_yes ?_; unfold okRu okSpan; simp; omega)
        | (refine ruErr_yes ?_; unfold okRu okSpan; simp; omega)
        | (exfalso; have hz := ‹(!b == 0) = false›; simp at hz; exact absurd hz ‹¬b = 0›)
  · have hpc := fun W => part_c a W
    rw [hp] at hpc
    have HP := hide hpc
    have HPP := hide hp
    clear hpc hp
    go_enter Try.func64, Try.ntmps64
    go_wp2_with (first | (go_at_call 63; refine (HP.out _).mono ?_; rintro e w' ⟨rfl, rfl⟩) | (go_at_call 69; refine (ranged_v _ _ _ _ _ false (by simp) _).mono ?_; rintro e w1 ⟨rfl, hb1⟩; have hB := (Blk.new w _ _).keep hb1; have z1 := hB.cell 1; have z2 := hB.cell 2; simp only [List.getElem?_toArray, List.getElem?_cons_zero, List.getElem?_cons_succ] at z1 z2))
    all_goals
      go_ret
      have hq := part_true HPP.out
      refine ⟨ret_ru ?_, by first | exact below_alloc _ _ | exact below_on (below_alloc _ _) hb1⟩
      first
        | (refine ruErr_no ?_; unfold okRu okSpan; simp; intros; omega)
        | (have hz : ¬ td < 4096 := by simpa using ‹(!decide (td < 4096)) = true›
           refine ruErr_no ?_; unfold okRu okSpan; simp; intros; omega)
        | (have hz : td < 4096 := by simpa using ‹(!decide (td < 4096)) = false›
           refine ruErr_yes ?_; unfold okRu okSpan; simp; omega)
        | (refine ruErr_yes ?_; unfold okRu okSpan; simp; omega)
        | (exfalso; have hz := ‹(!b == 0) = false›; simp at hz; exact absurd hz ‹¬b = 0›)

set_option maxRecDepth 100000 in
set_option maxHeartbeats 3200000 in
theorem checkRule_2 (fr td a b : Int) (w : World) : Calls Try.prog 64 #[.agg #[.int .i64 2, .int .i64 fr, .int .i64 td, .int .i64 a, .int .i64 b]] w fun e w' => e = .returned (.int .i64 (ruErr ⟨2, fr, td, a, b⟩)) ∧ Below w.heap.size w w' := by
  cases hp : part a
  · have hpc := fun W => part_c a W
    rw [hp] at hpc
    have HP := hide hpc
    have HPP := hide hp
    clear hpc hp
    go_enter Try.func64, Try.ntmps64
    go_wp2_with (first | (go_at_call 63; refine (HP.out _).mono ?_; rintro e w' ⟨rfl, rfl⟩) | (go_at_call 69; refine (ranged_v _ _ _ _ _ false (by simp) _).mono ?_; rintro e w1 ⟨rfl, hb1⟩; have hB := (Blk.new w _ _).keep hb1; have z1 := hB.cell 1; have z2 := hB.cell 2; simp only [List.getElem?_toArray, List.getElem?_cons_zero, List.getElem?_cons_succ] at z1 z2))
    all_goals
      go_ret
      have hq := part_false HPP.out
      refine ⟨ret_ru ?_, by first | exact below_alloc _ _ | exact below_on (below_alloc _ _) hb1⟩
      first
        | (refine ruErr_no ?_; unfold okRu okSpan; simp; intros; omega)
        | (have hz : ¬ td < 4096 := by simpa using ‹(!decide (td < 4096)) = true›
           refine ruErr_no ?_; unfold okRu okSpan; simp; intros; omega)
        | (have hz : td < 4096 := by simpa using ‹(!decide (td < 4096)) = false›
           refine ruErr_yes ?_; unfold okRu okSpan; simp; omega)
        | (refine ruErr_yes ?_; unfold okRu okSpan; simp; omega)
        | (exfalso; have hz := ‹(!b == 0) = false›; simp at hz; exact absurd hz ‹¬b = 0›)
  · have hpc := fun W => part_c a W
    rw [hp] at hpc
    have HP := hide hpc
    have HPP := hide hp
    clear hpc hp
    go_enter Try.func64, Try.ntmps64
    go_wp2_with (first | (go_at_call 63; refine (HP.out _).mono ?_; rintro e w' ⟨rfl, rfl⟩) | (go_at_call 69; refine (ranged_v _ _ _ _ _ false (by simp) _).mono ?_; rintro e w1 ⟨rfl, hb1⟩; have hB := (Blk.new w _ _).keep hb1; have z1 := hB.cell 1; have z2 := hB.cell 2; simp only [List.getElem?_toArray, List.getElem?_cons_zero, List.getElem?_cons_succ] at z1 z2))
    all_goals
      go_ret
      have hq := part_true HPP.out
      refine ⟨ret_ru ?_, by first | exact below_alloc _ _ | exact below_on (below_alloc _ _) hb1⟩
      first
        | (refine ruErr_no ?_; unfold okRu okSpan; simp; intros; omega)
        | (have hz : ¬ td < 4096 := by simpa using ‹(!decide (td < 4096)) = true›
           refine ruErr_no ?_; unfold okRu okSpan; simp; intros; omega)
        | (have hz : td < 4096 := by simpa using ‹(!decide (td < 4096)) = false›
           refine ruErr_yes ?_; unfold okRu okSpan; simp; omega)
        | (refine ruErr_yes ?_; unfold okRu okSpan; simp; omega)
        | (exfalso; have hz := ‹(!b == 0) = false›; simp at hz; exact absurd hz ‹¬b = 0›)

set_option maxRecDepth 100000 in
set_option maxHeartbeats 3200000 in
theorem checkRule_3 (fr td a b : Int) (w : World) : Calls Try.prog 64 #[.agg #[.int .i64 3, .int .i64 fr, .int .i64 td, .int .i64 a, .int .i64 b]] w fun e w' => e = .returned (.int .i64 (ruErr ⟨3, fr, td, a, b⟩)) ∧ Below w.heap.size w w' := by
  go_enter Try.func64, Try.ntmps64
  go_wp2_with ((go_at_call 69; refine (ranged_v _ _ _ _ _ false (by simp) _).mono ?_; rintro e w1 ⟨rfl, hb1⟩; have hB := (Blk.new w _ _).keep hb1; have z1 := hB.cell 1; have z2 := hB.cell 2; simp only [List.getElem?_toArray, List.getElem?_cons_zero, List.getElem?_cons_succ] at z1 z2))
  all_goals
    go_ret
    refine ⟨ret_ru ?_, by first | exact below_alloc _ _ | exact below_on (below_alloc _ _) hb1⟩
    first
      | (refine ruErr_no ?_; unfold okRu okSpan; simp; intros; omega)
      | (have hz : ¬ td < 4096 := by simpa using ‹(!decide (td < 4096)) = true›
         refine ruErr_no ?_; unfold okRu okSpan; simp; intros; omega)
      | (have hz : td < 4096 := by simpa using ‹(!decide (td < 4096)) = false›
         refine ruErr_yes ?_; unfold okRu okSpan; simp; omega)
      | (refine ruErr_yes ?_; unfold okRu okSpan; simp; omega)
      | (exfalso; have hz := ‹(!b == 0) = false›; simp at hz; exact absurd hz ‹¬b = 0›)

set_option maxRecDepth 100000 in
set_option maxHeartbeats 3200000 in
theorem checkRule_4 (fr td a b : Int) (w : World) : Calls Try.prog 64 #[.agg #[.int .i64 4, .int .i64 fr, .int .i64 td, .int .i64 a, .int .i64 b]] w fun e w' => e = .returned (.int .i64 (ruErr ⟨4, fr, td, a, b⟩)) ∧ Below w.heap.size w w' := by
  cases hp : part a
  · have hpc := fun W => part_c a W
    rw [hp] at hpc
    have HP := hide hpc
    have HPP := hide hp
    clear hpc hp
    go_enter Try.func64, Try.ntmps64
    go_wp2_with (first | (go_at_call 63; refine (HP.out _).mono ?_; rintro e w' ⟨rfl, rfl⟩) | (go_at_call 69; refine (ranged_v _ _ _ _ _ true (by simp) _).mono ?_; rintro e w1 ⟨rfl, hb1⟩; have hB := (Blk.new w _ _).keep hb1; have z1 := hB.cell 1; have z2 := hB.cell 2; simp only [List.getElem?_toArray, List.getElem?_cons_zero, List.getElem?_cons_succ] at z1 z2))
    all_goals
      go_ret
      have hq := part_false HPP.out
      refine ⟨ret_ru ?_, by first | exact below_alloc _ _ | exact below_on (below_alloc _ _) hb1⟩
      first
        | (refine ruErr_no ?_; unfold okRu okSpan; simp; intros; omega)
        | (have hz : ¬ td < 4096 := by simpa using ‹(!decide (td < 4096)) = true›
           refine ruErr_no ?_; unfold okRu okSpan; simp; intros; omega)
        | (have hz : td < 4096 := by simpa using ‹(!decide (td < 4096)) = false›
           refine ruErr_yes ?_; unfold okRu okSpan; simp; omega)
        | (refine ruErr_yes ?_; unfold okRu okSpan; simp; omega)
        | (exfalso; have hz := ‹(!b == 0) = false›; simp at hz; exact absurd hz ‹¬b = 0›)
  · have hpc := fun W => part_c a W
    rw [hp] at hpc
    have HP := hide hpc
    have HPP := hide hp
    clear hpc hp
    go_enter Try.func64, Try.ntmps64
    go_wp2_with (first | (go_at_call 63; refine (HP.out _).mono ?_; rintro e w' ⟨rfl, rfl⟩) | (go_at_call 69; refine (ranged_v _ _ _ _ _ true (by simp) _).mono ?_; rintro e w1 ⟨rfl, hb1⟩; have hB := (Blk.new w _ _).keep hb1; have z1 := hB.cell 1; have z2 := hB.cell 2; simp only [List.getElem?_toArray, List.getElem?_cons_zero, List.getElem?_cons_succ] at z1 z2))
    all_goals
      go_ret
      have hq := part_true HPP.out
      refine ⟨ret_ru ?_, by first | exact below_alloc _ _ | exact below_on (below_alloc _ _) hb1⟩
      first
        | (refine ruErr_no ?_; unfold okRu okSpan; simp; intros; omega)
        | (have hz : ¬ td < 4096 := by simpa using ‹(!decide (td < 4096)) = true›
           refine ruErr_no ?_; unfold okRu okSpan; simp; intros; omega)
        | (have hz : td < 4096 := by simpa using ‹(!decide (td < 4096)) = false›
           refine ruErr_yes ?_; unfold okRu okSpan; simp; omega)
        | (refine ruErr_yes ?_; unfold okRu okSpan; simp; omega)
        | (exfalso; have hz := ‹(!b == 0) = false›; simp at hz; exact absurd hz ‹¬b = 0›)

set_option maxRecDepth 100000 in
set_option maxHeartbeats 3200000 in
theorem checkRule_5 (fr td a b : Int) (w : World) : Calls Try.prog 64 #[.agg #[.int .i64 5, .int .i64 fr, .int .i64 td, .int .i64 a, .int .i64 b]] w fun e w' => e = .returned (.int .i64 (ruErr ⟨5, fr, td, a, b⟩)) ∧ Below w.heap.size w w' := by
  go_enter Try.func64, Try.ntmps64
  go_wp2_with ((go_at_call 69; refine (ranged_v _ _ _ _ _ true (by simp) _).mono ?_; rintro e w1 ⟨rfl, hb1⟩; have hB := (Blk.new w _ _).keep hb1; have z1 := hB.cell 1; have z2 := hB.cell 2; simp only [List.getElem?_toArray, List.getElem?_cons_zero, List.getElem?_cons_succ] at z1 z2))
  all_goals
    go_ret
    refine ⟨ret_ru ?_, by first | exact below_alloc _ _ | exact below_on (below_alloc _ _) hb1⟩
    first
      | (refine ruErr_no ?_; unfold okRu okSpan; simp; intros; omega)
      | (have hz : ¬ td < 4096 := by simpa using ‹(!decide (td < 4096)) = true›
         refine ruErr_no ?_; unfold okRu okSpan; simp; intros; omega)
      | (have hz : td < 4096 := by simpa using ‹(!decide (td < 4096)) = false›
         refine ruErr_yes ?_; unfold okRu okSpan; simp; omega)
      | (refine ruErr_yes ?_; unfold okRu okSpan; simp; omega)
      | (exfalso; have hz := ‹(!b == 0) = false›; simp at hz; exact absurd hz ‹¬b = 0›)

set_option maxRecDepth 100000 in
set_option maxHeartbeats 3200000 in
theorem checkRule_6 (fr td a b : Int) (w : World) : Calls Try.prog 64 #[.agg #[.int .i64 6, .int .i64 fr, .int .i64 td, .int .i64 a, .int .i64 b]] w fun e w' => e = .returned (.int .i64 (ruErr ⟨6, fr, td, a, b⟩)) ∧ Below w.heap.size w w' := by
  cases hp : part a
  · have hpc := fun W => part_c a W
    rw [hp] at hpc
    have HP := hide hpc
    have HPP := hide hp
    clear hpc hp
    go_enter Try.func64, Try.ntmps64
    go_wp2_with (first | (go_at_call 63; refine (HP.out _).mono ?_; rintro e w' ⟨rfl, rfl⟩) | (go_at_call 69; refine (ranged_v _ _ _ _ _ true (by simp) _).mono ?_; rintro e w1 ⟨rfl, hb1⟩; have hB := (Blk.new w _ _).keep hb1; have z1 := hB.cell 1; have z2 := hB.cell 2; simp only [List.getElem?_toArray, List.getElem?_cons_zero, List.getElem?_cons_succ] at z1 z2))
    all_goals
      go_ret
      have hq := part_false HPP.out
      refine ⟨ret_ru ?_, by first | exact below_alloc _ _ | exact below_on (below_alloc _ _) hb1⟩
      first
        | (refine ruErr_no ?_; unfold okRu okSpan; simp; intros; omega)
        | (have hz : ¬ td < 4096 := by simpa using ‹(!decide (td < 4096)) = true›
           refine ruErr_no ?_; unfold okRu okSpan; simp; intros; omega)
        | (have hz : td < 4096 := by simpa using ‹(!decide (td < 4096)) = false›
           refine ruErr_yes ?_; unfold okRu okSpan; simp; omega)
        | (refine ruErr_yes ?_; unfold okRu okSpan; simp; omega)
        | (exfalso; have hz := ‹(!b == 0) = false›; simp at hz; exact absurd hz ‹¬b = 0›)
  · have hpc := fun W => part_c a W
    rw [hp] at hpc
    have HP := hide hpc
    have HPP := hide hp
    clear hpc hp
    go_enter Try.func64, Try.ntmps64
    go_wp2_with (first | (go_at_call 63; refine (HP.out _).mono ?_; rintro e w' ⟨rfl, rfl⟩) | (go_at_call 69; refine (ranged_v _ _ _ _ _ true (by simp) _).mono ?_; rintro e w1 ⟨rfl, hb1⟩; have hB := (Blk.new w _ _).keep hb1; have z1 := hB.cell 1; have z2 := hB.cell 2; simp only [List.getElem?_toArray, List.getElem?_cons_zero, List.getElem?_cons_succ] at z1 z2))
    all_goals
      go_ret
      have hq := part_true HPP.out
      refine ⟨ret_ru ?_, by first | exact below_alloc _ _ | exact below_on (below_alloc _ _) hb1⟩
      first
        | (refine ruErr_no ?_; unfold okRu okSpan; simp; intros; omega)
        | (have hz : ¬ td < 4096 := by simpa using ‹(!decide (td < 4096)) = true›
           refine ruErr_no ?_; unfold okRu okSpan; simp; intros; omega)
        | (have hz : td < 4096 := by simpa using ‹(!decide (td < 4096)) = false›
           refine ruErr_yes ?_; unfold okRu okSpan; simp; omega)
        | (refine ruErr_yes ?_; unfold okRu okSpan; simp; omega)
        | (exfalso; have hz := ‹(!b == 0) = false›; simp at hz; exact absurd hz ‹¬b = 0›)

set_option maxRecDepth 100000 in
set_option maxHeartbeats 3200000 in
theorem checkRule_7 (fr td a b : Int) (w : World) : Calls Try.prog 64 #[.agg #[.int .i64 7, .int .i64 fr, .int .i64 td, .int .i64 a, .int .i64 b]] w fun e w' => e = .returned (.int .i64 (ruErr ⟨7, fr, td, a, b⟩)) ∧ Below w.heap.size w w' := by
  go_enter Try.func64, Try.ntmps64
  go_wp2_with ((go_at_call 69; refine (ranged_v _ _ _ _ _ true (by simp) _).mono ?_; rintro e w1 ⟨rfl, hb1⟩; have hB := (Blk.new w _ _).keep hb1; have z1 := hB.cell 1; have z2 := hB.cell 2; simp only [List.getElem?_toArray, List.getElem?_cons_zero, List.getElem?_cons_succ] at z1 z2))
  all_goals
    go_ret
    refine ⟨ret_ru ?_, by first | exact below_alloc _ _ | exact below_on (below_alloc _ _) hb1⟩
    first
      | (refine ruErr_no ?_; unfold okRu okSpan; simp; intros; omega)
      | (have hz : ¬ td < 4096 := by simpa using ‹(!decide (td < 4096)) = true›
         refine ruErr_no ?_; unfold okRu okSpan; simp; intros; omega)
      | (have hz : td < 4096 := by simpa using ‹(!decide (td < 4096)) = false›
         refine ruErr_yes ?_; unfold okRu okSpan; simp; omega)
      | (refine ruErr_yes ?_; unfold okRu okSpan; simp; omega)
      | (exfalso; have hz := ‹(!b == 0) = false›; simp at hz; exact absurd hz ‹¬b = 0›)

set_option maxRecDepth 100000 in
set_option maxHeartbeats 3200000 in
theorem checkRule_n (k : Int) (h1 : ¬ k = 1) (h2 : ¬ k = 2) (h3 : ¬ k = 3) (h4 : ¬ k = 4) (h5 : ¬ k = 5) (h6 : ¬ k = 6) (h7 : ¬ k = 7) (fr td a b : Int) (w : World) : Calls Try.prog 64 #[.agg #[.int .i64 k, .int .i64 fr, .int .i64 td, .int .i64 a, .int .i64 b]] w fun e w' => e = .returned (.int .i64 (ruErr ⟨k, fr, td, a, b⟩)) ∧ Below w.heap.size w w' := by
  have HN := hide (show okRu ⟨k, fr, td, a, b⟩ = false by unfold okRu; simp only; rw [if_neg (by omega), if_neg h3, if_neg (by omega), if_neg h5, if_neg h7])
  go_enter Try.func64, Try.ntmps64
  go_wp2
  go_ret
  exact ⟨ret_ru (ruErr_no HN.out), below_alloc _ _⟩

theorem checkRule_c (r : Ru) (w : World) : Calls Try.prog 64 #[.agg #[.int .i64 r.k, .int .i64 r.fr, .int .i64 r.to, .int .i64 r.a, .int .i64 r.b]] w fun e w' => e = .returned (.int .i64 (ruErr r)) ∧ Below w.heap.size w w' := by
  obtain ⟨k, fr, td, a, b⟩ := r
  by_cases h1 : k = 1
  · subst h1; exact checkRule_1 fr td a b w
  by_cases h2 : k = 2
  · subst h2; exact checkRule_2 fr td a b w
  by_cases h3 : k = 3
  · subst h3; exact checkRule_3 fr td a b w
  by_cases h4 : k = 4
  · subst h4; exact checkRule_4 fr td a b w
  by_cases h5 : k = 5
  · subst h5; exact checkRule_5 fr td a b w
  by_cases h6 : k = 6
  · subst h6; exact checkRule_6 fr td a b w
  by_cases h7 : k = 7
  · subst h7; exact checkRule_7 fr td a b w
  exact checkRule_n k h1 h2 h3 h4 h5 h6 h7 fr td a b w
end Go.Proofs.Ytchhkokpjdkkiaa
