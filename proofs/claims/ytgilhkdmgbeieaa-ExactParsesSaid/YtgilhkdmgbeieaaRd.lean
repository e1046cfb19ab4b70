/- The contract of the reference's divide. -/
import Derived.Test.YtgilhkdmgbeieaaRc
import Derived.Test.YtgilhkdmgbeieaaBaseC
import Derived.Test.YtgilhkdmgbeieaaMathS
import Derived.Deep.RegionHeld3
namespace Go.Proofs.Ytgilhkdmgbeieaa
open Go.RowKit

theorem info_row : (Try.prog.info? 82).map (fun i => (i.zero, i.size, i.bytes)) = some (some (.slice none 0 0), 1, 24) := by kernel_rfl

theorem digs_one (x : Nat) (h : x < 256) : Digs 256 [x] := fun y hy => by simp at hy; omega
theorem Num.len_pos {l : List Nat} {b Y : Nat} (h : Num b l Y) (hY : 0 < Y) : 0 < l.length := by
  rcases Nat.eq_zero_or_pos l.length with h0 | h0
  · have := List.eq_nil_of_length_eq_zero h0
    subst this
    have := h.val_
    simp [val] at this
    omega
  · exact h0

theorem slice_eq {b b' o o' n n' c c' : Nat} (h1 : b = b') (h2 : o = o') (h3 : n = n') (h4 : c = c') : Value.slice (some ⟨b, o, none⟩) n c = .slice (some ⟨b', o', none⟩) n' c' := by
  subst h1 h2 h3 h4; rfl
theorem num_len8 {l lb : List Nat} {R Y m : Nat} (h : Num 256 l R) (hb : Num 256 lb Y) (hR : R < Y * 2 ^ m) (hm : m ≤ 8) : l.length ≤ lb.length + 1 := by
  refine (h.length_le (by omega) _).2 ?_
  have h1 := hb.lt
  have h2 : (2 : Nat) ^ m ≤ 2 ^ 8 := Nat.pow_le_pow_right (by omega) hm
  rw [Nat.pow_succ]
  calc R < Y * 2 ^ m := hR
    _ ≤ Y * 256 := Nat.mul_le_mul_left _ h2
    _ ≤ 256 ^ lb.length * 256 := Nat.mul_le_mul_right _ (Nat.le_of_lt h1)
theorem num_len_le {l m : List Nat} {x y : Nat} (hl : Num 256 l x) (hm : Num 256 m y) (h : x ≤ y) : l.length ≤ m.length := by
  refine (hl.length_le (by omega) _).2 ?_
  have := hm.lt
  omega
theorem num_len {l lb : List Nat} {R Y : Nat} (h : Num 256 l R) (hb : Num 256 lb Y) (hR : R < Y) : l.length ≤ lb.length := by
  refine (h.length_le (by omega) _).2 ?_
  have := hb.lt
  omega
theorem set_self {l : List Nat} {i x : Nat} (h : l.getD i 0 = x) : l.set i x = l := by
  rcases Nat.lt_or_ge i l.length with hi | hi
  · have : l[i] = x := by rw [← h]; simp [hi]
    rw [← this]; exact List.set_getElem_self hi
  · exact List.set_eq_of_length_le hi
/-- What divide returns. -/
def DivR (w : World) (Q R : Nat) (e : Ending) (w' : World) : Prop :=
  ∃ A n c l A' n' c' l', e = .returned (.tuple #[.slice A n c, .slice A' n' c']) ∧ Sl w' w'.heap.size .i64 A n c l ∧ Sl w' w'.heap.size .i64 A' n' c' l' ∧ Num 256 l Q ∧ Num 256 l' R ∧
    Below w.heap.size w w' ∧ (∀ g, A.map (·.block) = some g → w.heap.size ≤ g)

set_option maxRecDepth 100000 in
set_option maxHeartbeats 3200000 in
theorem rdivide_c (A : Option Addr) (na ca : Nat) (la : List Nat) (A' : Option Addr) (nb cb : Nat) (lb : List Nat) (X Y : Nat) (w : World) (B : Nat) (ha : Sl w B .i64 A na ca la) (hb : Sl w B .i64 A' nb cb lb)
    (hB : B ≤ w.heap.size) (hda : Num 256 la X) (hdb : Num 256 lb Y) (hY : 0 < Y) (hna : na ≤ 1073741823) :
    Calls Try.prog 120 #[.slice A na ca, .slice A' nb cb] w (DivR w (X / Y) (X % Y)) := by
  have hcap := ha.cap
  have hmax := ha.max
  have hcb := hb.cap
  have hmb := hb.max
  go_enter Try.func120, Try.ntmps120
  by_cases hlt : na < nb
  · have hXY : X < Y := hda.lt_of_length hdb (by omega) (by rw [ha.len, hb.len]; exact hlt)
    go_wp2
    go_ret2
    rw [Nat.div_eq_of_lt hXY, Nat.mod_eq_of_lt hXY]
    exact ⟨_, _, _, _, _, _, _, _, rfl, Sl.nil _ _ _ _ _ (by omega), ha.mono hB, Num.nil _, hda, Below.refl _ _, fun g hg => by cases hg⟩
  · have hnb : 0 < nb := by rw [← hb.len]; exact hdb.len_pos hY
    go_wp2
    have hone := OwnV.one1 w 82 (.slice A' nb cb) rfl
    have hnum : Nums (w.alloc (.cells #[.slice A' nb cb] 82)) (some w.heap.size) [.slice A' nb cb] (fun j => Y * 2 ^ j) := fun j hj => by
      obtain rfl : j = 0 := by simp at hj; omega
      have hbb := (Below.refl w.heap.size w).alloc (Nat.le_refl _) (.cells #[.slice A' nb cb] 82)
      exact ⟨A', nb, cb, lb, rfl, ((hb.mono hB).below hbb).mono hbb.size, by simpa using hdb, fun hn g hg => by have := hb.pos hn g hg; simp; omega⟩
    have hbel := (Below.refl w.heap.size w).alloc (Nat.le_refl _) (.cells #[.slice A' nb cb] 82)
    go_loopw [6, 7] (fun dv kv wr => ∃ (k : Nat) (D : Option Addr) (cd : Nat) (vs : List Value), 1 ≤ k ∧ k ≤ 8 ∧ kv = .int .i64 k ∧ dv = .slice D k cd ∧ OwnV wr w.heap.size 82 D k cd vs ∧
        Nums wr (D.map (·.block)) vs (fun j => Y * 2 ^ j) ∧ Below w.heap.size w wr)
      (fun _ kv _ => 8 - (intOf kv).toNat)
    case atStart => exact ⟨1, _, 1, _, by omega, by omega, rfl, rfl, hone, hnum, hbel⟩
    case round =>
      obtain ⟨k, D, cd, vs, hk1, hk, rfl, rfl, ho, hN, hbw⟩ := hrel
      by_cases hgo : k < 8
      · obtain ⟨j, rfl⟩ : ∃ j, k = j + 1 := ⟨k - 1, by omega⟩
        obtain ⟨Ad, nd, cdd, ld, hv, hs, hn⟩ := hN.at_ (j := j) (by rw [ho.len]; omega)
        obtain ⟨g, rfl, hg, hcell⟩ := ho.cell hv
        have hnd : nd ≤ nb + 1 := by
          rw [← hs.len]
          refine (hn.length_le (by omega) (nb + 1)).2 ?_
          have h1 := hdb.lt
          rw [hb.len] at h1
          have h2 : 2 ^ j < 256 := Nat.lt_of_lt_of_le (Nat.pow_lt_pow_right (a := 2) (by omega) (show j < 8 by omega)) (Nat.le_refl _)
          calc Y * 2 ^ j < 256 ^ nb * 256 := Nat.mul_lt_mul'' h1 h2
            _ = 256 ^ (nb + 1) := (Nat.pow_succ _ _).symm
        have hadd : Calls Try.prog 88 #[.slice Ad nd cdd, .slice Ad nd cdd] wr.drew (DigV wr.drew (Y * 2 ^ (j + 1))) := by
          have := radd_c Ad nd cdd ld Ad nd cdd ld wr.drew wr.heap.size hs.drew hs.drew (Nat.le_refl _) hn.dig hn.dig (by omega) (by omega)
          rwa [hn.val_, ← Nat.mul_two, Nat.mul_assoc, ← Nat.pow_succ] at this
        have hod := ho.drew
        have hwz := hbw.size
        have hj0 : (0 : Int) ≤ (j : Int) := by omega
        have hj1 : (j : Int) < (j : Int) + 1 := by omega
        have hj3 : IntKind.i64.wrap (j : Int) = (j : Int) := by simp [IntKind.wrap, IntKind.bits, IntKind.signed]; omega
        have hj2 : IntKind.i64.wrap ((j : Int) + 1 - 1) = (j : Int) := by rw [Int.add_sub_cancel]; exact hj3
        go_wp2_with fail
        rw [show ((j + 1 : Nat) : Int) = (j : Int) + 1 from rfl]
        go_region_held3 (fun w' => w'.cell? ⟨g, j, none⟩ = some (.slice Ad nd cdd))
          (first | exact hcell | exact cell_keep hbz hg (by assumption) | exact (hk3 g j rfl (by omega)).trans (by assumption) | exact cell_keep ((Below.refl _ _).alloc (Nat.le_refl _) _) (Nat.lt_of_lt_of_le hg hbz.size) (by assumption))
          (first
            | (go_at_call 88; refine hadd.mono ?_; rintro e wz ⟨Az, nz, cz, lz, rfl, sz, tz, hbz, hfz⟩)
            | (refine step_appendV _ rfl (.tmp 25) (.tmp 37) 84 rfl w.heap.size 82 (.slice none 0 0) rfl 24 Try.underlying84 info_row (by omega) _ _ cd vs (by rfl) ((hod.below hbz (Nat.le_refl _)).alloc _) ⟨wz.heap.size, 0, none⟩ 1 (.slice Az nz cz) (by rfl) (by simp) rfl (by omega) (by simp; have := hbz.size; simp at this; omega) ?_; intro A3 c3 w3 ho3 hg3 hA3 hk3))
        go_wp2
        go_roundw
        case rel =>
          have hz := hbz.size
          have hz' : wr.heap.size ≤ wz.heap.size := hz
          have hal := (Below.refl wz.heap.size wz).alloc (Nat.le_refl _) (.cells #[.slice Az nz cz] 82)
          have hN2 := ((hN.drewN 1).below hbz (Nat.le_refl _)).below hal (Nat.le_refl _)
          have hN3 := Nums.push (A := some ⟨g, 0, none⟩) hN2 ((sz.below hal).mono hal.size) (by rw [ho.len]; exact tz) (fun _ h hh => by have h1 := hfz h hh; have h2 : wr.heap.size ≤ h := h1; simp; omega) hg3 hA3
          have hb4 : Below w.heap.size w wr.drew := below_drewN hbw 1
          exact ⟨j + 2, A3, c3, _, by omega, by omega, rfl, rfl, ho3, hN3, ((hb4.trans (hbz.mono hwz)).alloc (by omega) _).grown hg3 (by simp; omega) (fun k hk => by injection hk with hk; have := ho.lt (g := g) rfl; simp at hk; omega)⟩
        case measure => simp [intOf] <;> omega
      · obtain rfl : k = 8 := by omega
        obtain ⟨wD, rfl⟩ : ∃ wD : World, wD = wr := ⟨_, rfl⟩
        obtain ⟨s, hs⟩ : ∃ s, na + 1 = nb + s := ⟨na + 1 - nb, by omega⟩
        have hsi : ((na : Int) - (nb : Int) + 1).toNat = s := by omega
        obtain ⟨b0, o0, rfl, hb0, _⟩ := ha.at_ (by omega)
        have hz := hbw.size
        have ha1 := ha.below (hbw.mono hB)
        obtain ⟨o1, c1, hsl, hcase⟩ : ∃ o1 c1, Sl wD B .i64 (some ⟨b0, o1, none⟩) (na - s) c1 (la.drop s) ∧ ((s < ca ∧ o1 = o0 + s ∧ c1 = ca - s) ∨ (ca = s ∧ o1 = o0 ∧ c1 = 0)) := by
          have h1 := ha1.drop (i := s) (by omega)
          rcases Nat.lt_or_ge s ca with h | h
          · exact ⟨_, _, h1, .inl ⟨h, rfl, rfl⟩⟩
          · exact ⟨o0, 0, ⟨h1.len, by omega, by omega, fun hn => by omega⟩, .inr ⟨by omega, rfl, rfl⟩⟩
        have hRlt : val 256 (la.drop s) < Y := by
          have h1 := val_lt (b := 256) (l := la.drop s) (fun x hx => hda.dig x (List.mem_of_mem_drop hx))
          rw [hsl.len] at h1
          have h2 := hdb.pos (i := na - s) (by rw [hb.len]; omega) (by omega)
          omega
        have hdd : Digs 256 (la.drop s) := fun x hx => hda.dig x (List.mem_of_mem_drop hx)
        rcases hcase with ⟨hsc, ho1, hc1⟩ | ⟨hsc, ho1, hc1⟩
        all_goals
          go_wp2_with (first
            | (at_make; refine wl_make _ rfl _ _ _ rfl 3 .i64 8 Try.underlying82 info_int (by omega) _ _ na rfl rfl (by omega) (by omega) (by omega) ?_; intro w1 hown hgr hsz)
            | (at_builtin; refine wl_append _ rfl (.tmp 48) (.tmp 51) _ rfl w1.heap.size 3 .i64 8 Try.underlying82 info_int (by omega) (some ⟨w1.heap.size, 0, none⟩) 0 0 [] (by rfl) (Own.empty _ _ _) (some ⟨b0, o1, none⟩) (na - s) c1 (la.drop s) (slice_eq rfl (by omega) (by omega) (by omega)) B (((hsl.below ((Below.refl _ _).grown hgr (by omega) (fun k hk => by cases hk))).below ((Below.refl _ _).alloc (by omega) _))) (by omega) (by simp) ?_; intro A3 c3 w3 o3 hg3 hA3; rw [Nat.zero_add, List.nil_append] at o3)
            | fail)
          refine (rtrim_n _ _ _ _ _ _ o3.sl hdd).mono ?_
          rintro e w' ⟨m, hm, rfl, ta, rfl⟩
          clear hsc ho1 hc1 hsl
          have hb1 : Below wD.heap.size wD w3 := (((Below.refl _ _).grown hgr (Nat.le_refl _) (fun k hk => by cases hk)).alloc (Nat.le_of_lt hsz) (.cells #[] 3)).grown hg3 (by simp; omega) (fun k hk => by simp at hk; omega)
          have hown3 := (hown.alloc (.cells #[] 3)).grown hg3 (fun g e => by injection e with e; injection e with e; subst e; simp; omega)
          have hs3 : Sl w3 w3.heap.size .i64 A3 m c3 ((la.drop s).take m) := (o3.take hm).sl
          have hf3 : ∀ g, A3.map (·.block) = some g → wD.heap.size < g := fun g hg => by have := (o3.block g hg).1; omega
          clear hgr hg3 hA3 hown o3 hm
          go_wp2
          go_loopw [10, 11] (fun rv iv wr2 => ∃ (k R : Nat) (Ar : Option Addr) (nr cr : Nat) (lr lo : List Nat), k ≤ s ∧ iv = .int .i64 ((k : Int) - 1) ∧ rv = .slice Ar nr cr ∧ Sl wr2 wr2.heap.size .i64 Ar nr cr lr ∧ Num 256 lr R ∧
              (∀ g, Ar.map (·.block) = some g → wD.heap.size < g) ∧ Own wr2 wD.heap.size 3 .i64 (some ⟨wD.heap.size, 0, none⟩) na na lo ∧ Digs 256 lo ∧ DivJ la Y k lo R ∧ Below wD.heap.size wD wr2)
            (fun _ iv _ => (intOf iv + 1).toNat)
          case atStart => exact ⟨s, _, _, _, _, _, _, Nat.le_refl _, congrArg (Value.int .i64) (by omega), rfl, hs3, ta, hf3, hown3, Digs.replicate (by omega) _, DivJ.first hRlt, hb1⟩
          case round =>
            obtain ⟨k, R, Ar, nr, cr, lr, lo, hk, rfl, rfl, hr, hnr, hfr, hoo, hdo, hI, hb2⟩ := hrel
            obtain ⟨w2, rfl⟩ : ∃ w2 : World, w2 = wr := ⟨_, rfl⟩
            have hz2 := hb2.size
            have hlenr := num_len hnr hdb hI.lt
            rw [hr.len, hb.len] at hlenr
            by_cases h0 : 0 < k
            · obtain ⟨i, rfl⟩ : ∃ i, k = i + 1 := ⟨k - 1, by omega⟩
              obtain ⟨b1, o1', x, hA1, hb1', hx, hxm, hcx⟩ := ((ha1.below (hb2.mono (by omega))).cell (i := i) (by omega))
              injection hA1 with hA1; injection hA1 with hA1 hA2; subst hA1 hA2
              have hx1 := hda.dig x hxm
              have HX := hide hx
              clear hx
              rw [show ((i + 1 : Nat) : Int) - 1 = (i : Int) from by omega]
              go_wp2_with (first
                | (at_builtin; refine wl_append _ rfl (.tmp 64) (.tmp 65) _ rfl w2.heap.size 3 .i64 8 Try.underlying82 info_int (by omega) (some ⟨w2.heap.size, 0, none⟩) 1 1 [x] (by rfl) (Own.one1 _ _ _ x rfl) Ar nr cr lr (by rfl) w2.heap.size (hr.below ((Below.refl _ _).alloc (Nat.le_refl _) _)) (by omega) (by simp) ?_; intro A4 c4 w4 o4 hg4 hA4)
                | fail)
              refine (rtrim_n _ _ _ _ _ _ o4.sl ((Digs.one hx1).append hnr.dig)).mono ?_
              rintro e w' ⟨m4, hm4, rfl, ta4, rfl⟩
              have hb4 : Below wD.heap.size wD w4 := (hb2.alloc hz2 (.cells #[.int .i64 x] 3)).grown hg4 (by simp; omega) (fun k hk => by cases hk; omega)
              have hoo4 := (hoo.alloc (.cells #[.int .i64 x] 3)).grown hg4 (fun g e => by injection e with e; injection e with e; subst e; have := (hoo.lt rfl).2; simp; omega)
              have hs4 := (o4.take hm4).sl
              have hf4 : ∀ g, A4.map (·.block) = some g → wD.heap.size < g := fun g hg => by have := (o4.block g hg).1; have := (hoo.lt rfl).2; omega
              clear hg4 hA4 o4 hcx
              rw [show val 256 ([x] ++ lr) = 256 * R + x by rw [List.singleton_append]; show x + 256 * val 256 lr = _; rw [hnr.val_]; omega] at ta4
              have hB0 : DivB (256 * R + x) Y 8 0 (256 * R + x) := DivB.start (by have := hI.lt; omega)
              clear hr hnr hfr hlenr
              go_wp2
              go_loopw [10, 12] (fun rv jv wr3 => ∃ (m q R' : Nat) (Ar : Option Addr) (nr cr : Nat) (lr : List Nat), jv = .int .i64 ((m : Int) - 1) ∧ rv = .slice Ar nr cr ∧ Sl wr3 wr3.heap.size .i64 Ar nr cr lr ∧ Num 256 lr R' ∧
                  (∀ g, Ar.map (·.block) = some g → wD.heap.size < g) ∧ Own wr3 wD.heap.size 3 .i64 (some ⟨wD.heap.size, 0, none⟩) na na (lo.set i q) ∧ DivB (256 * R + x) Y m q R' ∧ Below wD.heap.size wD wr3)
                (fun _ jv _ => (intOf jv + 1).toNat)
              case atStart => exact ⟨8, 0, _, _, _, _, _, rfl, rfl, hs4, ta4, hf4, (by have := hI.zero i (by omega); rw [set_self this]; exact hoo4), hB0, hb4⟩
              case round =>
                obtain ⟨m, q, R', Ar, nr, cr, lr, rfl, rfl, hr, hnr, hfr, hoo, hJ, hb3⟩ := hrel
                have hz3 := hb3.size
                have hq := hJ.q_lt
                have hlenr := num_len8 hnr hdb hJ.lt hJ.le
                rw [hr.len, hb.len] at hlenr
                by_cases h0 : 0 < m
                · obtain ⟨j, rfl⟩ : ∃ j, m = j + 1 := ⟨m - 1, by omega⟩
                  rw [show ((j + 1 : Nat) : Int) - 1 = (j : Int) from by omega]
                  have hj8 : j < 8 := by have := hJ.le; omega
                  obtain ⟨Ad, nd, cdd, ld, hv, hs, hn⟩ := hN.at_ (j := j) (by rw [ho.len]; exact hj8)
                  obtain ⟨g, rfl, hg, hcell⟩ := ho.cell hv
                  have hil : i < lo.length := by have := hoo.len; rw [List.length_set] at this; omega
                  obtain ⟨z, hz1, hzm, hcz⟩ := hoo.cell (show i < na by omega)
                  obtain rfl : z = q := by rw [← hz1]; simp [hil]
                  have hfz := hoo.frozen i
                  have hcell3 : wr.cell? ⟨g, j, none⟩ = some (.slice Ad nd cdd) := cell_keep hb3 hg hcell
                  have hs3' := (hs.below hb3).mono hz3
                  clear hz1 hzm hv
                  go_wp2_with fail
                  have hb5 : Below wD.heap.size wD (wr.setCell ⟨wD.heap.size, i, none⟩ (.int .i64 (2 * (z : Int)))) := hb3.setCell (Nat.le_refl _) _
                  have hoo5 := hoo.store i (2 * z) (v := .int .i64 (2 * (z : Int))) rfl
                  rw [List.set_set] at hoo5
                  have hr5 := hr.far (p := ⟨wD.heap.size, i, none⟩) (fun _ g hg => by have := hfr g hg; show g ≠ wD.heap.size; omega) (.int .i64 (2 * (z : Int)))
                  have hz5 : wr.heap.size = (wr.setCell ⟨wD.heap.size, i, none⟩ (.int .i64 (2 * (z : Int)))).heap.size := by simp [World.setCell]
                  rw [hz5] at hr5
                  generalize wr.setCell ⟨wD.heap.size, i, none⟩ (.int .i64 (2 * (z : Int))) = w5 at *
                  have hs5 := (hs.below hb5).mono hb5.size
                  have hcell5 : w5.cell? ⟨g, j, none⟩ = some (.slice Ad nd cdd) := cell_keep hb5 hg hcell
                  clear hoo hb3 hr hcell3 hs3' hcz hfz hs
                  refine (rcompare_c _ _ _ _ _ _ _ _ R' (Y * 2 ^ j) w5 _ hr5 hs5 hnr hn).mono ?_
                  rintro e w' ⟨rfl, nq, rfl⟩
                  have hndl := num_len8 (R := Y * 2 ^ j) hn hdb (Nat.mul_lt_mul_of_pos_left (Nat.pow_lt_pow_right (by omega) (Nat.lt_succ_self j)) hY) (by omega)
                  rw [hs5.len, hb.len] at hndl
                  by_cases hge : Y * 2 ^ j ≤ R'
                  · have hge' := ordI_nonneg hge
                    have hnn : nd ≤ nr := by
                      rw [← hs5.len, ← hr5.len]
                      exact num_len_le hn hnr hge
                    have hsub := rsub_c _ _ _ _ _ _ _ _ (w5.drewN nq) _ (hr5.drewN nq) (hs5.drewN nq) (Nat.le_refl _) hnr.dig hn.dig (by omega) hnn (by rw [hnr.val_, hn.val_]; exact hge)
                    rw [hnr.val_, hn.val_] at hsub
                    have hJ2 := hide (hJ.yes hge)
                    have HGE := hide hge
                    clear hJ hge
                    go_wp2_with fail
                    refine hsub.mono ?_
                    rintro e w6 ⟨A6, n6, c6, l6, rfl, s6, t6, hb6, hf6⟩
                    have hb6' : Below w5.heap.size w5 w6 := ⟨hb6.os, hb6.tape, hb6.output, hb6.size, hb6.block⟩
                    have hoo6 := hoo5.below hb6' (Nat.le_refl _)
                    have hbw6 := hb5.trans (hb6'.mono hb5.size)
                    have hzz := (hoo5.lt rfl).2
                    have hf6' : ∀ g, A6.map (·.block) = some g → wD.heap.size < g := fun g hg => by have h1 : w5.heap.size ≤ g := hf6 g hg; omega
                    obtain ⟨z6, hz6, _, hcz6⟩ := hoo6.cell (show i < na by omega)
                    obtain rfl : z6 = 2 * z := by rw [← hz6]; simp [hil]
                    have hfz6 := hoo6.frozen i
                    clear hz6 hsub hb6 hb6' hf6 hoo5 hr5 hs5 hcell5
                    go_wp2
                    go_roundw
                    case rel =>
                      have hoo7 := hoo6.store i (2 * z + 1) (v := .int .i64 (((2 * z : Nat) : Int) + 1)) rfl
                      rw [List.set_set] at hoo7
                      exact ⟨j, 2 * z + 1, _, A6, n6, c6, l6, rfl, rfl, (by have := s6.far (p := ⟨wD.heap.size, i, none⟩) (fun _ g hg => by have := hf6' g hg; show g ≠ wD.heap.size; omega) (.int .i64 (((2 * z : Nat) : Int) + 1)); simpa [World.setCell] using this), t6, hf6', hoo7, hJ2.out, hbw6.setCell (Nat.le_refl _) _⟩
                    case measure => simp [intOf] <;> omega
                  · have hge' := ordI_neg (Nat.lt_of_not_le hge)
                    have hJ2 := hide (hJ.no (Nat.lt_of_not_le hge))
                    clear hJ hge
                    go_wp2
                    go_roundw
                    case rel => exact ⟨j, 2 * z, R', Ar, nr, cr, lr, rfl, rfl, hr5.drewN _, hnr, hfr, hoo5.drewN _, hJ2.out, below_drewN hb5 _⟩
                    case measure => simp [intOf] <;> omega
                · obtain rfl : m = 0 := by omega
                  have hil : i < lo.length := by have := hoo.len; rw [List.length_set] at this; omega
                  have hT := hJ.eq
                  have hR := hJ.lt
                  rw [Nat.pow_zero, Nat.mul_one] at hT hR
                  have hI2 := hide (hI.step hil HX.out hT hR)
                  clear hT hI hJ hN ho
                  go_wp2
                  go_roundw
                  case rel => exact ⟨i, R', Ar, nr, cr, lr, _, by omega, rfl, rfl, hr, hnr, hfr, hoo, hdo.set _ _ hq, hI2.out, hb3⟩
                  case measure => simp [intOf] <;> omega
            · obtain rfl : k = 0 := by omega
              obtain ⟨h1, h2⟩ := hI.done
              rw [hda.val_] at h1 h2
              clear hI hN ho
              go_wp2_with (go_at_call 82; refine (rtrim_n _ _ _ _ _ _ hoo.sl hdo).mono ?_; rintro e w' ⟨m, hm, rfl, ta, rfl⟩)
              go_ret2
              rw [h1] at ta
              rw [h2] at hnr
              have hbw2 := hbw.trans (hb2.mono hz)
              exact ⟨_, _, _, _, _, _, _, _, rfl, (hoo.take hm).sl, hr, ta, hnr, hbw2, fun g hg => by injection hg with hg; subst hg; exact hz⟩
end Go.Proofs.Ytgilhkdmgbeieaa
