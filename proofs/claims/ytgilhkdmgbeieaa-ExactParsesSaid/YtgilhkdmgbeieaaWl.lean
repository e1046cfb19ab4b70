/- Contracts of exact's short and write. -/
import Derived.Test.YtgilhkdmgbeieaaWk
import Derived.Test.YtgilhkdmgbeieaaMathE
import Derived.Laws.BytesArg
namespace Go.Proofs.Ytgilhkdmgbeieaa
open Go.RowKit

theorem u64_join32 (r x : Nat) (hr : r < 10) (hx : x < 4294967296) : bits .or .u64 ((r : Int) * 4294967296) (x : Int) = ((r * 4294967296 + x : Nat) : Int) := by
  have := u64_or_nat (r * 4294967296) x (by omega) (by omega)
  rw [nat_join 32 _ _ (by omega) (by omega)] at this
  rw [← this]
  rfl

set_option maxHeartbeats 800000 in
theorem short_c (g n c : Nat) (l : List Nat) (w : World) (base : Nat) (h : Own w base 58 .u32 (some ⟨g, 0, none⟩) n c l) (hd : Digs 4294967296 l) (hn : n ≤ 1099511627776) :
    Calls Try.prog 122 #[.slice (some ⟨g, 0, none⟩) n c] w fun e w' => ∃ m lo, e = .returned (.tuple #[.slice (some ⟨g, 0, none⟩) m c, .int .u8 (val 4294967296 l % 10 : Nat)]) ∧ m ≤ n ∧
      Own w' base 58 .u32 (some ⟨g, 0, none⟩) m c lo ∧ Num 4294967296 lo (val 4294967296 l / 10) ∧ w.grownBy w' (some g) := by
  obtain ⟨V, hV⟩ : ∃ V, val 4294967296 l = V := ⟨_, rfl⟩
  rw [hV]
  have HV := hide hV
  have hl0 := h.len
  have HL0 := hide hl0
  clear hV hl0
  go_enter Try.func122, Try.ntmps122
  go_wp2
  go_loopw [4, 5] (fun rv iv wr => ∃ (k rest : Nat) (lo : List Nat), k ≤ n ∧ iv = .int .i64 ((k : Int) - 1) ∧ rv = .int .u64 rest ∧ rest < 10 ∧
      Own wr base 58 .u32 (some ⟨g, 0, none⟩) n c lo ∧ Digs 4294967296 lo ∧ ShortI 4294967296 l lo k rest ∧ w.grownBy wr (some g))
    (fun _ iv _ => (intOf iv + 1).toNat)
  case atStart => exact ⟨n, 0, l, Nat.le_refl _, rfl, rfl, by omega, h, hd, ShortI.start _ _ _ HL0.out, World.grownBy.refl _ _⟩
  case round =>
    obtain ⟨k, rest, lo, hk, rfl, rfl, hr, ho, hdo, hI, hgr⟩ := hrel
    by_cases h0 : 0 < k
    · obtain ⟨j, rfl⟩ : ∃ j, k = j + 1 := ⟨k - 1, by omega⟩
      rw [show ((j + 1 : Nat) : Int) - 1 = (j : Int) from by omega]
      obtain ⟨x, hx, hxm, hcx⟩ := ho.cell (show j < n by omega)
      have hx1 := hdo x hxm
      have hfz := ho.frozen j
      have HX : Hid (l.getD j 0 = x) := by
        have := congrArg (fun m : List Nat => m.getD j 0) hI.1
        simp at this
        show l.getD j 0 = x
        rw [← hx, List.getD_eq_getElem?_getD, List.getD_eq_getElem?_getD, this]
      clear hx
      obtain ⟨t, hor, HT, ht⟩ : ∃ t : Nat, bits .or .u64 ((rest : Int) * 4294967296) (x : Int) = (t : Int) ∧ Hid (t = rest * 4294967296 + x) ∧ t < 42949672960 := ⟨_, u64_join32 rest x hr hx1, rfl, by omega⟩
      go_wp2
      go_roundw
      case rel =>
        exact ⟨j, t % 10, lo.set j (t / 10), by omega, rfl, by go_num, by omega, ho.store j (t / 10) (by go_num), hdo.set _ _ (by omega), hI.step (by rw [ho.len]; omega) (by rw [HL0.out]; omega) HX.out HT.out, hgr.trans (grownBy_setCell _ _ _ _)⟩
      case measure => simp [intOf] <;> omega
    · obtain rfl : k = 0 := by omega
      go_wp2_with (go_at_call 85; refine (trim_n _ _ _ _ _ _ ho.sl hdo).mono ?_; rintro e w' ⟨m, hm, rfl, ta, rfl⟩)
      go_ret2
      obtain ⟨_, e1, e2⟩ := hI
      simp only [List.drop_zero] at e1 e2
      rw [e1, HV.out] at ta
      rw [HV.out] at e2
      exact ⟨_, _, by rw [← e2]; rfl, hm, ho.take hm, ta, hgr⟩

def strN (l : List Nat) : ByteArray := ⟨(l.map UInt8.ofNat).toArray⟩
theorem run_bytes_str {P : Program} {w : World} {B : Nat} {A : Option Addr} {n c : Nat} {l : List Nat} (h : Sl w B .u8 A n c l) {src dst e : TypeId} (hs : P.underlying src = some (.slice e)) (he : P.underlying e = some (.int .u8)) (hd : P.underlying dst = some .string) :
    (convert src dst (.slice A n c)).run P w = .ok (.string (strN l)) w := by
  rcases A with _ | ad
  · have h0 : n = 0 := by
      rcases Nat.eq_zero_or_pos n with h0 | h0
      · exact h0
      · obtain ⟨_, _, h, _⟩ := h.at_ h0; cases h
    subst h0
    rw [List.eq_nil_of_length_eq_zero h.len, run_convert_bytes_nil w src e hs he 0 c dst hd]
    rfl
  · rcases Nat.eq_zero_or_pos n with h0 | h0
    · subst h0
      rw [run_convert_bytes_string w src dst e _ 0 c hs he hd, run_bytesToString w ad 0 c [] (by simpa using run_loadCells_list (P := P) w ad [] (by simp)), List.eq_nil_of_length_eq_zero h.len]
      rfl
    · obtain ⟨b, off, e1, _, hc⟩ := h.at_ h0
      injection e1 with e1
      subst e1
      rw [run_convert_bytes_arg w src e hs he b off n c (l.map fun x : Nat => (x : Int)) (by simp [h.len]) (fun i hi => by
        rw [hc i hi]
        have : i < l.length := by rw [h.len]; exact hi
        simp [this]) dst hd]
      simp [strOfNums, strN, Function.comp_def]

theorem info_u8 : (Try.prog.info? 5).map (fun i => (i.zero, i.size, i.bytes)) = some (some (.int .u8 0), 1, 1) := by kernel_rfl

set_option maxHeartbeats 1600000 in
theorem write_c (A : Option Addr) (n c : Nat) (l : List Nat) (w : World) (B : Nat) (h : Sl w B .u32 A n c l) (hB : B ≤ w.heap.size) (hd : Digs 4294967296 l) (hn : n ≤ 1048576) :
    Calls Try.prog 95 #[.slice A n c] w fun e w' => e = .returned (.string (strN (textN (val 4294967296 l)))) ∧ Below w.heap.size w w' := by
  obtain ⟨V, hV⟩ : ∃ V, val 4294967296 l = V := ⟨_, rfl⟩
  have hc := clone_c A n c l w B h hB hd (by omega)
  have hVM := val_lt hd
  rw [h.len] at hVM
  rw [hV] at hc hVM ⊢
  have HVM := hide hVM
  clear hV hVM
  go_enter Try.func95, Try.ntmps95
  go_wp2_with fail
  refine hc.mono ?_
  rintro e w1 ⟨g1, n1, c1, l1, rfl, o1, N1, hb1⟩
  clear hc
  have hm1 := o1.sl.max
  have hc1 := o1.sl.cap
  by_cases h0 : n1 = 0
  · subst h0
    go_wp2
    go_ret
    have hV0 := (N1.zero_iff (by omega)).1 o1.len
    subst hV0
    exact ⟨rfl, hb1⟩
  · have hV0 : Hid (V ≠ 0) := fun e => h0 (by have := (N1.zero_iff (by omega)).2 e; rwa [o1.len] at this)
    have h0' : ((n1 : Int) == 0) = false := beq_eq_false_iff_ne.2 (by omega)
    go_wp2
    have hg1 := o1.lt rfl
    go_loopg [0, 3] V (fun X v0 v3 wr => ∃ (na ca : Nat) (la : List Nat) (A : Option Addr) (nb cb : Nat) (lb d : List Nat), v0 = .slice (some ⟨g1, 0, none⟩) na ca ∧ v3 = .slice A nb cb ∧
      Own wr w.heap.size 58 .u32 (some ⟨g1, 0, none⟩) na ca la ∧ Num 4294967296 la X ∧ Own wr w1.heap.size 5 .u8 A nb cb lb ∧ lb = d.map (· + 48) ∧ DecI V X d ∧ X < 4294967296 ^ n ∧ nb ≤ 32 * n ∧ Below w.heap.size w wr ∧ w1.heap.size ≤ wr.heap.size)
    case atStart => exact ⟨n1, c1, l1, none, 0, 0, [], [], rfl, rfl, o1, N1, Own.nil _ _ _ _, rfl, DecI.start V, HVM.out, by omega, hb1, Nat.le_refl _⟩
    case round =>
      obtain ⟨na, ca, la, A, nb, cb, lb, d, rfl, rfl, oa, Na, ob, hlb, hD, hXn, hnb, hbw, hww⟩ := hrel
      obtain ⟨X, rfl⟩ : ∃ X, X = gk := ⟨_, rfl⟩
      have hma := oa.sl.max
      have hca := oa.sl.cap
      have hna : na ≤ n := by
        have := (Na.length_le (by omega) n).2 hXn
        rwa [oa.len] at this
      have HLB := hide hlb
      clear hlb
      by_cases hX : 0 < X
      · have hpa : 0 < na := by
          have := Na.zero_iff (by omega)
          rw [oa.len] at this; omega
        have hk : d.length < 32 * n := ten_len hD.val_ hX HVM.out
        have hnbd : nb ≤ d.length ∧ d.length ≤ nb := by
          have := ob.len
          rw [HLB.out, List.length_map] at this
          omega
        go_wp2_with fail
        have t1 := short_c g1 na ca la wr _ oa Na.dig (by omega)
        rw [Na.val_] at t1
        refine t1.mono ?_
        rintro e w2 ⟨m2, l2, rfl, hm2, o2, N2, hg2⟩
        clear t1
        have ob2 := ob.grown hg2 (fun g h => by have := (ob.lt h).1; simp; omega)
        have hbw2 := hbw.grown hg2 hbw.size (fun k hk => by cases hk; exact hg1.1)
        have hs2 := hg2.size
        clear hg2 oa ob hbw
        have hx10 : X % 10 < 10 := Nat.mod_lt _ (by omega)
        obtain ⟨x, hx⟩ : ∃ x, X % 10 = x := ⟨_, rfl⟩
        rw [hx] at hx10 ⊢
        have HX := hide hx
        clear hx
        go_wp2_with (first
          | (at_builtin; refine wl_append _ rfl (.tmp 20) (.tmp 23) _ rfl w1.heap.size 5 .u8 1 Try.underlying119 info_u8 (by omega) A nb cb lb rfl (ob2.alloc _) (some ⟨w2.heap.size, 0, none⟩) 1 1 [x + 48] rfl (w2.heap.size + 1) (Sl.one w2 _ _ (x + 48) (congrArg (Value.int .u8) (by omega))) (by omega) (by simp; omega) ?_; intro A3 c3 w3 o3 hg3 hA3))
        have o23 := (o2.alloc (.cells #[.int .u8 (48 + (x : Int))] 5)).grown hg3 (fun g h => by
          cases A with
          | none => simp
          | some ad =>
            rcases ob2.form with ⟨h', _⟩ | ⟨g', _, h', hg', _⟩
            · cases h'
            · injection h' with h'
              subst h'
              injection h with h; injection h with h
              simp; omega)
        have hbw3 := (hbw2.alloc hbw2.size (.cells #[.int .u8 (48 + (x : Int))] 5)).grown hg3 (by have := hbw2.size; simp; omega) (fun k hk => by
          cases A with
          | none => cases hk
          | some ad =>
            rcases ob2.form with ⟨h', _⟩ | ⟨g', _, h', hg', _⟩
            · cases h'
            · injection h' with h'
              subst h'
              simp at hk
              omega)
        have hs3 := hg3.size
        simp only [World.size_alloc] at hs3
        clear hg3 ob2 o2 hbw2
        go_wp2
        go_roundg (X / 10)
        case measure => omega
        case rel =>
          have hD2 := hD.step hX
          rw [HX.out] at hD2
          exact ⟨m2, ca, l2, A3, nb + 1, c3, _, d ++ [x], rfl, rfl, o23, N2, o3, by rw [HLB.out]; simp, hD2, by omega, by omega, hbw3, by omega⟩
      · obtain rfl : X = 0 := by omega
        obtain rfl : na = 0 := by have := (Na.zero_iff (by omega)).2 rfl; rwa [oa.len] at this
        have hcb := ob.sl.cap
        have hmb := ob.sl.max
        obtain ⟨wo, rfl⟩ : ∃ wo : World, wo = wr := ⟨_, rfl⟩
        go_wp2_with (first
          | (at_make; refine wl_make _ rfl (.tmp 26) _ _ rfl 5 .u8 1 Try.underlying119 info_u8 (by omega) _ _ nb rfl rfl (by omega) (by omega) (by omega) ?_; intro w5 o5 hg5 hsz5))
        have hbw5 : Below w.heap.size w w5 := hbw.grown hg5 hbw.size (fun k hk => by cases hk)
        have ob5 := ob.grown hg5 (fun g h => by simp)
        have hbs := hbw.size
        have hAlt : ∀ g, A = some ⟨g, 0, none⟩ → g < wo.heap.size := fun g h => (ob.lt h).2
        clear hg5 ob oa hbw
        go_loopw [30] (fun v wq => ∃ (i : Nat) (lo : List Nat), i ≤ nb ∧ v = .int .i64 i ∧ Own wq wo.heap.size 5 .u8 (some ⟨wo.heap.size, 0, none⟩) nb nb lo ∧ RevI lb lo i ∧
            Own wq w1.heap.size 5 .u8 A nb cb lb ∧ (∀ g, A = some ⟨g, 0, none⟩ → g < wo.heap.size) ∧ Below w.heap.size w wq)
          (fun v _ => nb - (intOf v).toNat)
        case atStart => exact ⟨0, _, by omega, rfl, o5, ⟨by rw [List.length_replicate, ob5.len], fun j hj => by omega⟩, ob5, hAlt, hbw5⟩
        case round =>
          clear ob5 hbw5 o5 hAlt
          obtain ⟨i, lo, hi, rfl, ho, hR, ob, hAlt, hbw⟩ := hrel
          by_cases hlt : i < nb
          · obtain ⟨bb, oo, x, rfl, hbb, hx, hxm, hcx⟩ := ob.sl.cell hlt
            obtain ⟨z, _, _, hcz⟩ := ho.cell (i := nb - 1 - i) (by omega)
            have hfz := ho.frozen (nb - 1 - i)
            have HX := hide hx
            have HA := hide hAlt
            clear hx hAlt
            go_wp2
            go_roundw
            case rel =>
              have hR2 := hR.step (by rw [ob.len]; exact hlt) HX.out
              rw [ob.len] at hR2
              exact ⟨i + 1, _, by omega, by go_num, ho.store (nb - 1 - i) x rfl, hR2, ob.far (fun g h => by have := HA.out g h; simp; omega) _, HA.out, hbw.setCell hbs _⟩
            case measure => simp [intOf] <;> omega
          · obtain rfl : i = nb := by omega
            have hcv := run_bytes_str (P := Try.prog) ho.sl (src := 119) (dst := 9) (e := 5) Try.underlying119 Try.underlying5 Try.underlying9
            go_wp2
            go_ret
            have hn := hD.done.dec
            have hl : lo = textN V := by
              have h1 := hR
              rw [← ob.len] at h1
              rw [h1.done, HLB.out, hn, textN, if_neg hV0.out, List.map_reverse]
            exact ⟨by rw [← hl]; rfl, hbw⟩
end Go.Proofs.Ytgilhkdmgbeieaa
