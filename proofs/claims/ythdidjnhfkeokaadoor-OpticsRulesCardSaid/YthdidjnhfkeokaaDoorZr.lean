/- Contract of optics.read. -/
import Derived.Test.YthdidjnhfkeokaaDoorZq
import Derived.Test.YthdidjnhfkeokaaDoorZg
import Derived.Test.YthdidjnhfkeokaaDoorZj
import Derived.Test.YthdidjnhfkeokaaDoorVc
import Derived.BigQuiet
namespace Go.Proofs.YthdidjnhfkeokaaDoor
open Go.RowKit

def ruC (g : Nat → Int) : Array Value := #[.int .i64 (g 0), .int .i64 (g 1), .int .i64 (g 2), .int .i64 (g 3), .int .i64 (g 4)]
theorem ruC_one (g : Nat → Int) : (ruC g).all (·.oneCell') = true := by simp [ruC, Value.oneCell']
theorem ruC_get (g : Nat → Int) {c : Nat} (h : c ≤ 4) : (ruC g)[c]? = some (.int .i64 (g c)) := by
  have : c = 0 ∨ c = 1 ∨ c = 2 ∨ c = 3 ∨ c = 4 := by omega
  rcases this with rfl | rfl | rfl | rfl | rfl <;> rfl
theorem ruC_int (g : Nat → Int) {k : Nat} {v : Value} (h : (ruC g)[k]? = some v) : ∃ n, v = .int .i64 n := by
  by_cases hk : k ≤ 4
  · rw [ruC_get g hk] at h; exact ⟨_, (Option.some.inj h).symm⟩
  · rw [Array.getElem?_eq_none (by simp [ruC]; omega)] at h; cases h
theorem ruC_str (g : Nat → Int) (x : ByteArray) (off : Nat) : ¬ ∀ (j : Nat) (v : Value), (eStr.cells x)[j]? = some v → (ruC g)[off + j]? = some v := fun h => by
  obtain ⟨n, hn⟩ := ruC_int g (h 0 (.string x) rfl)
  cases hn
theorem ruC_ptr (g : Nat → Int) (q x off : Nat) : ¬ ∀ (j : Nat) (v : Value), ((ePtr q).cells x)[j]? = some v → (ruC g)[off + j]? = some v := fun h => by
  obtain ⟨n, hn⟩ := ruC_int g (h 0 _ rfl)
  cases hn
theorem ruC_fm (g : Nat → Int) (x off : Nat) : ¬ ∀ (j : Nat) (v : Value), (eFm.cells x)[j]? = some v → (ruC g)[off + j]? = some v := fun h => by
  obtain ⟨n, hn⟩ := ruC_int g (h 2 _ rfl)
  cases hn
theorem ruC_set (g : Nat → Int) {c : Nat} (h : c ≤ 4) (v : Int) : (ruC g).setIfInBounds c (.int .i64 v) = ruC (upd g c v) := by
  have : c = 0 ∨ c = 1 ∨ c = 2 ∨ c = 3 ∨ c = 4 := by omega
  rcases this with rfl | rfl | rfl | rfl | rfl <;> rfl
theorem fmR_start (V : List UInt8 → Int) (ws : List (List UInt8)) (j : Nat) : ruC (fmR V ws j 0) = #[.int .i64 (fmK j), .int .i64 0, .int .i64 0, .int .i64 0, .int .i64 (fmB j)] := by
  unfold ruC fmR; simp
theorem fmR_step (V : List UInt8 → Int) (ws : List (List UInt8)) {j i c : Nat} {x : List UInt8} (hj : j < 8) (hc : (fmF j)[i]? = some c) (hx : ws[1 + i]? = some x) : upd (fmR V ws j i) c (V x) = fmR V ws j (i + 1) := by
  have hi : i < (fmF j).length := (List.getElem?_eq_some_iff.1 hc).1
  obtain ⟨h1, h2, h3⟩ := fmF_ix j hj i hi
  rw [List.getD_eq_getElem?_getD, hc, Option.getD_some] at h1 h2 h3
  have hm : ∀ d, d ∈ (fmF j).take (i + 1) ↔ d ∈ (fmF j).take i ∨ d = c := fun d => by
    rw [List.take_add_one, hc]; simp
  funext d
  unfold upd fmR
  by_cases hd : d = c
  · subst hd
    rw [if_pos rfl, if_neg h2, if_pos ((hm d).2 (.inr rfl)), h1, List.getD_eq_getElem?_getD, hx, Option.getD_some]
  · rw [if_neg hd]
    by_cases hd0 : d = 0
    · rw [if_pos hd0, if_pos hd0]
    · rw [if_neg hd0, if_neg hd0]
      by_cases hd1 : d ∈ (fmF j).take i
      · rw [if_pos hd1, if_pos ((hm d).2 (.inl hd1))]
      · rw [if_neg hd1, if_neg (fun h => ((hm d).1 h).elim hd1 hd)]
theorem fmF_le {j i c : Nat} (hj : j < 8) (hc : (fmF j)[i]? = some c) : c ≤ 4 := by
  have hi : i < (fmF j).length := (List.getElem?_eq_some_iff.1 hc).1
  obtain ⟨_, _, h3⟩ := fmF_ix j hj i hi
  rw [List.getD_eq_getElem?_getD, hc, Option.getD_some] at h3
  exact h3
theorem fmF_len {j : Nat} : 1 ≤ (fmF j).length ∧ (fmF j).length ≤ 4 := by unfold fmF; (repeat' split) <;> simp
theorem wordsB_get {s : ByteArray} {i : Nat} {x : ByteArray} (h : (wordsB s)[i]? = some x) : (wordsL (lst s))[i]? = some (lst x) := by
  unfold wordsB partsB at h
  rw [List.getElem?_map] at h
  obtain ⟨y, hy, rfl⟩ := Option.map_eq_some_iff.1 h
  rw [lst_strB]; exact hy
theorem wordsB_len (s : ByteArray) : (wordsB s).length = (wordsL (lst s)).length := by unfold wordsB partsB wordsL; rw [List.length_map]
theorem info_ru2 : (Tryd.prog.info? 62).map (fun i => (i.zero, i.size, i.bytes)) = some (some (.agg #[.int .i64 0, .int .i64 0, .int .i64 0, .int .i64 0, .int .i64 0]), 5, 40) := by kernel_rfl
theorem Rd.aside2 {α : Type} {e : Enc α} {w w' : World} {A : Option Addr} {n c : Nat} {L : List α} {g : Nat} {t : TypeId} {cs : Array Value} (h : Rd e w w.heap.size A n c L) (b : Blk w g t cs) (hx : ∀ (x : α) (off : Nat), ¬ ∀ (j : Nat) (v : Value), (e.cells x)[j]? = some v → cs[off + j]? = some v) (hg : w.grownBy w' (some g)) : Rd e w' w'.heap.size A n c L := by
  refine ⟨h.len, h.cap, h.max, fun hn => ?_⟩
  obtain ⟨b1, off, ea, hb, hc⟩ := h.at_ hn
  refine ⟨b1, off, ea, Nat.lt_of_lt_of_le hb hg.size, fun k x hk j v hv => ?_⟩
  have hne : b1 ≠ g := fun eg => by
    subst eg
    obtain ⟨y, hy⟩ : ∃ y, L[0]? = some y := ⟨_, List.getElem?_eq_getElem (by rw [h.len]; exact hn)⟩
    refine hx y off fun j v hv => ?_
    have := hc 0 y hy j v hv
    rw [Nat.zero_mul, Nat.add_zero, b.cell] at this
    exact this
  have := hc k x hk j v hv
  unfold World.cell? at this ⊢
  simp only [hg.block b1 hb (by simpa using hne)]
  exact this
def SRead (s : ByteArray) (w : World) (e : Ending) (w' : World) : Prop := ∃ (g : Nat → Int) (ok : Bool), e = .returned (.tuple #[.agg (ruC g), .bool ok]) ∧ SRd (lst s) (ruOf g) ok ∧ Below w.heap.size w w'
/-- What read has at hand. -/
structure RQ (w0 : World) (gZ : Nat) (A : Option Addr) (n : Nat) (ws : List ByteArray) (B : Option Addr) (W : World) : Prop where
  z : Blk W gZ 62 (ruC fun _ => 0)
  a : Rd eStr W W.heap.size A n n ws
  f : Rd eFm W W.heap.size B 8 8 (List.range 8)
  b : Below w0.heap.size w0 W
section
variable {w0 W W' : World} {gZ n : Nat} {A B : Option Addr} {ws : List ByteArray}
theorem RQ.on (h : RQ w0 gZ A n ws B W) (hb : Below W.heap.size W W') : RQ w0 gZ A n ws B W' :=
  ⟨h.z.keep hb, h.a.on hb, h.f.on hb, below_on h.b hb⟩
theorem RQ.set (h : RQ w0 gZ A n ws B W) {g : Nat} {r : Nat → Int} (hp : Blk W g 62 (ruC r)) (hz : gZ ≠ g) (hw : w0.heap.size ≤ g) (c : Nat) (u : Value) : RQ w0 gZ A n ws B (W.setCell ⟨g, c, none⟩ u) :=
  ⟨h.z.far hz _, h.a.past hp (ruC_str r) _, h.f.past hp (ruC_fm r) _, below_grown h.b (grownBy_setCell W g c _) hw (Nat.le_refl _)⟩
end
theorem ruErr_ok2 (r : Ru) : (ruErr r == 0) = okRu r := by
  unfold ruErr; cases okRu r <;> rfl

set_option linter.unusedSimpArgs false in
set_option maxRecDepth 100000 in
set_option maxHeartbeats 6400000 in
theorem read_c (s : ByteArray) (w : World) (hm : Mx w) (hs : s.size ≤ 1000000) : Calls Tryd.prog 50 #[.string s] w (SRead s w) := by
  have hZ : Blk (w.alloc (.cells #[.int .i64 0, .int .i64 0, .int .i64 0, .int .i64 0, .int .i64 0] 62)) w.heap.size 62 (ruC fun _ => 0) := Blk.newAt w 62 (ruC fun _ => 0) w.heap.size rfl
  have hb := below_alloc w (.cells #[.int .i64 0, .int .i64 0, .int .i64 0, .int .i64 0, .int .i64 0] 62)
  have hm1 := hm.on hb
  go_enter Tryd.func50, Tryd.ntmps50
  go_upto_region 1 with fail
  obtain ⟨W, hW⟩ : ∃ q, q = w.alloc (.cells #[.int .i64 0, .int .i64 0, .int .i64 0, .int .i64 0, .int .i64 0] 62) := ⟨_, rfl⟩
  rw [← hW] at hZ hb hm1 ⊢
  obtain ⟨gZ, hgZ⟩ : ∃ q, q = w.heap.size := ⟨_, rfl⟩
  rw [← hgZ] at hZ ⊢
  have hwz : w.heap.size ≤ gZ := by omega
  clear hW hgZ hm
  go_upto_region 3 with (first | (go_at_call 43; refine (split_c 32 s W hm1 (by omega)).mono ?_; rintro e w1 ⟨A, n, rfl, r1, hn0, hn1, hb1⟩) | (go_at_call 52; refine (forms_c w1).mono ?_; rintro e w2 ⟨B, rfl, f2, hb2⟩))
  have hw : RQ w gZ A n (wordsB s) B w2 := ⟨(hZ.keep hb1).keep hb2, r1.on hb2, f2, below_on (below_on hb hb1) hb2⟩
  clear hZ hb hm1 r1 f2 hb1 hb2
  obtain ⟨b0, off, x0, rfl, hb0, hx0, hc0⟩ := hw.a.get hn0
  have HX0 := hide (wordsB_get hx0)
  have HXB := hide hx0
  have HLN := hide (show (wordsL (lst s)).length = n by rw [← wordsB_len]; exact hw.a.len)
  obtain ⟨b1, o1, j0, rfl, hb1, hj0, hc1⟩ := hw.f.get (show 0 < 8 by omega)
  clear hb0 hx0 hc0 hb1 hj0 hc1 j0
  have hsub : IntKind.i64.wrap ((n : Int) - 1) = (n : Int) - 1 := by simp only [IntKind.wrap, IntKind.bits, IntKind.signed]; simp; omega
  have HSUB := hide hsub
  clear hsub
  go_loopw [17] (fun iv wr => ∃ k : Nat, k ≤ 8 ∧ iv = .int .i64 k ∧ RQ w gZ (some ⟨b0, off, none⟩) n (wordsB s) (some ⟨b1, o1, none⟩) wr ∧ Hid (∀ j, j < k → ¬ (fmW j = lst x0 ∧ (wordsL (lst s)).length = 1 + (fmF j).length))) (fun iv _ => 8 - (intOf iv).toNat)
  case atStart => exact ⟨0, by omega, rfl, hw, fun j hj => absurd hj (Nat.not_lt_zero j)⟩
  case round =>
    clear hw
    obtain ⟨k, hk, rfl, hw, HNO⟩ := hrel
    by_cases hlt : k < 8
    · have hk0 : (0 : Int) ≤ (k : Int) := by omega
      have hk8 : (k : Int) < 8 := by omega
      obtain ⟨b9, off9, x9, eA, hb9, hx9, hc9⟩ := hw.f.get hlt
      injection eA with eA
      injection eA with e1 e2
      subst e1
      subst e2
      obtain rfl : k = x9 := by
        rw [List.getElem?_range hlt] at hx9
        exact Option.some.inj hx9
      have c0 := hc9 0 _ rfl
      have c1 := hc9 1 _ rfl
      have c2 := hc9 2 _ rfl
      have c3 := hc9 3 _ rfl
      simp only [eFm, Nat.add_zero] at c0 c1 c2 c3
      have HFD := hide (fun g W => fields_c hlt g W)
      have hcf := cfm hlt
      have HS0 := hide (fmR_start sV (wordsL (lst s)) k)
      obtain ⟨kS, hkS⟩ : ∃ q, q = strB (fmW k) := ⟨_, rfl⟩
      obtain ⟨F, hF⟩ : ∃ q, q = fmFn k := ⟨_, rfl⟩
      obtain ⟨kK, hkK⟩ : ∃ q, q = fmK k := ⟨_, rfl⟩
      obtain ⟨kB, hkB⟩ : ∃ q, q = fmB k := ⟨_, rfl⟩
      obtain ⟨m, hmm⟩ : ∃ q, q = (fmF k).length := ⟨_, rfl⟩
      rw [← hkS] at c2
      rw [← hF] at c3 HFD hcf
      rw [← hkK] at c0 HS0
      rw [← hkB] at c1 HS0
      rw [← hmm] at HFD
      have hm4 : 1 ≤ m ∧ m ≤ 4 := by rw [hmm]; exact fmF_len
      have HKS := hide hkS
      have HMM := hide hmm
      clear hc9 hb9 hx9 hkS hF hkK hkB hmm
      have hwl : w.heap.size ≤ wr.heap.size := hw.b.size
      have hzl := hw.z.lt
      have hb0 := Blk.newAt wr 105 #[.int .i64 0, .int .i64 0, .string ⟨#[]⟩, .nilFunc] wr.heap.size rfl
      go_upto_region 5 with (refine wl_store (o := ⟨none, _, _, _, _, _⟩) rfl 105 _ _ rfl wr.heap.size #[.int .i64 kK, .int .i64 kB, .string kS, .func (.func F) #[] #[]] rfl rfl 105 _ hb0 (by kernel_rfl) rfl (by simp [Value.oneCell']) ?_; intro W3 hf3 hg3)
      have hbw3 := below_grown (below_alloc wr (.cells #[.int .i64 0, .int .i64 0, .string ⟨#[]⟩, .nilFunc] 105)) hg3 (Nat.le_refl _) (Nat.le_refl _)
      have hw3 := hw.on hbw3
      have hs3 := hbw3.size
      have hgl3 := hf3.lt
      obtain ⟨gF, hgF⟩ : ∃ q, q = wr.heap.size := ⟨_, rfl⟩
      rw [← hgF] at hf3 hs3 hgl3 hwl hzl ⊢
      clear hb0 hg3 hbw3 hw c0 c1 c2 c3 hgF
      have f0 := hf3.cell 0
      have f1 := hf3.cell 1
      simp only [List.getElem?_toArray, List.getElem?_cons_zero, List.getElem?_cons_succ] at f0 f1
      have hf4 := hf3.alloc (.cells #[.int .i64 kK, .int .i64 0, .int .i64 0, .int .i64 0, .int .i64 kB] 62)
      have hr4 : Blk (W3.alloc (.cells #[.int .i64 kK, .int .i64 0, .int .i64 0, .int .i64 0, .int .i64 kB] 62)) W3.heap.size 62 (ruC (fmR sV (wordsL (lst s)) k 0)) := by rw [HS0.out]; exact Blk.newAt _ 62 _ W3.heap.size rfl
      have hw4 := hw3.on (below_alloc W3 (.cells #[.int .i64 kK, .int .i64 0, .int .i64 0, .int .i64 0, .int .i64 kB] 62))
      have HH4 := hide (And.intro hr4 hw4)
      clear hr4 hw4 hf3 HS0 hw3
      go_upto_region 6 with fail
      clear f0 f1
      obtain ⟨W4, hW4⟩ : ∃ q, q = W3.alloc (.cells #[.int .i64 kK, .int .i64 0, .int .i64 0, .int .i64 0, .int .i64 kB] 62) := ⟨_, rfl⟩
      have hr4 := HH4.out.1
      have hw4 := HH4.out.2
      rw [← hW4] at hf4 hr4 hw4 ⊢
      obtain ⟨gR, hgR⟩ : ∃ q, q = W3.heap.size := ⟨_, rfl⟩
      rw [← hgR] at hr4 hgl3 ⊢
      have hzr : gZ ≠ gR := by omega
      have hwr : w.heap.size ≤ gR := by omega
      clear HH4 hW4 hgR hwl hzl hs3 hgl3
      have d3 := hf4.cell 3
      simp only [List.getElem?_toArray, List.getElem?_cons_zero, List.getElem?_cons_succ] at d3
      go_upto_region 7 with (refine (HFD.out gR W4).mono ?_; rintro e w5 ⟨A5, rfl, r5, hb5⟩)
      have hf5 := hf4.keep hb5
      have hr5 := hr4.keep hb5
      have hw5 := hw4.on hb5
      clear hf4 hr4 hw4 hb5 d3 hcf HFD
      have y2 := hf5.cell 2
      simp only [List.getElem?_toArray, List.getElem?_cons_zero, List.getElem?_cons_succ] at y2
      obtain ⟨b9, off9, x9, eA, hb9, hx9, hc9⟩ := hw5.a.get hn0
      injection eA with eA
      injection eA with e1 e2
      subst e1
      subst e2
      obtain rfl : x0 = x9 := by
        have h1 := hx9
        rw [HXB.out] at h1
        exact Option.some.inj h1
      have y0 := hc9 0 _ rfl
      simp only [eStr, Nat.add_zero, Nat.zero_mul] at y0
      clear hc9 hb9 hx9 hf5
      have hsub := HSUB.out
      by_cases hkw : fmW k = lst x0
      · have hkx : kS = x0 := by rw [HKS.out, hkw, strB_lst]
        subst hkx
        have hst : (kS.toList == kS.toList) = true := by simp
        by_cases hln : n = 1 + m
        · subst hln
          have hnb : ((m : Int) == 1 + (m : Int) - 1) = true := by rw [beq_iff_eq]; omega
          have hnb2 : ((m : Int) != 1 + (m : Int) - 1) = false := by rw [bne, hnb]; rfl
          have H0 := hide (show (wordsL (lst s))[0]? = some (fmW k) by rw [hkw]; exact HX0.out)
          clear hkw hst
          go_quiet (fail)
          obtain ⟨w6, hw6e⟩ : ∃ q, q = w5.drewN nq := ⟨_, rfl⟩
          have hb6 : Below w5.heap.size w5 w6 := by rw [hw6e]; exact below_drewN (Below.refl _ _) _
          rw [← hw6e]
          have hw6 := hw5.on hb6
          have hr6 := hr5.keep hb6
          have r6 := r5.on hb6
          clear hw6e hb6 hw5 hr5 r5 y2 y0 hsub
          go_upto_region 8 with fail
          clear hnb hnb2
          go_wp2
          go_loopw [45] (fun iv wr => ∃ i : Nat, i ≤ m ∧ iv = .int .i64 i ∧ RQ w gZ (some ⟨b0, off, none⟩) (1 + m) (wordsB s) (some ⟨b1, o1, none⟩) wr ∧ Blk wr gR 62 (ruC (fmR sV (wordsL (lst s)) k i)) ∧ Rd (ePtr gR) wr wr.heap.size A5 m m (fmF k) ∧ Hid (∀ j x, j < i → (wordsL (lst s))[1 + j]? = some x → smallOk x = true)) (fun iv _ => m - (intOf iv).toNat)
          case atStart => exact ⟨0, by omega, rfl, hw6, hr6, r6, fun j x hj => absurd hj (Nat.not_lt_zero j)⟩
          case round =>
            clear hw6 hr6 r6
            obtain ⟨i, hi, rfl, hw, hr, r7, HOK⟩ := hrel
            by_cases hlt2 : i < m
            · obtain ⟨b9, off9, x, eA, hb9, hx, hc9⟩ := hw.a.get (show 1 + i < 1 + m by omega)
              injection eA with eA
              injection eA with e1 e2
              subst e1
              subst e2
              have y0 := hc9 0 _ rfl
              simp only [eStr, Nat.add_zero, Nat.mul_one] at y0
              have y1 : wr.cell? ⟨b0, off + (i + 1), none⟩ = some (.string x) := by rw [Nat.add_comm i 1]; exact y0
              obtain ⟨gp, op, c, rfl, hgp, hq, hcp⟩ := r7.get hlt2
              have p0 := hcp 0 _ rfl
              simp only [ePtr, Nat.add_zero, Nat.mul_one] at p0
              have hc4 := fmF_le hlt hq
              have q0 := (hr.cell c).trans (ruC_get _ hc4)
              have qf := hr.frozen c
              have HX := hide (wordsB_get hx)
              have HSM := hide (small_c x wr)
              have hi4 : (i : Int) < (m : Int) := by omega
              have HSTEP := hide (fmR_step sV (wordsL (lst s)) hlt hq HX.out)
              clear hc9 hx hcp hq hgp hb9
              cases hok : smallOk (lst x)
              · have HBAD := hide (SRd.bad (r := ⟨0, 0, 0, 0, 0⟩) hlt H0.out (by rw [← HMM.out]; exact hlt2) HX.out hok)
                have HS2 := hide (show Calls Tryd.prog 44 #[.string x] wr fun e w' => e = .returned (.tuple #[.int .i64 0, .bool false]) ∧ w' = wr from HSM.out.mono fun e w' h => by
                  obtain ⟨h1, h2⟩ := h
                  rw [hok] at h1
                  unfold smallV at h1
                  rw [hok] at h1
                  exact ⟨h1, h2⟩)
                clear hok HSM
                go_upto_region 13 with (go_at_call 44; refine HS2.out.mono ?_; rintro e w9 ⟨rfl, rfl⟩)
                go_wp2_with (refine wl_store (o := ⟨none, _, _, _, _, _⟩) rfl 62 _ _ rfl gZ (ruC fun _ => 0) rfl rfl 62 _ hw.z (by kernel_rfl) rfl (ruC_one _) ?_; intro w9 hZ9 hg9)
                refine bodyPost_ret (results_row_tmp rfl _ _ gZ 62 _ _ rfl hZ9 Tryd.underlying62 rfl (by kernel_rfl)) rfl ?_
                exact ⟨_, _, rfl, HBAD.out, below_grown hw.b hg9 hwz (Nat.le_refl _)⟩
              · have HOK2 := hide (show ∀ j y, j < i + 1 → (wordsL (lst s))[1 + j]? = some y → smallOk y = true from fun j y hj hy => by
                  by_cases h : j < i
                  · exact HOK.out j y h hy
                  · obtain rfl : j = i := by omega
                    rw [HX.out] at hy
                    obtain rfl := Option.some.inj hy
                    exact hok)
                have hr2 : Blk (wr.setCell ⟨gR, c, none⟩ (.int .i64 (sV (lst x)))) gR 62 (ruC (fmR sV (wordsL (lst s)) k (i + 1))) := by
                  rw [← HSTEP.out, ← ruC_set _ hc4]
                  exact hr.set_ c _
                have hw2 := hw.set hr hzr hwr c (.int .i64 (sV (lst x)))
                have r8 := r7.past hr (ruC_ptr _ gR) (i := c) (.int .i64 (sV (lst x)))
                obtain ⟨v, hv⟩ : ∃ v, v = sV (lst x) := ⟨_, rfl⟩
                have HS2 := hide (show Calls Tryd.prog 44 #[.string x] wr fun e w' => e = .returned (.tuple #[.int .i64 v, .bool true]) ∧ w' = wr from HSM.out.mono fun e w' h => by
                  obtain ⟨h1, h2⟩ := h
                  rw [hok] at h1
                  rw [hv]
                  exact ⟨h1, h2⟩)
                rw [← hv] at hr2 hw2 r8
                have HR := hide (And.intro hw2 (And.intro hr2 r8))
                clear hok HSM hv hr2 hw2 r8 HSTEP hr hw r7
                go_wp2_with (go_at_call 44; refine HS2.out.mono ?_; rintro e w9 ⟨rfl, rfl⟩)
                go_roundw
                case rel => exact ⟨i + 1, by omega, by go_num, HR.out.1, HR.out.2.1, HR.out.2.2, HOK2⟩
                case measure => simp [intOf] <;> omega
            · obtain rfl : i = m := by omega
              obtain ⟨G, hG⟩ : ∃ q, q = fmR sV (wordsL (lst s)) k i := ⟨_, rfl⟩
              rw [← hG] at hr
              have HFIN := hide (SRd.whole (r := ruOf G) hlt H0.out (HLN.out.trans (by rw [HMM.out])) (fun j x hj hx => HOK.out j x (by rw [HMM.out]; exact hj) hx) (by rw [hG, HMM.out]; rfl))
              have HCK := hide (fun W => checkRule_c (ruOf G) W)
              clear hG HOK r7
              go_upto_region 16 with fail
              refine wp_region_held_drew (S := fun W => Blk W gR 62 (ruC G)) (by kernel_rfl) hr.drew (fun hHeld => ?_)
              have hwd := hw.on (Below.refl _ wr).drew
              obtain ⟨V0, hV0⟩ : ∃ q, q = wr.drew := ⟨_, rfl⟩
              rw [← hV0] at hHeld hwd ⊢
              clear hV0 hw hr
              refine wpAnyH_take (i := 0) (v := .agg (ruC G)) rfl (by kernel_rfl) (by kernel_rfl) (by kernel_rfl) (fun _ _ _ h => h) (yieldsIf_load_blk (by rfl) 62 _ rfl gR rfl 62 (ruC G) _ (fun _ h => h) Tryd.underlying62 rfl (by kernel_rfl)) hHeld ?_
              try simp only [Act.put, List.getElem_toArray, List.getElem_cons_succ, List.getElem_cons_zero, List.setIfInBounds_toArray, List.set_cons_zero, List.set_cons_succ]
              refine wpAnyH_take (i := 1) (v := .agg (ruC G)) rfl (by kernel_rfl) (by kernel_rfl) (by kernel_rfl) (fun _ _ _ h => h) (yieldsIf_load_blk (by rfl) 62 _ rfl gR rfl 62 (ruC G) _ (fun _ h => h) Tryd.underlying62 rfl (by kernel_rfl)) hHeld ?_
              try simp only [Act.put, List.getElem_toArray, List.getElem_cons_succ, List.getElem_cons_zero, List.setIfInBounds_toArray, List.set_cons_zero, List.set_cons_succ]
              refine wpAnyH_ready (rs := [2]) (by kernel_rfl) (by simp) ?_
              refine AllReadyH.cons (i := 2) rfl (fun K hK => ?_) AllReadyH.nil
              go_simp
              refine (HCK.out V0).mono ?_
              rintro e V1 ⟨rfl, hb9⟩
              refine hK.out _ _ (Blk.keep hHeld hb9) (fun hHeld => ?_)
              clear hK K
              try simp only [Act.put, List.getElem_toArray, List.getElem_cons_succ, List.getElem_cons_zero, List.setIfInBounds_toArray, List.set_cons_zero, List.set_cons_succ]
              have hw9 := hwd.on hb9
              clear hb9 hwd
              refine wpAnyH_take (i := 3) (v := .bool (ruErr (ruOf G) == 0)) rfl (by kernel_rfl) (by kernel_rfl) (by kernel_rfl) (fun _ _ _ h => h) (yieldsIf_eql_int (by rfl) _ _ _ _ rfl .i64 _ _ rfl rfl) hHeld ?_
              try simp only [Act.put, List.getElem_toArray, List.getElem_cons_succ, List.getElem_cons_zero, List.setIfInBounds_toArray, List.set_cons_zero, List.set_cons_succ]
              refine wpAnyH_ready (rs := [4]) (by kernel_rfl) (by simp) ?_
              refine AllReadyH.cons (i := 4) rfl (fun K hK => ?_) AllReadyH.nil
              refine step_store rfl 62 _ _ rfl gZ (ruC G) rfl rfl 62 _ hw9.z (by kernel_rfl) rfl (ruC_one _) ?_
              intro V2 hZ9 hg9
              refine hK.out _ _ (Blk.grown hHeld hg9 (by simpa using fun e => hzr e.symm)) (fun hHeld => ?_)
              clear hK K
              try simp only [Act.put, List.getElem_toArray, List.getElem_cons_succ, List.getElem_cons_zero, List.setIfInBounds_toArray, List.set_cons_zero, List.set_cons_succ]
              refine wpAnyH_take (i := 5) (v := .bool (ruErr (ruOf G) == 0)) rfl (by kernel_rfl) (by kernel_rfl) (by kernel_rfl) (fun _ _ _ h => h) (yieldsIf_move (by rfl) _ (Or.inr rfl) _ rfl) hHeld ?_
              try simp only [Act.put, List.getElem_toArray, List.getElem_cons_succ, List.getElem_cons_zero, List.setIfInBounds_toArray, List.set_cons_zero, List.set_cons_succ]
              refine wpAnyH_done (by kernel_rfl) ?_ _
              rw [ruErr_ok2]
              go_wp2
              refine bodyPost_ret (results_row_tmp rfl _ _ gZ 62 _ _ rfl hZ9 Tryd.underlying62 rfl (by kernel_rfl)) rfl ?_
              exact ⟨_, _, rfl, HFIN.out, below_grown hw9.b hg9 hwz (Nat.le_refl _)⟩
        · have HNO2 := hide (show ∀ j, j < k + 1 → ¬ (fmW j = lst kS ∧ (wordsL (lst s)).length = 1 + (fmF j).length) from fun j hj => by
            by_cases h : j < k
            · exact HNO.out j h
            · obtain rfl : j = k := by omega
              exact fun hh => hln (by have := HLN.out; have := HMM.out; have := hh.2; omega))
          have hnb : ((m : Int) == (n : Int) - 1) = false := decide_eq_false (fun e => hln (by omega))
          have hnb2 : ((m : Int) != (n : Int) - 1) = true := by rw [bne, hnb]; rfl
          have HW5 := hide hw5
          clear hw5 hr5 r5 hln hkw
          go_quiet (fail)
          go_wp2
          go_roundw
          case rel => exact ⟨k + 1, by omega, by go_num, HW5.out.on (below_drewN (Below.refl _ _) _), HNO2⟩
          case measure => simp [intOf] <;> omega
      · have HNO2 := hide (show ∀ j, j < k + 1 → ¬ (fmW j = lst x0 ∧ (wordsL (lst s)).length = 1 + (fmF j).length) from fun j hj => by
          by_cases h : j < k
          · exact HNO.out j h
          · obtain rfl : j = k := by omega
            exact fun hh => hkw hh.1)
        have hst : (kS.toList == x0.toList) = false := by
          rw [beq_eq_false_iff_ne]
          intro e
          rw [Lib.toList_data, Lib.toList_data] at e
          refine hkw ?_
          rw [← lst_strB (fmW k), ← HKS.out]
          exact e
        have HW5 := hide hw5
        clear hw5 hr5 r5 hkw
        go_quiet (fail)
        go_wp2
        go_roundw
        case rel => exact ⟨k + 1, by omega, by go_num, HW5.out.on (below_drewN (Below.refl _ _) _), HNO2⟩
        case measure => simp [intOf] <;> omega
    · obtain rfl : k = 8 := by omega
      have HBAD := hide (SRd.noForm (l := lst s) (r := ⟨0, 0, 0, 0, 0⟩) HX0.out HNO.out)
      go_upto_region 18 with fail
      go_wp2_with (refine wl_store (o := ⟨none, _, _, _, _, _⟩) rfl 62 _ _ rfl gZ (ruC fun _ => 0) rfl rfl 62 _ hw.z (by kernel_rfl) rfl (ruC_one _) ?_; intro w9 hZ9 hg9)
      refine bodyPost_ret (results_row_tmp rfl _ _ gZ 62 _ _ rfl hZ9 Tryd.underlying62 rfl (by kernel_rfl)) rfl ?_
      exact ⟨_, _, rfl, HBAD.out, below_grown hw.b hg9 hwz (Nat.le_refl _)⟩
end Go.Proofs.YthdidjnhfkeokaaDoor
