/- Contracts of exact's valid, Reduce, FracText. -/
import Derived.Test.YtgilhkdmgbeieaaWl
namespace Go.Proofs.Ytgilhkdmgbeieaa
open Go.RowKit

/-- A fraction as an argument: its two slices and what they hold. -/
structure FA where
  A : Option Addr
  n : Nat
  c : Nat
  l : List Nat
  A' : Option Addr
  n' : Nat
  c' : Nat
  l' : List Nat
/-- It reads so, below block B. -/
structure FA.Rd (f : FA) (w : World) (B : Nat) : Prop where
  num : Sl w B .u32 f.A f.n f.c f.l
  den : Sl w B .u32 f.A' f.n' f.c' f.l'
  dn : Digs 4294967296 f.l
  dd : Digs 4294967296 f.l'
theorem FA.Rd.below {f : FA} {w w' : World} {B : Nat} (h : f.Rd w B) (hb : Below B w w') : f.Rd w' B := ⟨h.num.below hb, h.den.below hb, h.dn, h.dd⟩
theorem FA.Rd.mono {f : FA} {w : World} {B B' : Nat} (h : f.Rd w B) (hb : B ≤ B') : f.Rd w B' := ⟨h.num.mono hb, h.den.mono hb, h.dn, h.dd⟩
def FA.long (f : FA) : Bool := !(decide (f.n ≤ 64) && decide (f.n' ≤ 64))
def FA.zero (f : FA) : Bool := decide (val 4294967296 f.l' = 0)
def FA.num (f : FA) : Value := .slice f.A f.n f.c
def FA.den (f : FA) : Value := .slice f.A' f.n' f.c'
def errV (fs : List FA) : Int := if fs.any FA.long then 4 else if fs.any FA.zero then 7 else 0

theorem any_take_succ {p : FA → Bool} {fs : List FA} {i : Nat} (h : i < fs.length) (h0 : (fs.take i).any p = false) (h1 : p fs[i] = false) : (fs.take (i + 1)).any p = false := by
  rw [List.take_add_one, List.getElem?_eq_getElem h]
  rw [List.any_append, h0]
  simp [h1]
theorem any_of_getElem {p : FA → Bool} {fs : List FA} {i : Nat} (h : i < fs.length) (h1 : p fs[i] = true) : fs.any p = true :=
  List.any_eq_true.2 ⟨_, List.getElem_mem h, h1⟩

set_option maxHeartbeats 800000 in
theorem valid_c (g c : Nat) (fs : List FA) (w : World) (B : Nat) (hcell : ∀ i (h : i < fs.length), w.cell? ⟨g, i * 2, none⟩ = some fs[i].num ∧ w.cell? ⟨g, i * 2 + 1, none⟩ = some fs[i].den)
    (hg : g < w.heap.size) (hfs : ∀ f ∈ fs, f.Rd w B) (hB : B ≤ w.heap.size) (hlen : fs.length ≤ 1000) :
    Calls Try.prog 78 #[.slice (some ⟨g, 0, none⟩) fs.length c] w fun e w' => e = .returned (.int .i64 (errV fs)) ∧ Below w.heap.size w w' := by
  have hfs' : ∀ f ∈ fs, f.n ≤ 9223372036854775807 ∧ f.n' ≤ 9223372036854775807 := fun f hf => by
    have h := hfs f hf
    have := h.num.cap
    have := h.num.max
    have := h.den.cap
    have := h.den.max
    omega
  go_enter Try.func78, Try.ntmps78
  go_wp2
  go_loopw [10] (fun v wr => ∃ i : Nat, i ≤ fs.length ∧ v = .int .i64 i ∧ (fs.take i).any FA.long = false ∧ Below w.heap.size w wr) (fun v _ => fs.length - (intOf v).toNat)
  case atStart => exact ⟨0, by omega, rfl, rfl, Below.refl _ _⟩
  case round =>
    obtain ⟨i, hi, rfl, hany, hb⟩ := hrel
    have HANY := hide hany
    clear hany
    by_cases hlt : i < fs.length
    · obtain ⟨f, hf⟩ : ∃ f, fs[i] = f := ⟨_, rfl⟩
      obtain ⟨hc1, hc2⟩ := hcell i hlt
      rw [hf] at hc1 hc2
      have hff := hfs f (hf ▸ List.getElem_mem hlt)
      have hfn := hfs' f (hf ▸ List.getElem_mem hlt)
      have HF := hide hf
      have hk1 : wr.cell? ⟨g, i * 2, none⟩ = some (.slice f.A f.n f.c) := (hb.cell hg).trans hc1
      have hk2 : wr.cell? ⟨g, i * 2 + 1, none⟩ = some (.slice f.A' f.n' f.c') := (hb.cell hg).trans hc2
      clear hf hc1 hc2
      have t1 := check2_c f.A f.n f.c f.A' f.n' f.c' (wr.alloc (.cells #[.slice f.A f.n f.c, .slice f.A' f.n' f.c'] 25)) hfn.1 hfn.2
      by_cases hlg : f.n ≤ 64 ∧ f.n' ≤ 64
      · rw [if_pos hlg] at t1
        go_wp2_with fail
        refine t1.mono ?_
        rintro e w' ⟨rfl, rfl⟩
        clear t1
        go_wp2
        go_roundw
        case rel => exact ⟨i + 1, by omega, by go_num, any_take_succ hlt HANY.out (by rw [HF.out]; simp [FA.long, hlg.1, hlg.2]), hb.alloc hb.size _⟩
        case measure => simp [intOf] <;> omega
      · rw [if_neg hlg] at t1
        go_wp2_with fail
        refine t1.mono ?_
        rintro e w' ⟨rfl, rfl⟩
        clear t1
        go_wp2
        go_ret
        have hl : fs.any FA.long = true := any_of_getElem hlt (by rw [HF.out]; simp [FA.long]; omega)
        exact ⟨by unfold errV; rw [if_pos hl]; rfl, hb.alloc hb.size _⟩
    · obtain rfl : i = fs.length := by omega
      have hl : fs.any FA.long = false := by have := HANY.out; rwa [List.take_length] at this
      have HL := hide hl
      have hlong : ∀ f ∈ fs, f.n ≤ 64 ∧ f.n' ≤ 64 := fun f hf => by
        have := List.any_eq_false.1 hl f hf
        simpa [FA.long] using this
      obtain ⟨wo, rfl⟩ : ∃ wo : World, wo = wr := ⟨_, rfl⟩
      clear hl HANY
      go_wp2
      go_loopw [25] (fun v wr => ∃ i : Nat, i ≤ fs.length ∧ v = .int .i64 i ∧ (fs.take i).any FA.zero = false ∧ Below w.heap.size w wr) (fun v _ => fs.length - (intOf v).toNat)
      case atStart => exact ⟨0, by omega, rfl, rfl, hb⟩
      case round =>
        clear hb
        obtain ⟨i, hi, rfl, hany, hb⟩ := hrel
        have HANY := hide hany
        clear hany
        by_cases hlt : i < fs.length
        · obtain ⟨f, hf⟩ : ∃ f, fs[i] = f := ⟨_, rfl⟩
          obtain ⟨hc1, hc2⟩ := hcell i hlt
          rw [hf] at hc1 hc2
          have hff := hfs f (hf ▸ List.getElem_mem hlt)
          have hfn := hlong f (hf ▸ List.getElem_mem hlt)
          have HF := hide hf
          have hk1 : wr.cell? ⟨g, i * 2, none⟩ = some (.slice f.A f.n f.c) := (hb.cell hg).trans hc1
          have hk2 : wr.cell? ⟨g, i * 2 + 1, none⟩ = some (.slice f.A' f.n' f.c') := (hb.cell hg).trans hc2
          clear hf hc1 hc2
          have t1 := size_c f.A' f.n' f.c' f.l' (wr.alloc (.cells #[.slice f.A f.n f.c, .slice f.A' f.n' f.c'] 25)) B (hff.den.below ((hb.mono hB).alloc (by have := hb.size; omega) _)) hff.dd (by omega)
          by_cases hz : val 4294967296 f.l' = 0
          · rw [hz, bitsN_zero] at t1
            go_wp2_with fail
            refine t1.mono ?_
            rintro e w' ⟨rfl, rfl⟩
            clear t1
            go_wp2
            go_ret
            have hl : fs.any FA.zero = true := any_of_getElem hlt (by rw [HF.out]; simp [FA.zero, hz])
            exact ⟨by unfold errV; rw [HL.out, hl]; rfl, hb.alloc hb.size _⟩
          · have hp := bitsN_pos (Nat.pos_of_ne_zero hz)
            obtain ⟨z, hzz⟩ : ∃ z, bitsN (val 4294967296 f.l') = z := ⟨_, rfl⟩
            rw [hzz] at t1 hp
            clear hzz
            have hz0 : ((z : Int) == 0) = false := beq_eq_false_iff_ne.2 (by omega)
            go_wp2_with fail
            refine t1.mono ?_
            rintro e w' ⟨rfl, rfl⟩
            clear t1
            go_wp2
            go_roundw
            case rel => exact ⟨i + 1, by omega, by go_num, any_take_succ hlt HANY.out (by rw [HF.out]; simp [FA.zero, hz]), hb.alloc hb.size _⟩
            case measure => simp [intOf] <;> omega
        · obtain rfl : i = fs.length := by omega
          have hl : fs.any FA.zero = false := by have := HANY.out; rwa [List.take_length] at this
          have HL2 := hide hl
          clear hl
          go_wp2
          go_ret
          exact ⟨by unfold errV; rw [HL.out, HL2.out]; rfl, hb⟩
/-- What Reduce returns. -/
def SReduce (f : FA) (l l' : List Nat) (err : Int) : Prop :=
  (errV [f] = 0 ∧ SRed (val 4294967296 f.l) (val 4294967296 f.l') l l' err) ∨ (errV [f] ≠ 0 ∧ l = [] ∧ l' = [] ∧ err = errV [f])
theorem SReduce.uniq {f : FA} {l l' m m' : List Nat} {e e' : Int} (h : SReduce f l l' e) (k : SReduce f m m' e') : l = m ∧ l' = m' ∧ e = e' := by
  rcases h with ⟨h1, h3⟩ | ⟨h1, h3, h4, h5⟩ <;> rcases k with ⟨k1, k3⟩ | ⟨k1, k3, k4, k5⟩
  · exact h3.uniq k3
  · exact absurd h1 k1
  · exact absurd k1 h1
  · exact ⟨by rw [h3, k3], by rw [h4, k4], by rw [h5, k5]⟩
theorem errV_one {f : FA} (h : errV [f] = 0) : f.n ≤ 64 ∧ f.n' ≤ 64 ∧ 0 < val 4294967296 f.l' := by
  unfold errV at h
  split at h
  · simp at h
  · split at h
    · simp at h
    · rename_i h1 h2
      simp [FA.long, FA.zero] at h1 h2
      omega

set_option maxRecDepth 100000 in
set_option maxHeartbeats 1600000 in
theorem reduce_c (f : FA) (w : World) (B : Nat) (hf : f.Rd w B) (hB : B ≤ w.heap.size) :
    Calls Try.prog 39 #[.agg #[.slice f.A f.n f.c, .slice f.A' f.n' f.c']] w (FracV w (SReduce f)) := by
  have hF := ((Blk.new w 25 #[.slice f.A f.n f.c, .slice f.A' f.n' f.c']).alloc (.cells #[.slice none 0 0, .slice none 0 0] 25)).alloc (.cells #[.slice f.A f.n f.c, .slice f.A' f.n' f.c'] 25)
  have hR := (Blk.new (w.alloc (.cells #[.slice f.A f.n f.c, .slice f.A' f.n' f.c'] 25)) 25 #[.slice none 0 0, .slice none 0 0]).alloc (.cells #[.slice f.A f.n f.c, .slice f.A' f.n' f.c'] 25)
  have hG := Blk.new ((w.alloc (.cells #[.slice f.A f.n f.c, .slice f.A' f.n' f.c'] 25)).alloc (.cells #[.slice none 0 0, .slice none 0 0] 25)) 25 #[.slice f.A f.n f.c, .slice f.A' f.n' f.c']
  have hb := (((Below.refl w.heap.size w).alloc (Nat.le_refl _) (.cells #[.slice f.A f.n f.c, .slice f.A' f.n' f.c'] 25)).alloc (by simp) (.cells #[.slice none 0 0, .slice none 0 0] 25)).alloc (by simp; omega) (.cells #[.slice f.A f.n f.c, .slice f.A' f.n' f.c'] 25)
  have hs1 : (((w.alloc (.cells #[.slice f.A f.n f.c, .slice f.A' f.n' f.c'] 25)).alloc (.cells #[.slice none 0 0, .slice none 0 0] 25)).alloc (.cells #[.slice f.A f.n f.c, .slice f.A' f.n' f.c'] 25)).heap.size = w.heap.size + 3 := by simp
  go_enter Try.func39, Try.ntmps39
  go_wp2_with fail
  generalize ((w.alloc (.cells #[.slice f.A f.n f.c, .slice f.A' f.n' f.c'] 25)).alloc (.cells #[.slice none 0 0, .slice none 0 0] 25)).alloc (.cells #[.slice f.A f.n f.c, .slice f.A' f.n' f.c'] 25) = w1 at *
  simp only [World.size_alloc] at hR hG
  have hf1 := (hf.below (hb.mono hB)).mono (show B ≤ w1.heap.size by omega)
  have t1 := valid_c (w.heap.size + 1 + 1) 1 [f] w1 w1.heap.size (fun i h => by
      obtain rfl : i = 0 := by simpa using h
      exact ⟨by rw [hG.cell]; rfl, by rw [hG.cell]; rfl⟩) (by omega) (fun f' h => by obtain rfl : f' = f := by simpa using h
                                                                                     exact hf1) (Nat.le_refl _) (by simp)
  refine t1.mono ?_
  rintro e w2 ⟨rfl, hb2⟩
  clear t1 hG
  have hF2 := hF.keep hb2
  have hR2 := hR.keep hb2
  have hf2 := (hf1.below hb2).mono hb2.size
  have hbw2 := hb.trans (hb2.mono (by omega))
  have hs2 := hb2.size
  clear hF hR hf1 hb hb2
  obtain ⟨er, her⟩ : ∃ er, errV [f] = er := ⟨_, rfl⟩
  have HE := hide her
  rw [her]
  clear her
  have hx0 := hF2.cell 0
  have hx1 := hF2.cell 1
  simp at hx0 hx1
  by_cases h0 : er = 0
  · subst h0
    obtain ⟨hn, hn', hpos⟩ := errV_one HE.out
    go_wp2_with fail
    refine (reduced_c _ _ _ _ _ _ _ _ w2 _ hf2.num hf2.den (Nat.le_refl _) hf2.dn hf2.dd (by omega) (by omega) hpos).mono ?_
    rintro e w3 ⟨hb3, h3⟩
    have hR3 := hR2.keep hb3
    have hbw3 := hbw2.trans (hb3.mono (by omega))
    clear hb3 hx0 hx1
    have hr0 := hR3.cell 0
    have hr1 := hR3.cell 1
    have hf0 := hR3.frozen 0
    have hf1 := hR3.frozen 1
    simp at hr0 hr1
    rcases h3 with ⟨hF1, hF2, g, n, c, l, g', n', c', l', rfl, o1, M1, o2, M2⟩ | ⟨hF, rfl⟩
    · go_wp2
      have hR8 := hR3.two (.slice (some ⟨g, 0, none⟩) n c) (.slice (some ⟨g', 0, none⟩) n' c')
      have hb8 := below_two hbw3 (show w.heap.size ≤ w.heap.size + 1 by omega) (.slice (some ⟨g, 0, none⟩) n c) (.slice (some ⟨g', 0, none⟩) n' c')
      have p1 := o1.two (g := w.heap.size + 1) (fun g h => by have := (o1.lt h).1; omega) (.slice (some ⟨g, 0, none⟩) n c) (.slice (some ⟨g', 0, none⟩) n' c')
      have p2 := o2.two (g := w.heap.size + 1) (fun g h => by have := (o2.lt h).1; omega) (.slice (some ⟨g, 0, none⟩) n c) (.slice (some ⟨g', 0, none⟩) n' c')
      generalize (w3.setCell ⟨w.heap.size + 1, 0, none⟩ (.slice (some ⟨g, 0, none⟩) n c)).setCell ⟨w.heap.size + 1, 1, none⟩ (.slice (some ⟨g', 0, none⟩) n' c') = w8 at *
      have q0 := hR8.cell 0
      have q1 := hR8.cell 1
      simp at q0 q1
      refine bodyPost_ret (v := .tuple #[.agg #[.slice (some ⟨g, 0, none⟩) n c, .slice (some ⟨g', 0, none⟩) n' c'], .int .i64 0]) (by simp [results, Try.results39, go_sem, q0, q1]) rfl ?_
      exact ⟨_, _, _, _, _, _, _, _, _, rfl, p1.sl, p2.sl, .inl ⟨HE.out, .inl ⟨hF1, hF2, M1, M2, rfl⟩⟩, hb8⟩
    · go_wp2
      have hR8 := hR3.two (.slice none 0 0) (.slice none 0 0)
      have hb8 := below_two hbw3 (show w.heap.size ≤ w.heap.size + 1 by omega) (.slice none 0 0) (.slice none 0 0)
      generalize (w3.setCell ⟨w.heap.size + 1, 0, none⟩ (.slice none 0 0)).setCell ⟨w.heap.size + 1, 1, none⟩ (.slice none 0 0) = w8 at *
      have q0 := hR8.cell 0
      have q1 := hR8.cell 1
      simp at q0 q1
      refine bodyPost_ret (v := .tuple #[.agg #[.slice none 0 0, .slice none 0 0], .int .i64 8]) (by simp [results, Try.results39, go_sem, q0, q1]) rfl ?_
      exact ⟨_, _, _, _, _, _, _, _, _, rfl, Sl.nil _ _ _ _ _ (by omega), Sl.nil _ _ _ _ _ (by omega), .inl ⟨HE.out, .inr ⟨hF, rfl, rfl, rfl⟩⟩, hb8⟩
  · have h0' : (er != 0) = true := by rw [bne_iff_ne]; exact h0
    have hr0 := hR2.cell 0
    have hr1 := hR2.cell 1
    have hf0 := hR2.frozen 0
    have hf1 := hR2.frozen 1
    simp at hr0 hr1
    go_wp2
    have hR8 := hR2.two (.slice none 0 0) (.slice none 0 0)
    have hb8 := below_two hbw2 (show w.heap.size ≤ w.heap.size + 1 by omega) (.slice none 0 0) (.slice none 0 0)
    generalize (w2.setCell ⟨w.heap.size + 1, 0, none⟩ (.slice none 0 0)).setCell ⟨w.heap.size + 1, 1, none⟩ (.slice none 0 0) = w8 at *
    have q0 := hR8.cell 0
    have q1 := hR8.cell 1
    simp at q0 q1
    refine bodyPost_ret (v := .tuple #[.agg #[.slice none 0 0, .slice none 0 0], .int .i64 er]) (by simp [results, Try.results39, go_sem, q0, q1]) rfl ?_
    exact ⟨_, _, _, _, _, _, _, _, _, rfl, Sl.nil _ _ _ _ _ (by omega), Sl.nil _ _ _ _ _ (by omega), .inr ⟨by rw [HE.out]; exact h0, rfl, rfl, HE.out.symm⟩, hb8⟩
end Go.Proofs.Ytgilhkdmgbeieaa
