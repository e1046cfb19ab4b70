/- Contracts of exact's FracAdd, FracSub, FracMul (printed by wip/genfr.py). Contracts of exact's CheckFrac, FracAdd, FracSub, FracMul. -/
import Derived.Test.YtgilhkdmgbeieaaPd
import Derived.Test.YtgilhkdmgbeieaaRf
import Derived.Test.YtgilhkdmgbeieaaSb
namespace Go.Proofs.Ytgilhkdmgbeieaa
open Go.RowKit

/-- Where the fractions are valid, else their error. -/
def SFr (f g : FA) (T : List Nat → List Nat → Int → Prop) (l l' : List Nat) (err : Int) : Prop :=
  (errV [f, g] = 0 ∧ T l l' err) ∨ (errV [f, g] ≠ 0 ∧ l = [] ∧ l' = [] ∧ err = errV [f, g])
def Uniq2 (T : List Nat → List Nat → Int → Prop) : Prop := ∀ {l l' m m' : List Nat} {e e' : Int}, T l l' e → T m m' e' → l = m ∧ l' = m' ∧ e = e'
theorem SFr.uniq {f g : FA} {T : List Nat → List Nat → Int → Prop} (u : Uniq2 T) : Uniq2 (SFr f g T) := fun h k => by
  rcases h with ⟨h1, h2⟩ | ⟨h1, h2, h3, h4⟩ <;> rcases k with ⟨k1, k2⟩ | ⟨k1, k2, k3, k4⟩
  · exact u h2 k2
  · exact absurd h1 k1
  · exact absurd k1 h1
  · exact ⟨by rw [h2, k2], by rw [h3, k3], by rw [h4, k4]⟩
theorem SRed.uniq2 (V D : Nat) : Uniq2 (SRed V D) := fun h k => h.uniq k
def SDif (X Y D : Nat) (l l' : List Nat) (err : Int) : Prop := (Y ≤ X ∧ SRed (X - Y) D l l' err) ∨ (¬ Y ≤ X ∧ l = [] ∧ l' = [] ∧ err = 3)
theorem SDif.uniq (X Y D : Nat) : Uniq2 (SDif X Y D) := fun h k => by
  rcases h with ⟨h1, h2⟩ | ⟨h1, h2, h3, h4⟩ <;> rcases k with ⟨k1, k2⟩ | ⟨k1, k2, k3, k4⟩
  · exact h2.uniq k2
  · exact absurd h1 k1
  · exact absurd k1 h1
  · exact ⟨by rw [h2, k2], by rw [h3, k3], by rw [h4, k4]⟩
theorem FracR.f {w w' : World} {V D : Nat} {e : Ending} (h : FracR w V D e w') : FracF w (SRed V D) e w' := by
  obtain ⟨hb, ⟨h1, h2, g, n, c, l, g', n', c', l', he, o1, N1, o2, N2⟩ | ⟨h1, he⟩⟩ := h
  · exact ⟨_, _, _, _, _, _, _, _, _, he, o1.sl, o2.sl, .inl ⟨h1, h2, N1, N2, rfl⟩, hb, fun b o e => (by cases e; exact (o1.lt rfl).1), fun b o e => (by cases e; exact (o2.lt rfl).1)⟩
  · exact ⟨_, _, _, _, _, _, _, _, _, he, Sl.nil _ _ _ _ _ (by omega), Sl.nil _ _ _ _ _ (by omega), .inr ⟨h1, rfl, rfl, rfl⟩, hb, fun b o e => (by cases e), fun b o e => (by cases e)⟩

theorem three_allocs (w : World) (F : TypeId) (x y u v : Value) : ∃ w3 : World, ((w.alloc (.cells #[x, y] F)).alloc (.cells #[u, v] F)).alloc (.cells #[.slice none 0 0, .slice none 0 0] F) = w3 ∧
    Blk w3 w.heap.size F #[x, y] ∧ Blk w3 (w.heap.size + 1) F #[u, v] ∧ Blk w3 (w.heap.size + 1 + 1) F #[.slice none 0 0, .slice none 0 0] ∧ Below w.heap.size w w3 ∧ w3.heap.size = w.heap.size + 1 + 1 + 1 := by
  refine ⟨_, rfl, ((Blk.new w F #[x, y]).alloc _).alloc _, ?_, ?_, ?_, by simp⟩
  · have h := (Blk.new (w.alloc (.cells #[x, y] F)) F #[u, v]).alloc (.cells #[.slice none 0 0, .slice none 0 0] F)
    simpa using h
  · have h := Blk.new ((w.alloc (.cells #[x, y] F)).alloc (.cells #[u, v] F)) F #[.slice none 0 0, .slice none 0 0]
    simpa using h
  · exact (((Below.refl _ _).alloc (Nat.le_refl _) _).alloc (by simp) _).alloc (by simp; omega) _

theorem lt_prod {x y : Nat} (hx : Fits x) (hy : Fits y) : x * y < 4294967296 ^ 128 := by
  have e3 := Nat.mul_lt_mul'' hx hy
  rwa [← Nat.pow_add] at e3
theorem lt_sumE {x y b k : Nat} (hx : x < b ^ k) (hy : y < b ^ k) (hb : 2 ≤ b) : x + y < b ^ (k + 1) := by
  rw [Nat.pow_succ]
  have : b ^ k * 2 ≤ b ^ k * b := Nat.mul_le_mul_left _ hb
  omega
theorem lt_sum {x y : Nat} (hx : x < 4294967296 ^ 128) (hy : y < 4294967296 ^ 128) : x + y < 4294967296 ^ 129 := lt_sumE hx hy (by omega)
theorem Num.n129 {l : List Nat} {N n : Nat} (h : Num 4294967296 l N) (hN : N < 4294967296 ^ 129) (hl : l.length = n) : n ≤ 129 := by
  rw [← hl]; exact (h.length_le (by omega) 129).2 hN
theorem Num.n128 {l : List Nat} {N n : Nat} (h : Num 4294967296 l N) (hN : N < 4294967296 ^ 128) (hl : l.length = n) : n ≤ 128 := by
  rw [← hl]; exact (h.length_le (by omega) 128).2 hN

set_option maxHeartbeats 400000 in
theorem xcheckfrac_c (f : FA) (w : World) (B : Nat) (hf : f.Rd w B) (hB : B ≤ w.heap.size) :
    Calls Try.prog 37 #[.agg #[.slice f.A f.n f.c, .slice f.A' f.n' f.c']] w fun e w' => e = .returned (.int .i64 (errV [f])) ∧ Below w.heap.size w w' := by
  have hb := ((Below.refl w.heap.size w).alloc (Nat.le_refl _) (.cells #[.slice f.A f.n f.c, .slice f.A' f.n' f.c'] 25)).alloc (by simp) (.cells #[.slice f.A f.n f.c, .slice f.A' f.n' f.c'] 25)
  have hG := Blk.new (w.alloc (.cells #[.slice f.A f.n f.c, .slice f.A' f.n' f.c'] 25)) 25 #[.slice f.A f.n f.c, .slice f.A' f.n' f.c']
  have hs1 : ((w.alloc (.cells #[.slice f.A f.n f.c, .slice f.A' f.n' f.c'] 25)).alloc (.cells #[.slice f.A f.n f.c, .slice f.A' f.n' f.c'] 25)).heap.size = w.heap.size + 2 := by simp
  go_enter Try.func37, Try.ntmps37
  go_wp2_with fail
  generalize ((w.alloc (.cells #[.slice f.A f.n f.c, .slice f.A' f.n' f.c'] 25)).alloc (.cells #[.slice f.A f.n f.c, .slice f.A' f.n' f.c'] 25)) = w1 at *
  simp only [World.size_alloc] at hG
  have hf1 := (hf.below (hb.mono hB)).mono (show B ≤ w1.heap.size by omega)
  have t1 := valid_c (w.heap.size + 1) 1 [f] w1 w1.heap.size (fun i h => by
      obtain rfl : i = 0 := by simpa using h
      exact ⟨by rw [hG.cell]; rfl, by rw [hG.cell]; rfl⟩) (by omega) (fun f' h => by
      obtain rfl : f' = f := by simpa using h
      exact hf1) (Nat.le_refl _) (by simp)
  refine t1.mono ?_
  rintro e w2 ⟨rfl, hb2⟩
  go_wp2
  go_ret
  exact ⟨rfl, hb.trans (hb2.mono hb.size)⟩


theorem far2 {w : World} {p : Addr} {v : Value} {R : Nat} (h : w.cell? p = some v) (hp : p.block ≠ R) (a b : Value) : ((w.setCell ⟨R, 0, none⟩ a).setCell ⟨R, 1, none⟩ b).cell? p = some v := by
  rw [World.cell?_setCell_other _ _ _ _ (fun e => hp (congrArg Addr.block e).symm), World.cell?_setCell_other _ _ _ _ (fun e => hp (congrArg Addr.block e).symm)]
  exact h
theorem lt128E {x b k : Nat} (h : x < b ^ k) (hb : 0 < b) : x < b ^ (k + 1) := Nat.lt_of_lt_of_le h (Nat.pow_le_pow_right hb (by omega))
theorem lt128 {x : Nat} (h : x < 4294967296 ^ 128) : x < 4294967296 ^ 129 := lt128E h (by omega)

set_option maxRecDepth 100000 in
set_option maxHeartbeats 6400000 in
theorem xfadd_c (f g : FA) (w : World) (hf : f.Rd w w.heap.size) (hg : g.Rd w w.heap.size) :
    Calls Try.prog 44 #[.agg #[.slice f.A f.n f.c, .slice f.A' f.n' f.c'], .agg #[.slice g.A g.n g.c, .slice g.A' g.n' g.c']] w (FracF w (SFr f g (SRed (val 4294967296 f.l * val 4294967296 g.l' + val 4294967296 g.l * val 4294967296 f.l') (val 4294967296 f.l' * val 4294967296 g.l')))) := by
  obtain ⟨w3, hw3, bF, bG, bR, hb, hsz⟩ := three_allocs w 25 (.slice f.A f.n f.c) (.slice f.A' f.n' f.c') (.slice g.A g.n g.c) (.slice g.A' g.n' g.c')
  have bL := Blk.new w3 25 #[.slice f.A f.n f.c, .slice f.A' f.n' f.c', .slice g.A g.n g.c, .slice g.A' g.n' g.c']
  have ha := (Below.refl w3.heap.size w3).alloc (Nat.le_refl _) (.cells #[.slice f.A f.n f.c, .slice f.A' f.n' f.c', .slice g.A g.n g.c, .slice g.A' g.n' g.c'] 25)
  rw [hsz] at bL
  go_enter Try.func44, Try.ntmps44
  obtain ⟨F0, F1⟩ := bF.cells2
  obtain ⟨G0, G1⟩ := bG.cells2
  go_wp2_with fail
  clear hw3 F0 F1 G0 G1
  generalize w3.alloc (.cells #[.slice f.A f.n f.c, .slice f.A' f.n' f.c', .slice g.A g.n g.c, .slice g.A' g.n' g.c'] 25) = w4 at *
  have hb4 := hb.trans (ha.mono hb.size)
  replace bF := bF.keep ha
  replace bG := bG.keep ha
  replace bR := bR.keep ha
  have hf4 := (hf.below hb4).mono hb4.size
  have hg4 := (hg.below hb4).mono hb4.size
  have t1 := valid_c (w.heap.size + 1 + 1 + 1) 2 [f, g] w4 w4.heap.size (fun i h => by
      have h2 : i = 0 ∨ i = 1 := by simp at h; omega
      rcases h2 with rfl | rfl
      · exact ⟨by rw [bL.cell]; rfl, by rw [bL.cell]; rfl⟩
      · exact ⟨by rw [bL.cell]; rfl, by rw [bL.cell]; rfl⟩) bL.lt (fun f' h => by
      have h2 : f' = f ∨ f' = g := by simpa using h
      rcases h2 with rfl | rfl
      · exact hf4
      · exact hg4) (Nat.le_refl _) (by simp)
  clear ha hb hsz
  refine t1.mono ?_
  rintro e w5 ⟨rfl, hb5⟩
  clear t1 bL
  replace bF := bF.keep hb5
  replace bG := bG.keep hb5
  replace bR := bR.keep hb5
  have hf5 := (hf4.below hb5).mono hb5.size
  have hg5 := (hg4.below hb5).mono hb5.size
  have hw5 := hb4.trans (hb5.mono hb4.size)
  have hR5 := bR.lt
  clear hf4 hg4 hb4 hb5
  obtain ⟨er, her⟩ : ∃ er, errV [f, g] = er := ⟨_, rfl⟩
  have HE := hide her
  rw [her]
  clear her
  obtain ⟨F0, F1⟩ := bF.cells2
  obtain ⟨G0, G1⟩ := bG.cells2
  obtain ⟨R0, R1⟩ := bR.cells2
  have Z0 := bR.frozen 0
  have Z1 := bR.frozen 1
  by_cases h0 : er = 0
  · subst h0
    obtain ⟨p1, p2, p3, p4, p5, p6⟩ := errV_two HE.out
    have ffn := hf5.fn p1
    have ffd := hf5.fd p2
    have fgn := hg5.fn p4
    have fgd := hg5.fd p5
    go_wp2_with fail
    refine (cross_c f g w5 _ hf5 hg5 (Nat.le_refl _) p1 p2 p4 p5).mono ?_
    rintro e w6 ⟨A1, n1, c1, l1, A2, n2, c2, l2, rfl, s1, s2, N1, N2, hb6⟩
    have k1 := N1.n128 (lt_prod ffn fgd) s1.len
    have k2 := N2.n128 (lt_prod fgn ffd) s2.len
    replace bR := bR.keep hb6
    replace F1 := cells_keep F1 hb6
    replace G1 := cells_keep G1 hb6
    replace R0 := cells_keep R0 hb6
    replace R1 := cells_keep R1 hb6
    replace Z0 := bR.frozen 0
    replace Z1 := bR.frozen 1
    have hw6 := hw5.trans (hb6.mono hw5.size)
    have key1 : ∀ wx, Below w6.heap.size w6 wx → Calls Try.prog 86 #[.slice A1 n1 c1, .slice A2 n2 c2] wx (NatV wx (val 4294967296 f.l * val 4294967296 g.l' + val 4294967296 g.l * val 4294967296 f.l')) := fun wx hbx => by
      have t := plus_c _ _ _ _ _ _ _ _ wx _ ((s1.below hbx).mono hbx.size) ((s2.below hbx).mono hbx.size) (Nat.le_refl _) N1.dig N2.dig (by omega) (by omega)
      rw [N1.val_, N2.val_] at t
      exact t.mono fun _ _ h => h.v
    have key2 : ∀ wx, Below w6.heap.size w6 wx → Calls Try.prog 89 #[.slice f.A' f.n' f.c', .slice g.A' g.n' g.c'] wx (NatV wx (val 4294967296 f.l' * val 4294967296 g.l')) := fun wx hbx =>
      (times_c _ _ _ _ _ _ _ _ wx _ ((hf5.den.below (Go.Below.step hb6 hbx (Nat.le_refl _))).mono (Go.Below.step hb6 hbx (Nat.le_refl _)).size) ((hg5.den.below (Go.Below.step hb6 hbx (Nat.le_refl _))).mono (Go.Below.step hb6 hbx (Nat.le_refl _)).size) (Nat.le_refl _) hf5.dd hg5.dd (by omega) (by omega)).mono fun _ _ h => h.v
    have key3 : ∀ wx Ax nx cx lx Ay ny cy ly, Below w6.heap.size w6 wx → Sl wx wx.heap.size .u32 Ax nx cx lx → Sl wx wx.heap.size .u32 Ay ny cy ly → Num 4294967296 lx (val 4294967296 f.l * val 4294967296 g.l' + val 4294967296 g.l * val 4294967296 f.l') → Num 4294967296 ly (val 4294967296 f.l' * val 4294967296 g.l') →
        Calls Try.prog 72 #[.slice Ax nx cx, .slice Ay ny cy] wx fun e w' => ∃ A n c l A' n' c' l' err, e = .returned (.tuple #[.agg #[.slice A n c, .slice A' n' c'], .int .i64 err]) ∧ Sl w' w'.heap.size .u32 A n c l ∧ Sl w' w'.heap.size .u32 A' n' c' l' ∧
          SRed (val 4294967296 f.l * val 4294967296 g.l' + val 4294967296 g.l * val 4294967296 f.l') (val 4294967296 f.l' * val 4294967296 g.l') l l' err ∧ Below wx.heap.size wx w' ∧ (∀ b o, A = some ⟨b, o, none⟩ → w6.heap.size ≤ b) ∧ (∀ b o, A' = some ⟨b, o, none⟩ → w6.heap.size ≤ b) := fun wx Ax nx cx lx Ay ny cy ly hbx sx sy Nx Ny => by
      have hx := Nx.n129 (lt_sum (lt_prod ffn fgd) (lt_prod fgn ffd)) sx.len
      have hy := Ny.n128 (lt_prod ffd fgd) sy.len
      have t := reduced_c _ _ _ _ _ _ _ _ wx _ sx sy (Nat.le_refl _) Nx.dig Ny.dig (by omega) (by omega) (by rw [Ny.val_]; exact Nat.mul_pos p3 p6)
      rw [Nx.val_, Ny.val_] at t
      exact t.mono fun e w' h => by
        obtain ⟨A, n, c, l, A', n', c', l', err, he, s1, s2, S, hb, f1, f2⟩ := h.f
        have := hbx.size
        exact ⟨A, n, c, l, A', n', c', l', err, he, s1, s2, S, hb, fun b o e => Nat.le_trans this (f1 b o e), fun b o e => Nat.le_trans this (f2 b o e)⟩
    have keep : ∀ wx, Below w6.heap.size w6 wx → (wx.cell? ⟨w.heap.size, 1, none⟩ = some (.slice f.A' f.n' f.c') ∧ wx.cell? ⟨w.heap.size + 1, 1, none⟩ = some (.slice g.A' g.n' g.c')) ∧ Below w6.heap.size w6 wx := fun wx hbx =>
      ⟨⟨cells_keep F1 hbx, cells_keep G1 hbx⟩, hbx⟩
    have hRW : w.heap.size + 1 + 1 < w6.heap.size := bR.lt
    have keepS : ∀ (wx : World) (u v : Value), Below w6.heap.size w6 wx → ((wx.setCell ⟨w.heap.size + 1 + 1, 0, none⟩ u).setCell ⟨w.heap.size + 1 + 1, 1, none⟩ v).cell? ⟨w.heap.size, 1, none⟩ = some (.slice f.A' f.n' f.c') ∧ ((wx.setCell ⟨w.heap.size + 1 + 1, 0, none⟩ u).setCell ⟨w.heap.size + 1 + 1, 1, none⟩ v).cell? ⟨w.heap.size + 1, 1, none⟩ = some (.slice g.A' g.n' g.c') := fun wx u v hbx =>
      ⟨far2 (cells_keep F1 hbx) (by simp <;> omega) u v, far2 (cells_keep G1 hbx) (by simp <;> omega) u v⟩
    have K1 := hide key1
    have K2 := hide key2
    have K3 := hide key3
    have KB := hide keep
    have KS := hide keepS
    have hb66 := Below.refl w6.heap.size w6
    clear key1 key2 key3 keep keepS
    go_wp2
    go_region_held3 (fun wx => wx.cell? ⟨w.heap.size, 1, none⟩ = some (.slice f.A' f.n' f.c') ∧ wx.cell? ⟨w.heap.size + 1, 1, none⟩ = some (.slice g.A' g.n' g.c'))
      (first | exact (KB.out _ hb66.drew).1 | exact (KB.out _ hW1).1 | exact (KB.out _ hW2).1 | exact (KB.out _ hW3).1 | exact KS.out _ _ _ hW3 | fail)
      (first
        | (go_at_call 86; refine (K1.out _ (by first | exact hb66.drew | exact hW2)).mono ?_; rintro e wz ⟨A3, n3, c3, l3, rfl, s3, N3, hbz1⟩; have hW1 : Below w6.heap.size w6 wz := Go.Below.step (by first | exact hb66.drew | exact hW2) hbz1 (Nat.le_refl _))
        | (go_at_call 89; refine (K2.out _ (by first | exact hb66.drew | exact hW1)).mono ?_; rintro e wz ⟨A4, n4, c4, l4, rfl, s4, N4, hbz2⟩; have hW2 : Below w6.heap.size w6 wz := Go.Below.step (by first | exact hb66.drew | exact hW1) hbz2 (Nat.le_refl _))
        | (go_at_call 72; refine (K3.out _ _ _ _ l3 _ _ _ l4 (by first | exact hW2 | exact hW1) (by first | exact s3 | exact (s3.below hbz2).mono hbz2.size) (by first | exact s4 | exact (s4.below hbz1).mono hbz1.size) N3 N4).mono ?_; rintro e wz ⟨A5, n5, c5, l5, A6, n6, c6, l6, err, rfl, s5, s6, S5, hbz3, fr5, fr6⟩; have hW3 : Below w6.heap.size w6 wz := Go.Below.step (by first | exact hW2 | exact hW1) hbz3 (Nat.le_refl _);
           have Q0 := cells_keep R0 hW3; have Q1 := cells_keep R1 hW3; have Y0 := frozen_keep R0 Z0 hW3; have Y1 := frozen_keep R1 Z1 hW3)
        | fail)
    all_goals
      have hR8 := (bR.keep hW3).two (.slice A5 n5 c5) (.slice A6 n6 c6)
      have hb8 := below_two (hw6.trans (hW3.mono hw6.size)) (g := w.heap.size + 1 + 1) (by omega) (.slice A5 n5 c5) (.slice A6 n6 c6)
      have p5' := s5.two (g := w.heap.size + 1 + 1) (fun b o e _ => by have := fr5 b o e; omega) (.slice A5 n5 c5) (.slice A6 n6 c6)
      have p6' := s6.two (g := w.heap.size + 1 + 1) (fun b o e _ => by have := fr6 b o e; omega) (.slice A5 n5 c5) (.slice A6 n6 c6)
      have hz8 : ((wz.setCell ⟨w.heap.size + 1 + 1, 0, none⟩ (.slice A5 n5 c5)).setCell ⟨w.heap.size + 1 + 1, 1, none⟩ (.slice A6 n6 c6)).heap.size = wz.heap.size := by simp
      clear Q0 Q1 Y0 Y1
      go_wp2
      generalize (wz.setCell ⟨w.heap.size + 1 + 1, 0, none⟩ (.slice A5 n5 c5)).setCell ⟨w.heap.size + 1 + 1, 1, none⟩ (.slice A6 n6 c6) = w8 at *
      obtain ⟨q0, q1⟩ := hR8.cells2
      rw [← hz8] at p5' p6'
      refine bodyPost_ret (v := .tuple #[.agg #[.slice A5 n5 c5, .slice A6 n6 c6], .int .i64 err]) (by simp [results, Try.results44, go_sem, q0, q1]) rfl ?_
      exact ⟨_, _, _, _, _, _, _, _, _, rfl, p5', p6', .inl ⟨HE.out, S5⟩, hb8, fun b o e => (by have := fr5 b o e; omega), fun b o e => (by have := fr6 b o e; omega)⟩
  · have h0' : (er != 0) = true := by rw [bne_iff_ne]; exact h0
    have hR8 := bR.two (.slice none 0 0) (.slice none 0 0)
    have hb8 := below_two hw5 (g := w.heap.size + 1 + 1) (by omega) (.slice none 0 0) (.slice none 0 0)
    go_wp2
    generalize (w5.setCell ⟨w.heap.size + 1 + 1, 0, none⟩ (.slice none 0 0)).setCell ⟨w.heap.size + 1 + 1, 1, none⟩ (.slice none 0 0) = w8 at *
    obtain ⟨q0, q1⟩ := hR8.cells2
    refine bodyPost_ret (v := .tuple #[.agg #[.slice none 0 0, .slice none 0 0], .int .i64 er]) (by simp [results, Try.results44, go_sem, q0, q1]) rfl ?_
    exact ⟨_, _, _, _, _, _, _, _, _, rfl, Sl.nil _ _ _ _ _ (by omega), Sl.nil _ _ _ _ _ (by omega), .inr ⟨by rw [HE.out]; exact h0, rfl, rfl, HE.out.symm⟩, hb8, fun b o e => (by cases e), fun b o e => (by cases e)⟩

set_option maxRecDepth 100000 in
set_option maxHeartbeats 6400000 in
theorem xfmul_c (f g : FA) (w : World) (hf : f.Rd w w.heap.size) (hg : g.Rd w w.heap.size) :
    Calls Try.prog 48 #[.agg #[.slice f.A f.n f.c, .slice f.A' f.n' f.c'], .agg #[.slice g.A g.n g.c, .slice g.A' g.n' g.c']] w (FracF w (SFr f g (SRed (val 4294967296 f.l * val 4294967296 g.l) (val 4294967296 f.l' * val 4294967296 g.l')))) := by
  obtain ⟨w3, hw3, bF, bG, bR, hb, hsz⟩ := three_allocs w 25 (.slice f.A f.n f.c) (.slice f.A' f.n' f.c') (.slice g.A g.n g.c) (.slice g.A' g.n' g.c')
  have bL := Blk.new w3 25 #[.slice f.A f.n f.c, .slice f.A' f.n' f.c', .slice g.A g.n g.c, .slice g.A' g.n' g.c']
  have ha := (Below.refl w3.heap.size w3).alloc (Nat.le_refl _) (.cells #[.slice f.A f.n f.c, .slice f.A' f.n' f.c', .slice g.A g.n g.c, .slice g.A' g.n' g.c'] 25)
  rw [hsz] at bL
  go_enter Try.func48, Try.ntmps48
  obtain ⟨F0, F1⟩ := bF.cells2
  obtain ⟨G0, G1⟩ := bG.cells2
  go_wp2_with fail
  clear hw3 F0 F1 G0 G1
  generalize w3.alloc (.cells #[.slice f.A f.n f.c, .slice f.A' f.n' f.c', .slice g.A g.n g.c, .slice g.A' g.n' g.c'] 25) = w4 at *
  have hb4 := hb.trans (ha.mono hb.size)
  replace bF := bF.keep ha
  replace bG := bG.keep ha
  replace bR := bR.keep ha
  have hf4 := (hf.below hb4).mono hb4.size
  have hg4 := (hg.below hb4).mono hb4.size
  have t1 := valid_c (w.heap.size + 1 + 1 + 1) 2 [f, g] w4 w4.heap.size (fun i h => by
      have h2 : i = 0 ∨ i = 1 := by simp at h; omega
      rcases h2 with rfl | rfl
      · exact ⟨by rw [bL.cell]; rfl, by rw [bL.cell]; rfl⟩
      · exact ⟨by rw [bL.cell]; rfl, by rw [bL.cell]; rfl⟩) bL.lt (fun f' h => by
      have h2 : f' = f ∨ f' = g := by simpa using h
      rcases h2 with rfl | rfl
      · exact hf4
      · exact hg4) (Nat.le_refl _) (by simp)
  clear ha hb hsz
  refine t1.mono ?_
  rintro e w5 ⟨rfl, hb5⟩
  clear t1 bL
  replace bF := bF.keep hb5
  replace bG := bG.keep hb5
  replace bR := bR.keep hb5
  have hf5 := (hf4.below hb5).mono hb5.size
  have hg5 := (hg4.below hb5).mono hb5.size
  have hw5 := hb4.trans (hb5.mono hb4.size)
  have hR5 := bR.lt
  clear hf4 hg4 hb4 hb5
  obtain ⟨er, her⟩ : ∃ er, errV [f, g] = er := ⟨_, rfl⟩
  have HE := hide her
  rw [her]
  clear her
  obtain ⟨F0, F1⟩ := bF.cells2
  obtain ⟨G0, G1⟩ := bG.cells2
  obtain ⟨R0, R1⟩ := bR.cells2
  have Z0 := bR.frozen 0
  have Z1 := bR.frozen 1
  by_cases h0 : er = 0
  · subst h0
    obtain ⟨p1, p2, p3, p4, p5, p6⟩ := errV_two HE.out
    have ffn := hf5.fn p1
    have ffd := hf5.fd p2
    have fgn := hg5.fn p4
    have fgd := hg5.fd p5
    have key1 : ∀ wx, Below w5.heap.size w5 wx → Calls Try.prog 89 #[.slice f.A f.n f.c, .slice g.A g.n g.c] wx (NatV wx (val 4294967296 f.l * val 4294967296 g.l)) := fun wx hbx =>
      (times_c _ _ _ _ _ _ _ _ wx _ ((hf5.num.below hbx).mono hbx.size) ((hg5.num.below hbx).mono hbx.size) (Nat.le_refl _) hf5.dn hg5.dn (by omega) (by omega)).mono fun _ _ h => h.v
    have key2 : ∀ wx, Below w5.heap.size w5 wx → Calls Try.prog 89 #[.slice f.A' f.n' f.c', .slice g.A' g.n' g.c'] wx (NatV wx (val 4294967296 f.l' * val 4294967296 g.l')) := fun wx hbx =>
      (times_c _ _ _ _ _ _ _ _ wx _ ((hf5.den.below hbx).mono hbx.size) ((hg5.den.below hbx).mono hbx.size) (Nat.le_refl _) hf5.dd hg5.dd (by omega) (by omega)).mono fun _ _ h => h.v
    have key3 : ∀ wx Ax nx cx lx Ay ny cy ly, Below w5.heap.size w5 wx → Sl wx wx.heap.size .u32 Ax nx cx lx → Sl wx wx.heap.size .u32 Ay ny cy ly → Num 4294967296 lx (val 4294967296 f.l * val 4294967296 g.l) → Num 4294967296 ly (val 4294967296 f.l' * val 4294967296 g.l') →
        Calls Try.prog 72 #[.slice Ax nx cx, .slice Ay ny cy] wx fun e w' => ∃ A n c l A' n' c' l' err, e = .returned (.tuple #[.agg #[.slice A n c, .slice A' n' c'], .int .i64 err]) ∧ Sl w' w'.heap.size .u32 A n c l ∧ Sl w' w'.heap.size .u32 A' n' c' l' ∧
          SRed (val 4294967296 f.l * val 4294967296 g.l) (val 4294967296 f.l' * val 4294967296 g.l') l l' err ∧ Below wx.heap.size wx w' ∧ (∀ b o, A = some ⟨b, o, none⟩ → w5.heap.size ≤ b) ∧ (∀ b o, A' = some ⟨b, o, none⟩ → w5.heap.size ≤ b) := fun wx Ax nx cx lx Ay ny cy ly hbx sx sy Nx Ny => by
      have hx := Nx.n129 (lt128 (lt_prod ffn fgn)) sx.len
      have hy := Ny.n128 (lt_prod ffd fgd) sy.len
      have t := reduced_c _ _ _ _ _ _ _ _ wx _ sx sy (Nat.le_refl _) Nx.dig Ny.dig (by omega) (by omega) (by rw [Ny.val_]; exact Nat.mul_pos p3 p6)
      rw [Nx.val_, Ny.val_] at t
      exact t.mono fun e w' h => by
        obtain ⟨A, n, c, l, A', n', c', l', err, he, s1, s2, S, hb, f1, f2⟩ := h.f
        have := hbx.size
        exact ⟨A, n, c, l, A', n', c', l', err, he, s1, s2, S, hb, fun b o e => Nat.le_trans this (f1 b o e), fun b o e => Nat.le_trans this (f2 b o e)⟩
    have keep : ∀ wx, Below w5.heap.size w5 wx → (wx.cell? ⟨w.heap.size, 0, none⟩ = some (.slice f.A f.n f.c) ∧ wx.cell? ⟨w.heap.size + 1, 0, none⟩ = some (.slice g.A g.n g.c) ∧ wx.cell? ⟨w.heap.size, 1, none⟩ = some (.slice f.A' f.n' f.c') ∧ wx.cell? ⟨w.heap.size + 1, 1, none⟩ = some (.slice g.A' g.n' g.c')) ∧ Below w5.heap.size w5 wx := fun wx hbx =>
      ⟨⟨cells_keep F0 hbx, cells_keep G0 hbx, cells_keep F1 hbx, cells_keep G1 hbx⟩, hbx⟩
    have hRW : w.heap.size + 1 + 1 < w5.heap.size := bR.lt
    have keepS : ∀ (wx : World) (u v : Value), Below w5.heap.size w5 wx → ((wx.setCell ⟨w.heap.size + 1 + 1, 0, none⟩ u).setCell ⟨w.heap.size + 1 + 1, 1, none⟩ v).cell? ⟨w.heap.size, 0, none⟩ = some (.slice f.A f.n f.c) ∧ ((wx.setCell ⟨w.heap.size + 1 + 1, 0, none⟩ u).setCell ⟨w.heap.size + 1 + 1, 1, none⟩ v).cell? ⟨w.heap.size + 1, 0, none⟩ = some (.slice g.A g.n g.c) ∧ ((wx.setCell ⟨w.heap.size + 1 + 1, 0, none⟩ u).setCell ⟨w.heap.size + 1 + 1, 1, none⟩ v).cell? ⟨w.heap.size, 1, none⟩ = some (.slice f.A' f.n' f.c') ∧ ((wx.setCell ⟨w.heap.size + 1 + 1, 0, none⟩ u).setCell ⟨w.heap.size + 1 + 1, 1, none⟩ v).cell? ⟨w.heap.size + 1, 1, none⟩ = some (.slice g.A' g.n' g.c') := fun wx u v hbx =>
      ⟨far2 (cells_keep F0 hbx) (by simp <;> omega) u v, far2 (cells_keep G0 hbx) (by simp <;> omega) u v, far2 (cells_keep F1 hbx) (by simp <;> omega) u v, far2 (cells_keep G1 hbx) (by simp <;> omega) u v⟩
    have K1 := hide key1
    have K2 := hide key2
    have K3 := hide key3
    have KB := hide keep
    have KS := hide keepS
    have hb66 := Below.refl w5.heap.size w5
    clear key1 key2 key3 keep keepS
    go_wp2
    go_region_held3 (fun wx => wx.cell? ⟨w.heap.size, 0, none⟩ = some (.slice f.A f.n f.c) ∧ wx.cell? ⟨w.heap.size + 1, 0, none⟩ = some (.slice g.A g.n g.c) ∧ wx.cell? ⟨w.heap.size, 1, none⟩ = some (.slice f.A' f.n' f.c') ∧ wx.cell? ⟨w.heap.size + 1, 1, none⟩ = some (.slice g.A' g.n' g.c'))
      (first | exact (KB.out _ hb66.drew).1 | exact (KB.out _ hW1).1 | exact (KB.out _ hW2).1 | exact (KB.out _ hW3).1 | exact KS.out _ _ _ hW3 | fail)
      (first
        | (go_at_call_of 89 (Value.slice f.A f.n f.c); refine (K1.out _ (by first | exact hb66.drew | exact hW2)).mono ?_; rintro e wz ⟨A3, n3, c3, l3, rfl, s3, N3, hbz1⟩; have hW1 : Below w5.heap.size w5 wz := Go.Below.step (by first | exact hb66.drew | exact hW2) hbz1 (Nat.le_refl _))
        | (go_at_call_of 89 (Value.slice f.A' f.n' f.c'); refine (K2.out _ (by first | exact hb66.drew | exact hW1)).mono ?_; rintro e wz ⟨A4, n4, c4, l4, rfl, s4, N4, hbz2⟩; have hW2 : Below w5.heap.size w5 wz := Go.Below.step (by first | exact hb66.drew | exact hW1) hbz2 (Nat.le_refl _))
        | (go_at_call 72; refine (K3.out _ _ _ _ l3 _ _ _ l4 (by first | exact hW2 | exact hW1) (by first | exact s3 | exact (s3.below hbz2).mono hbz2.size) (by first | exact s4 | exact (s4.below hbz1).mono hbz1.size) N3 N4).mono ?_; rintro e wz ⟨A5, n5, c5, l5, A6, n6, c6, l6, err, rfl, s5, s6, S5, hbz3, fr5, fr6⟩; have hW3 : Below w5.heap.size w5 wz := Go.Below.step (by first | exact hW2 | exact hW1) hbz3 (Nat.le_refl _);
           have Q0 := cells_keep R0 hW3; have Q1 := cells_keep R1 hW3; have Y0 := frozen_keep R0 Z0 hW3; have Y1 := frozen_keep R1 Z1 hW3)
        | fail)
    all_goals
      have hR8 := (bR.keep hW3).two (.slice A5 n5 c5) (.slice A6 n6 c6)
      have hb8 := below_two (hw5.trans (hW3.mono hw5.size)) (g := w.heap.size + 1 + 1) (by omega) (.slice A5 n5 c5) (.slice A6 n6 c6)
      have p5' := s5.two (g := w.heap.size + 1 + 1) (fun b o e _ => by have := fr5 b o e; omega) (.slice A5 n5 c5) (.slice A6 n6 c6)
      have p6' := s6.two (g := w.heap.size + 1 + 1) (fun b o e _ => by have := fr6 b o e; omega) (.slice A5 n5 c5) (.slice A6 n6 c6)
      have hz8 : ((wz.setCell ⟨w.heap.size + 1 + 1, 0, none⟩ (.slice A5 n5 c5)).setCell ⟨w.heap.size + 1 + 1, 1, none⟩ (.slice A6 n6 c6)).heap.size = wz.heap.size := by simp
      clear Q0 Q1 Y0 Y1
      go_wp2
      generalize (wz.setCell ⟨w.heap.size + 1 + 1, 0, none⟩ (.slice A5 n5 c5)).setCell ⟨w.heap.size + 1 + 1, 1, none⟩ (.slice A6 n6 c6) = w8 at *
      obtain ⟨q0, q1⟩ := hR8.cells2
      rw [← hz8] at p5' p6'
      refine bodyPost_ret (v := .tuple #[.agg #[.slice A5 n5 c5, .slice A6 n6 c6], .int .i64 err]) (by simp [results, Try.results48, go_sem, q0, q1]) rfl ?_
      exact ⟨_, _, _, _, _, _, _, _, _, rfl, p5', p6', .inl ⟨HE.out, S5⟩, hb8, fun b o e => (by have := fr5 b o e; omega), fun b o e => (by have := fr6 b o e; omega)⟩
  · have h0' : (er != 0) = true := by rw [bne_iff_ne]; exact h0
    have hR8 := bR.two (.slice none 0 0) (.slice none 0 0)
    have hb8 := below_two hw5 (g := w.heap.size + 1 + 1) (by omega) (.slice none 0 0) (.slice none 0 0)
    go_wp2
    generalize (w5.setCell ⟨w.heap.size + 1 + 1, 0, none⟩ (.slice none 0 0)).setCell ⟨w.heap.size + 1 + 1, 1, none⟩ (.slice none 0 0) = w8 at *
    obtain ⟨q0, q1⟩ := hR8.cells2
    refine bodyPost_ret (v := .tuple #[.agg #[.slice none 0 0, .slice none 0 0], .int .i64 er]) (by simp [results, Try.results48, go_sem, q0, q1]) rfl ?_
    exact ⟨_, _, _, _, _, _, _, _, _, rfl, Sl.nil _ _ _ _ _ (by omega), Sl.nil _ _ _ _ _ (by omega), .inr ⟨by rw [HE.out]; exact h0, rfl, rfl, HE.out.symm⟩, hb8, fun b o e => (by cases e), fun b o e => (by cases e)⟩

set_option maxRecDepth 100000 in
set_option maxHeartbeats 6400000 in
theorem xfsub_c (f g : FA) (w : World) (hf : f.Rd w w.heap.size) (hg : g.Rd w w.heap.size) :
    Calls Try.prog 46 #[.agg #[.slice f.A f.n f.c, .slice f.A' f.n' f.c'], .agg #[.slice g.A g.n g.c, .slice g.A' g.n' g.c']] w (FracF w (SFr f g (SDif (val 4294967296 f.l * val 4294967296 g.l') (val 4294967296 g.l * val 4294967296 f.l') (val 4294967296 f.l' * val 4294967296 g.l')))) := by
  obtain ⟨w3, hw3, bF, bG, bR, hb, hsz⟩ := three_allocs w 25 (.slice f.A f.n f.c) (.slice f.A' f.n' f.c') (.slice g.A g.n g.c) (.slice g.A' g.n' g.c')
  have bL := Blk.new w3 25 #[.slice f.A f.n f.c, .slice f.A' f.n' f.c', .slice g.A g.n g.c, .slice g.A' g.n' g.c']
  have ha := (Below.refl w3.heap.size w3).alloc (Nat.le_refl _) (.cells #[.slice f.A f.n f.c, .slice f.A' f.n' f.c', .slice g.A g.n g.c, .slice g.A' g.n' g.c'] 25)
  rw [hsz] at bL
  go_enter Try.func46, Try.ntmps46
  obtain ⟨F0, F1⟩ := bF.cells2
  obtain ⟨G0, G1⟩ := bG.cells2
  go_wp2_with fail
  clear hw3 F0 F1 G0 G1
  generalize w3.alloc (.cells #[.slice f.A f.n f.c, .slice f.A' f.n' f.c', .slice g.A g.n g.c, .slice g.A' g.n' g.c'] 25) = w4 at *
  have hb4 := hb.trans (ha.mono hb.size)
  replace bF := bF.keep ha
  replace bG := bG.keep ha
  replace bR := bR.keep ha
  have hf4 := (hf.below hb4).mono hb4.size
  have hg4 := (hg.below hb4).mono hb4.size
  have t1 := valid_c (w.heap.size + 1 + 1 + 1) 2 [f, g] w4 w4.heap.size (fun i h => by
      have h2 : i = 0 ∨ i = 1 := by simp at h; omega
      rcases h2 with rfl | rfl
      · exact ⟨by rw [bL.cell]; rfl, by rw [bL.cell]; rfl⟩
      · exact ⟨by rw [bL.cell]; rfl, by rw [bL.cell]; rfl⟩) bL.lt (fun f' h => by
      have h2 : f' = f ∨ f' = g := by simpa using h
      rcases h2 with rfl | rfl
      · exact hf4
      · exact hg4) (Nat.le_refl _) (by simp)
  clear ha hb hsz
  refine t1.mono ?_
  rintro e w5 ⟨rfl, hb5⟩
  clear t1 bL
  replace bF := bF.keep hb5
  replace bG := bG.keep hb5
  replace bR := bR.keep hb5
  have hf5 := (hf4.below hb5).mono hb5.size
  have hg5 := (hg4.below hb5).mono hb5.size
  have hw5 := hb4.trans (hb5.mono hb4.size)
  have hR5 := bR.lt
  clear hf4 hg4 hb4 hb5
  obtain ⟨er, her⟩ : ∃ er, errV [f, g] = er := ⟨_, rfl⟩
  have HE := hide her
  rw [her]
  clear her
  obtain ⟨F0, F1⟩ := bF.cells2
  obtain ⟨G0, G1⟩ := bG.cells2
  obtain ⟨R0, R1⟩ := bR.cells2
  have Z0 := bR.frozen 0
  have Z1 := bR.frozen 1
  by_cases h0 : er = 0
  · subst h0
    obtain ⟨p1, p2, p3, p4, p5, p6⟩ := errV_two HE.out
    have ffn := hf5.fn p1
    have ffd := hf5.fd p2
    have fgn := hg5.fn p4
    have fgd := hg5.fd p5
    go_wp2_with fail
    refine (cross_c f g w5 _ hf5 hg5 (Nat.le_refl _) p1 p2 p4 p5).mono ?_
    rintro e w6 ⟨A1, n1, c1, l1, A2, n2, c2, l2, rfl, s1, s2, N1, N2, hb6⟩
    have k1 := N1.n128 (lt_prod ffn fgd) s1.len
    have k2 := N2.n128 (lt_prod fgn ffd) s2.len
    replace bR := bR.keep hb6
    replace F1 := cells_keep F1 hb6
    replace G1 := cells_keep G1 hb6
    replace R0 := cells_keep R0 hb6
    replace R1 := cells_keep R1 hb6
    replace Z0 := bR.frozen 0
    replace Z1 := bR.frozen 1
    have hw6 := hw5.trans (hb6.mono hw5.size)
    have t2 := order_c _ _ _ _ _ _ _ _ w6 _ s1 s2 N1.dig N2.dig
    rw [N1.val_, N2.val_] at t2
    by_cases hle : val 4294967296 g.l * val 4294967296 f.l' ≤ val 4294967296 f.l * val 4294967296 g.l'
    · obtain ⟨z, hz, hz0⟩ : ∃ z, ordI (val 4294967296 f.l * val 4294967296 g.l') (val 4294967296 g.l * val 4294967296 f.l') = z ∧ 0 ≤ z := ⟨_, rfl, by
        unfold ordI
        rw [if_neg (by omega)]
        split <;> omega⟩
      rw [hz] at t2
      clear hz
      have k12 : n2 ≤ max n1 n2 := by omega
      go_wp2_with fail
      refine t2.mono ?_
      rintro e w7 ⟨rfl, q, hq⟩
      have hb7 : Below w6.heap.size w6 w7 := hq ▸ below_drewN (Below.refl _ _) q
      clear t2 hq
      replace bR := bR.keep hb7
      replace F1 := cells_keep F1 hb7
      replace G1 := cells_keep G1 hb7
      replace R0 := cells_keep R0 hb7
      replace R1 := cells_keep R1 hb7
      replace Z0 := bR.frozen 0
      replace Z1 := bR.frozen 1
      have hw7 := hw6.trans (hb7.mono hw6.size)
      have hb57 := Go.Below.step hb6 hb7 (Nat.le_refl _)
      have q1' := (s1.below hb7).mono hb7.size
      have q2' := (s2.below hb7).mono hb7.size
      have k21 : n2 ≤ n1 := by
        rw [← s2.len]
        refine (N2.length_le (by omega) n1).2 (Nat.lt_of_le_of_lt hle ?_)
        exact (N1.length_le (by omega) n1).1 (by rw [s1.len]; exact Nat.le_refl _)
      clear k12
      have key1 : ∀ wx, Below w7.heap.size w7 wx → Calls Try.prog 98 #[.slice A1 n1 c1, .slice A2 n2 c2] wx (NatV wx (val 4294967296 f.l * val 4294967296 g.l' - val 4294967296 g.l * val 4294967296 f.l')) := fun wx hbx => by
        have t := minus_c _ _ _ _ _ _ _ _ wx _ ((q1'.below hbx).mono hbx.size) ((q2'.below hbx).mono hbx.size) (Nat.le_refl _) N1.dig N2.dig (by omega) k21 (by rw [N1.val_, N2.val_]; exact hle)
        rw [N1.val_, N2.val_] at t
        exact t.mono fun _ _ h => h.v
      have key2 : ∀ wx, Below w7.heap.size w7 wx → Calls Try.prog 89 #[.slice f.A' f.n' f.c', .slice g.A' g.n' g.c'] wx (NatV wx (val 4294967296 f.l' * val 4294967296 g.l')) := fun wx hbx =>
        (times_c _ _ _ _ _ _ _ _ wx _ ((hf5.den.below (Go.Below.step hb57 hbx (Nat.le_refl _))).mono (Go.Below.step hb57 hbx (Nat.le_refl _)).size) ((hg5.den.below (Go.Below.step hb57 hbx (Nat.le_refl _))).mono (Go.Below.step hb57 hbx (Nat.le_refl _)).size) (Nat.le_refl _) hf5.dd hg5.dd (by omega) (by omega)).mono fun _ _ h => h.v
      have key3 : ∀ wx Ax nx cx lx Ay ny cy ly, Below w7.heap.size w7 wx → Sl wx wx.heap.size .u32 Ax nx cx lx → Sl wx wx.heap.size .u32 Ay ny cy ly → Num 4294967296 lx (val 4294967296 f.l * val 4294967296 g.l' - val 4294967296 g.l * val 4294967296 f.l') → Num 4294967296 ly (val 4294967296 f.l' * val 4294967296 g.l') →
          Calls Try.prog 72 #[.slice Ax nx cx, .slice Ay ny cy] wx fun e w' => ∃ A n c l A' n' c' l' err, e = .returned (.tuple #[.agg #[.slice A n c, .slice A' n' c'], .int .i64 err]) ∧ Sl w' w'.heap.size .u32 A n c l ∧ Sl w' w'.heap.size .u32 A' n' c' l' ∧
            SRed (val 4294967296 f.l * val 4294967296 g.l' - val 4294967296 g.l * val 4294967296 f.l') (val 4294967296 f.l' * val 4294967296 g.l') l l' err ∧ Below wx.heap.size wx w' ∧ (∀ b o, A = some ⟨b, o, none⟩ → w7.heap.size ≤ b) ∧ (∀ b o, A' = some ⟨b, o, none⟩ → w7.heap.size ≤ b) := fun wx Ax nx cx lx Ay ny cy ly hbx sx sy Nx Ny => by
        have hx := Nx.n129 (lt128 (Nat.lt_of_le_of_lt (Nat.sub_le _ _) (lt_prod ffn fgd))) sx.len
        have hy := Ny.n128 (lt_prod ffd fgd) sy.len
        have t := reduced_c _ _ _ _ _ _ _ _ wx _ sx sy (Nat.le_refl _) Nx.dig Ny.dig (by omega) (by omega) (by rw [Ny.val_]; exact Nat.mul_pos p3 p6)
        rw [Nx.val_, Ny.val_] at t
        exact t.mono fun e w' h => by
          obtain ⟨A, n, c, l, A', n', c', l', err, he, s1, s2, S, hb, f1, f2⟩ := h.f
          have := hbx.size
          exact ⟨A, n, c, l, A', n', c', l', err, he, s1, s2, S, hb, fun b o e => Nat.le_trans this (f1 b o e), fun b o e => Nat.le_trans this (f2 b o e)⟩
      have keep : ∀ wx, Below w7.heap.size w7 wx → (wx.cell? ⟨w.heap.size, 1, none⟩ = some (.slice f.A' f.n' f.c') ∧ wx.cell? ⟨w.heap.size + 1, 1, none⟩ = some (.slice g.A' g.n' g.c')) ∧ Below w7.heap.size w7 wx := fun wx hbx =>
        ⟨⟨cells_keep F1 hbx, cells_keep G1 hbx⟩, hbx⟩
      have hRW : w.heap.size + 1 + 1 < w7.heap.size := bR.lt
      have keepS : ∀ (wx : World) (u v : Value), Below w7.heap.size w7 wx → ((wx.setCell ⟨w.heap.size + 1 + 1, 0, none⟩ u).setCell ⟨w.heap.size + 1 + 1, 1, none⟩ v).cell? ⟨w.heap.size, 1, none⟩ = some (.slice f.A' f.n' f.c') ∧ ((wx.setCell ⟨w.heap.size + 1 + 1, 0, none⟩ u).setCell ⟨w.heap.size + 1 + 1, 1, none⟩ v).cell? ⟨w.heap.size + 1, 1, none⟩ = some (.slice g.A' g.n' g.c') := fun wx u v hbx =>
        ⟨far2 (cells_keep F1 hbx) (by simp <;> omega) u v, far2 (cells_keep G1 hbx) (by simp <;> omega) u v⟩
      have K1 := hide key1
      have K2 := hide key2
      have K3 := hide key3
      have KB := hide keep
      have KS := hide keepS
      have hb66 := Below.refl w7.heap.size w7
      clear key1 key2 key3 keep keepS
      go_wp2
      go_region_held3 (fun wx => wx.cell? ⟨w.heap.size, 1, none⟩ = some (.slice f.A' f.n' f.c') ∧ wx.cell? ⟨w.heap.size + 1, 1, none⟩ = some (.slice g.A' g.n' g.c'))
        (first | exact (KB.out _ hb66.drew).1 | exact (KB.out _ hW1).1 | exact (KB.out _ hW2).1 | exact (KB.out _ hW3).1 | exact KS.out _ _ _ hW3 | fail)
        (first
          | (go_at_call 98; refine (K1.out _ (by first | exact hb66.drew | exact hW2)).mono ?_; rintro e wz ⟨A3, n3, c3, l3, rfl, s3, N3, hbz1⟩; have hW1 : Below w7.heap.size w7 wz := Go.Below.step (by first | exact hb66.drew | exact hW2) hbz1 (Nat.le_refl _))
          | (go_at_call 89; refine (K2.out _ (by first | exact hb66.drew | exact hW1)).mono ?_; rintro e wz ⟨A4, n4, c4, l4, rfl, s4, N4, hbz2⟩; have hW2 : Below w7.heap.size w7 wz := Go.Below.step (by first | exact hb66.drew | exact hW1) hbz2 (Nat.le_refl _))
          | (go_at_call 72; refine (K3.out _ _ _ _ l3 _ _ _ l4 (by first | exact hW2 | exact hW1) (by first | exact s3 | exact (s3.below hbz2).mono hbz2.size) (by first | exact s4 | exact (s4.below hbz1).mono hbz1.size) N3 N4).mono ?_; rintro e wz ⟨A5, n5, c5, l5, A6, n6, c6, l6, err, rfl, s5, s6, S5, hbz3, fr5, fr6⟩; have hW3 : Below w7.heap.size w7 wz := Go.Below.step (by first | exact hW2 | exact hW1) hbz3 (Nat.le_refl _);
             have Q0 := cells_keep R0 hW3; have Q1 := cells_keep R1 hW3; have Y0 := frozen_keep R0 Z0 hW3; have Y1 := frozen_keep R1 Z1 hW3)
          | fail)
      all_goals
        have hR8 := (bR.keep hW3).two (.slice A5 n5 c5) (.slice A6 n6 c6)
        have hb8 := below_two (hw7.trans (hW3.mono hw7.size)) (g := w.heap.size + 1 + 1) (by omega) (.slice A5 n5 c5) (.slice A6 n6 c6)
        have p5' := s5.two (g := w.heap.size + 1 + 1) (fun b o e _ => by have := fr5 b o e; omega) (.slice A5 n5 c5) (.slice A6 n6 c6)
        have p6' := s6.two (g := w.heap.size + 1 + 1) (fun b o e _ => by have := fr6 b o e; omega) (.slice A5 n5 c5) (.slice A6 n6 c6)
        have hz8 : ((wz.setCell ⟨w.heap.size + 1 + 1, 0, none⟩ (.slice A5 n5 c5)).setCell ⟨w.heap.size + 1 + 1, 1, none⟩ (.slice A6 n6 c6)).heap.size = wz.heap.size := by simp
        clear Q0 Q1 Y0 Y1
        go_wp2
        generalize (wz.setCell ⟨w.heap.size + 1 + 1, 0, none⟩ (.slice A5 n5 c5)).setCell ⟨w.heap.size + 1 + 1, 1, none⟩ (.slice A6 n6 c6) = w8 at *
        obtain ⟨q0, q1⟩ := hR8.cells2
        rw [← hz8] at p5' p6'
        refine bodyPost_ret (v := .tuple #[.agg #[.slice A5 n5 c5, .slice A6 n6 c6], .int .i64 err]) (by simp [results, Try.results46, go_sem, q0, q1]) rfl ?_
        exact ⟨_, _, _, _, _, _, _, _, _, rfl, p5', p6', .inl ⟨HE.out, .inl ⟨hle, S5⟩⟩, hb8, fun b o e => (by have := fr5 b o e; omega), fun b o e => (by have := fr6 b o e; omega)⟩
    · rw [ordI_lt (by omega)] at t2
      go_wp2_with fail
      refine t2.mono ?_
      rintro e w7 ⟨rfl, q, hq⟩
      have hb7 : Below w6.heap.size w6 w7 := hq ▸ below_drewN (Below.refl _ _) q
      clear t2 hq
      replace bR := bR.keep hb7
      replace R0 := cells_keep R0 hb7
      replace R1 := cells_keep R1 hb7
      replace Z0 := bR.frozen 0
      replace Z1 := bR.frozen 1
      have hw7 := hw6.trans (hb7.mono hw6.size)
      have hR8 := bR.two (.slice none 0 0) (.slice none 0 0)
      have hb8 := below_two hw7 (g := w.heap.size + 1 + 1) (by omega) (.slice none 0 0) (.slice none 0 0)
      go_wp2
      generalize (w7.setCell ⟨w.heap.size + 1 + 1, 0, none⟩ (.slice none 0 0)).setCell ⟨w.heap.size + 1 + 1, 1, none⟩ (.slice none 0 0) = w8 at *
      obtain ⟨q0, q1⟩ := hR8.cells2
      refine bodyPost_ret (v := .tuple #[.agg #[.slice none 0 0, .slice none 0 0], .int .i64 3]) (by simp [results, Try.results46, go_sem, q0, q1]) rfl ?_
      exact ⟨_, _, _, _, _, _, _, _, _, rfl, Sl.nil _ _ _ _ _ (by omega), Sl.nil _ _ _ _ _ (by omega), .inl ⟨HE.out, .inr ⟨hle, rfl, rfl, rfl⟩⟩, hb8, fun b o e => (by cases e), fun b o e => (by cases e)⟩
  · have h0' : (er != 0) = true := by rw [bne_iff_ne]; exact h0
    have hR8 := bR.two (.slice none 0 0) (.slice none 0 0)
    have hb8 := below_two hw5 (g := w.heap.size + 1 + 1) (by omega) (.slice none 0 0) (.slice none 0 0)
    go_wp2
    generalize (w5.setCell ⟨w.heap.size + 1 + 1, 0, none⟩ (.slice none 0 0)).setCell ⟨w.heap.size + 1 + 1, 1, none⟩ (.slice none 0 0) = w8 at *
    obtain ⟨q0, q1⟩ := hR8.cells2
    refine bodyPost_ret (v := .tuple #[.agg #[.slice none 0 0, .slice none 0 0], .int .i64 er]) (by simp [results, Try.results46, go_sem, q0, q1]) rfl ?_
    exact ⟨_, _, _, _, _, _, _, _, _, rfl, Sl.nil _ _ _ _ _ (by omega), Sl.nil _ _ _ _ _ (by omega), .inr ⟨by rw [HE.out]; exact h0, rfl, rfl, HE.out.symm⟩, hb8, fun b o e => (by cases e), fun b o e => (by cases e)⟩

end Go.Proofs.Ytgilhkdmgbeieaa
