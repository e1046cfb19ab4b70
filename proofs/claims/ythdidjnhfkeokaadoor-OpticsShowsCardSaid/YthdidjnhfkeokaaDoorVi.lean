/- The state of a slot while the rules act on it; the wrapper of a quiet rule; blind. -/
import Derived.Test.YthdidjnhfkeokaaDoorVg
import Derived.Test.YthdidjnhfkeokaaDoorVh
namespace Go.Proofs.YthdidjnhfkeokaaDoor
open Go.RowKit

def Geo (base X D E : Nat) : Prop := base ≤ X ∧ D < base ∧ E < base ∧ D ≠ E
def Tr (base D E : Nat) : Nat → Prop := fun i => base ≤ i ∨ i = D ∨ i = E
def Sta (w : World) (base X D E : Nat) (x : Li) (s : Nat) (N : List No) : Prop :=
  liB w X x ∧ Dr w D s ∧ ∃ A, Bk w E base A N ∧ A.map (·.block) ≠ some X
def SAct (base X D E : Nat) (t : Li × List No × Nat) (w : World) (e : Ending) (w' : World) : Prop :=
  e = .returned (.tuple #[]) ∧ Sta w' base X D E t.1 t.2.2 t.2.1 ∧ Fr (Tr base D E) w w'
theorem Bk.fr {w w' : World} {E base : Nat} {A : Option Addr} {N : List No} {T : Nat → Prop} (h : Bk w E base A N) (f : Fr T w w') (hE : ¬ T E) (hA : ∀ g, A.map (·.block) = some g → ¬ T g) : Bk w' E base A N := by
  obtain ⟨n, c, h1, h2, h3⟩ := h
  exact ⟨n, c, h1.fr f hE, h2.fr f (fun g eg => hA g (by rw [eg]; rfl)), h3⟩
theorem Bk.base {w : World} {E base : Nat} {A : Option Addr} {N : List No} (h : Bk w E base A N) : ∀ g, A.map (·.block) = some g → base ≤ g ∧ g < w.heap.size := by
  obtain ⟨n, c, h1, h2, h3⟩ := h
  exact h2.block
theorem Sta.quiet {w w' : World} {base X D E : Nat} {x x' : Li} {s s' : Nat} {N : List No} (h : Sta w base X D E x s N) (g : Geo base X D E) (hx : liB w' X x') (hd : Dr w' D s') (f : Fr (fun i => i = X ∨ i = D) w w') : Sta w' base X D E x' s' N := by
  obtain ⟨h1, h2, A, h3, h4⟩ := h
  obtain ⟨g1, g2, g3, g4⟩ := g
  exact ⟨hx, hd, A, h3.fr f (by omega) (fun q hq => by have := (h3.base q hq).1; rintro (rfl | rfl); exact h4 hq; omega), h4⟩
theorem Sta.alloc {w : World} {base X D E : Nat} {x : Li} {s : Nat} {N : List No} (h : Sta w base X D E x s N) (g : Geo base X D E) (o : Obj) : Sta (w.alloc o) base X D E x s N :=
  h.quiet g (Blk.alloc h.1 o) (Blk.alloc h.2.1 o) ((Fr.refl _ _).alloc o)
theorem Sta.drewN {w : World} {base X D E : Nat} {x : Li} {s : Nat} {N : List No} (h : Sta w base X D E x s N) (g : Geo base X D E) (n : Nat) : Sta (w.drewN n) base X D E x s N :=
  h.quiet g (Blk.drewN h.1 n) (Blk.drewN h.2.1 n) ((Fr.refl _ _).drewN n)
theorem Fr.quiet {w w' : World} {base X D E : Nat} (f : Fr (fun i => i = X ∨ i = D) w w') (g : Geo base X D E) : Fr (Tr base D E) w w' :=
  f.imp (fun i _ c => by
    rcases c with rfl | rfl
    · exact Or.inl g.1
    · exact Or.inr (Or.inl rfl))
theorem Fr.tr {w w1 w2 : World} {T : Nat → Prop} (f : Fr T w w1) (g : Fr T w1 w2) : Fr T w w2 := f.trans g (fun _ _ c => c)
/-- Behind hear. -/
theorem Sta.hear {w w' : World} {base X D E : Nat} {x : Li} {s : Nat} {N N' : List No} {A : Option Addr} {e : Ending} (h1 : liB w X x) (h2 : Dr w D s) (h3 : Bk w E base A N) (h4 : A.map (·.block) ≠ some X) (g : Geo base X D E) (k : SHear E base A N' w e w') :
    e = .returned (.tuple #[]) ∧ Sta w' base X D E x s N' ∧ Fr (Tr base D E) w w' := by
  obtain ⟨rfl, A', b, hA, f⟩ := k
  obtain ⟨g1, g2, g3, g4⟩ := g
  refine ⟨rfl, ⟨Blk.fr h1 f (by rintro (c | c); omega; exact h4 c), Blk.fr h2 f (by rintro (c | c); exact g4 c; have := (h3.base _ c).1; omega), A', b, ?_⟩, f.imp (fun i _ c => by
    rcases c with rfl | c
    · exact Or.inr (Or.inr rfl)
    · exact Or.inl (h3.base _ c).1)⟩
  rcases hA with rfl | ⟨q, rfl, hq⟩
  · exact h4
  · have := Blk.lt h1
    simp; omega


set_option maxRecDepth 100000 in
set_option maxHeartbeats 3200000 in
theorem quiet2_c (k fr td a b sl : Int) (v : Value) (base X D E C : Nat) (x x' : Li) (s s' : Nat) (N : List No) (w : World) (h : Sta w base X D E x s N) (g : Geo base X D E) (hC : capB w C 94)
    (hq : x.bright = false → ∀ W, liB W X x → Dr W D s → Calls Tryd.prog 94 #[.agg #[.int .i64 k, .int .i64 fr, .int .i64 td, .int .i64 a, .int .i64 b], .pointer (some ⟨X, 0, none⟩), .pointer (some ⟨D, 0, none⟩)] W (SQ X D x' s' W)) (hb : x.bright = true → x' = x ∧ s' = s) :
    Calls Tryd.prog 93 #[.agg #[.int .i64 k, .int .i64 fr, .int .i64 td, .int .i64 a, .int .i64 b], .int .i64 sl, .pointer (some ⟨X, 0, none⟩), .pointer (some ⟨D, 0, none⟩), v, .pointer (some ⟨C, 0, none⟩)] w (SAct base X D E (x', N, s') w) := by
  have h1 := h.alloc g (.cells #[.int .i64 k, .int .i64 fr, .int .i64 td, .int .i64 a, .int .i64 b] 62)
  have hR := Blk.newAt w 62 #[.int .i64 k, .int .i64 fr, .int .i64 td, .int .i64 a, .int .i64 b] w.heap.size rfl
  have hC1 : capB _ C _ := Blk.alloc hC (.cells #[.int .i64 k, .int .i64 fr, .int .i64 td, .int .i64 a, .int .i64 b] 62)
  have hf := (Fr.refl (Tr base D E) w).alloc (.cells #[.int .i64 k, .int .i64 fr, .int .i64 td, .int .i64 a, .int .i64 b] 62)
  have x3 := Blk.cell h1.1 3
  have c0 := Blk.cell hC1 0
  simp only [List.getElem?_toArray, List.getElem?_cons_zero, List.getElem?_cons_succ] at x3 c0
  obtain ⟨ph, xb, xt, xr⟩ := x
  cases xr
  · have HQ := hide (hq rfl _ h1.1 h1.2.1)
    simp only at x3
    clear hb hq
    go_enter Tryd.func93, Tryd.ntmps93
    go_wp2_with (go_at_call 94; refine HQ.out.mono ?_; rintro e w1 ⟨rfl, k1, k2, k3⟩)
    go_end0
    exact ⟨rfl, h1.quiet g k1 k2 k3, hf.tr (k3.quiet g)⟩
  · obtain ⟨rfl, rfl⟩ := hb rfl
    simp only at x3
    clear hq
    go_enter Tryd.func93, Tryd.ntmps93
    go_wp2
    go_end0
    exact ⟨rfl, h1, hf⟩

set_option maxRecDepth 100000 in
set_option maxHeartbeats 3200000 in
theorem quiet3_c (k fr td a b sl : Int) (v : Value) (base X D E C : Nat) (x x' : Li) (s s' : Nat) (N : List No) (w : World) (h : Sta w base X D E x s N) (g : Geo base X D E) (hC : capB w C 96)
    (hq : x.bright = false → ∀ W, liB W X x → Dr W D s → Calls Tryd.prog 96 #[.agg #[.int .i64 k, .int .i64 fr, .int .i64 td, .int .i64 a, .int .i64 b], .pointer (some ⟨X, 0, none⟩), .pointer (some ⟨D, 0, none⟩)] W (SQ X D x' s' W)) (hb : x.bright = true → x' = x ∧ s' = s) :
    Calls Tryd.prog 93 #[.agg #[.int .i64 k, .int .i64 fr, .int .i64 td, .int .i64 a, .int .i64 b], .int .i64 sl, .pointer (some ⟨X, 0, none⟩), .pointer (some ⟨D, 0, none⟩), v, .pointer (some ⟨C, 0, none⟩)] w (SAct base X D E (x', N, s') w) := by
  have h1 := h.alloc g (.cells #[.int .i64 k, .int .i64 fr, .int .i64 td, .int .i64 a, .int .i64 b] 62)
  have hR := Blk.newAt w 62 #[.int .i64 k, .int .i64 fr, .int .i64 td, .int .i64 a, .int .i64 b] w.heap.size rfl
  have hC1 : capB _ C _ := Blk.alloc hC (.cells #[.int .i64 k, .int .i64 fr, .int .i64 td, .int .i64 a, .int .i64 b] 62)
  have hf := (Fr.refl (Tr base D E) w).alloc (.cells #[.int .i64 k, .int .i64 fr, .int .i64 td, .int .i64 a, .int .i64 b] 62)
  have x3 := Blk.cell h1.1 3
  have c0 := Blk.cell hC1 0
  simp only [List.getElem?_toArray, List.getElem?_cons_zero, List.getElem?_cons_succ] at x3 c0
  obtain ⟨ph, xb, xt, xr⟩ := x
  cases xr
  · have HQ := hide (hq rfl _ h1.1 h1.2.1)
    simp only at x3
    clear hb hq
    go_enter Tryd.func93, Tryd.ntmps93
    go_wp2_with (go_at_call 96; refine HQ.out.mono ?_; rintro e w1 ⟨rfl, k1, k2, k3⟩)
    go_end0
    exact ⟨rfl, h1.quiet g k1 k2 k3, hf.tr (k3.quiet g)⟩
  · obtain ⟨rfl, rfl⟩ := hb rfl
    simp only at x3
    clear hq
    go_enter Tryd.func93, Tryd.ntmps93
    go_wp2
    go_end0
    exact ⟨rfl, h1, hf⟩

set_option maxRecDepth 100000 in
set_option maxHeartbeats 3200000 in
theorem quiet4_c (k fr td a b sl : Int) (v : Value) (base X D E C : Nat) (x x' : Li) (s s' : Nat) (N : List No) (w : World) (h : Sta w base X D E x s N) (g : Geo base X D E) (hC : capB w C 97)
    (hq : x.bright = false → ∀ W, liB W X x → Dr W D s → Calls Tryd.prog 97 #[.agg #[.int .i64 k, .int .i64 fr, .int .i64 td, .int .i64 a, .int .i64 b], .pointer (some ⟨X, 0, none⟩), .pointer (some ⟨D, 0, none⟩)] W (SQ X D x' s' W)) (hb : x.bright = true → x' = x ∧ s' = s) :
    Calls Tryd.prog 93 #[.agg #[.int .i64 k, .int .i64 fr, .int .i64 td, .int .i64 a, .int .i64 b], .int .i64 sl, .pointer (some ⟨X, 0, none⟩), .pointer (some ⟨D, 0, none⟩), v, .pointer (some ⟨C, 0, none⟩)] w (SAct base X D E (x', N, s') w) := by
  have h1 := h.alloc g (.cells #[.int .i64 k, .int .i64 fr, .int .i64 td, .int .i64 a, .int .i64 b] 62)
  have hR := Blk.newAt w 62 #[.int .i64 k, .int .i64 fr, .int .i64 td, .int .i64 a, .int .i64 b] w.heap.size rfl
  have hC1 : capB _ C _ := Blk.alloc hC (.cells #[.int .i64 k, .int .i64 fr, .int .i64 td, .int .i64 a, .int .i64 b] 62)
  have hf := (Fr.refl (Tr base D E) w).alloc (.cells #[.int .i64 k, .int .i64 fr, .int .i64 td, .int .i64 a, .int .i64 b] 62)
  have x3 := Blk.cell h1.1 3
  have c0 := Blk.cell hC1 0
  simp only [List.getElem?_toArray, List.getElem?_cons_zero, List.getElem?_cons_succ] at x3 c0
  obtain ⟨ph, xb, xt, xr⟩ := x
  cases xr
  · have HQ := hide (hq rfl _ h1.1 h1.2.1)
    simp only at x3
    clear hb hq
    go_enter Tryd.func93, Tryd.ntmps93
    go_wp2_with (go_at_call 97; refine HQ.out.mono ?_; rintro e w1 ⟨rfl, k1, k2, k3⟩)
    go_end0
    exact ⟨rfl, h1.quiet g k1 k2 k3, hf.tr (k3.quiet g)⟩
  · obtain ⟨rfl, rfl⟩ := hb rfl
    simp only at x3
    clear hq
    go_enter Tryd.func93, Tryd.ntmps93
    go_wp2
    go_end0
    exact ⟨rfl, h1, hf⟩

set_option maxRecDepth 100000 in
set_option maxHeartbeats 3200000 in
theorem quiet5_c (k fr td a b sl : Int) (v : Value) (base X D E C : Nat) (x x' : Li) (s s' : Nat) (N : List No) (w : World) (h : Sta w base X D E x s N) (g : Geo base X D E) (hC : capB w C 98)
    (hq : x.bright = false → ∀ W, liB W X x → Dr W D s → Calls Tryd.prog 98 #[.agg #[.int .i64 k, .int .i64 fr, .int .i64 td, .int .i64 a, .int .i64 b], .pointer (some ⟨X, 0, none⟩), .pointer (some ⟨D, 0, none⟩)] W (SQ X D x' s' W)) (hb : x.bright = true → x' = x ∧ s' = s) :
    Calls Tryd.prog 93 #[.agg #[.int .i64 k, .int .i64 fr, .int .i64 td, .int .i64 a, .int .i64 b], .int .i64 sl, .pointer (some ⟨X, 0, none⟩), .pointer (some ⟨D, 0, none⟩), v, .pointer (some ⟨C, 0, none⟩)] w (SAct base X D E (x', N, s') w) := by
  have h1 := h.alloc g (.cells #[.int .i64 k, .int .i64 fr, .int .i64 td, .int .i64 a, .int .i64 b] 62)
  have hR := Blk.newAt w 62 #[.int .i64 k, .int .i64 fr, .int .i64 td, .int .i64 a, .int .i64 b] w.heap.size rfl
  have hC1 : capB _ C _ := Blk.alloc hC (.cells #[.int .i64 k, .int .i64 fr, .int .i64 td, .int .i64 a, .int .i64 b] 62)
  have hf := (Fr.refl (Tr base D E) w).alloc (.cells #[.int .i64 k, .int .i64 fr, .int .i64 td, .int .i64 a, .int .i64 b] 62)
  have x3 := Blk.cell h1.1 3
  have c0 := Blk.cell hC1 0
  simp only [List.getElem?_toArray, List.getElem?_cons_zero, List.getElem?_cons_succ] at x3 c0
  obtain ⟨ph, xb, xt, xr⟩ := x
  cases xr
  · have HQ := hide (hq rfl _ h1.1 h1.2.1)
    simp only at x3
    clear hb hq
    go_enter Tryd.func93, Tryd.ntmps93
    go_wp2_with (go_at_call 98; refine HQ.out.mono ?_; rintro e w1 ⟨rfl, k1, k2, k3⟩)
    go_end0
    exact ⟨rfl, h1.quiet g k1 k2 k3, hf.tr (k3.quiet g)⟩
  · obtain ⟨rfl, rfl⟩ := hb rfl
    simp only at x3
    clear hq
    go_enter Tryd.func93, Tryd.ntmps93
    go_wp2
    go_end0
    exact ⟨rfl, h1, hf⟩

end Go.Proofs.YthdidjnhfkeokaaDoor
