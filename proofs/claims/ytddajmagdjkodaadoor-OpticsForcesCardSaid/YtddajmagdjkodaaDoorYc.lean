/- A list that is read survives a store into a block that cannot hold its elements. -/
import Derived.Test.YtddajmagdjkodaaDoorQm
namespace Go.Proofs.YtddajmagdjkodaaDoor
open Go.RowKit

theorem Rd.aside {α : Type} {e : Enc α} {w : World} {B : Nat} {A : Option Addr} {n c : Nat} {L : List α} {g i : Nat} {t : TypeId} {cs : Array Value} (h : Rd e w B A n c L) (b : Blk w g t cs) (hx : ∀ (x : α) (off : Nat), ¬ ∀ (j : Nat) (v : Value), (e.cells x)[j]? = some v → cs[off + j]? = some v) (u : Value) : Rd e (w.setCell ⟨g, i, none⟩ u) B A n c L := by
  refine ⟨h.len, h.cap, h.max, fun hn => ?_⟩
  obtain ⟨b1, off, ea, hb, hc⟩ := h.at_ hn
  refine ⟨b1, off, ea, hb, fun k x hk j v hv => ?_⟩
  have hne : b1 ≠ g := fun eg => by
    subst eg
    obtain ⟨y, hy⟩ : ∃ y, L[0]? = some y := ⟨_, List.getElem?_eq_getElem (by rw [h.len]; exact hn)⟩
    refine hx y off fun j v hv => ?_
    have := hc 0 y hy j v hv
    rw [Nat.zero_mul, Nat.add_zero, b.cell] at this
    exact this
  have := hc k x hk j v hv
  unfold World.cell? at this ⊢
  rw [Below.heap_setCell _ _ _ _ (show b1 ≠ g from hne)]
  exact this
/-- The same behind whatever turns that block alone. -/
theorem Rd.asideG {α : Type} {e : Enc α} {w w' : World} {B : Nat} {A : Option Addr} {n c : Nat} {L : List α} {g : Nat} {t : TypeId} {cs : Array Value} (h : Rd e w B A n c L) (b : Blk w g t cs) (hx : ∀ (x : α) (off : Nat), ¬ ∀ (j : Nat) (v : Value), (e.cells x)[j]? = some v → cs[off + j]? = some v) (hg : w.grownBy w' (some g)) (hB : B ≤ w.heap.size) : Rd e w' B A n c L := by
  refine ⟨h.len, h.cap, h.max, fun hn => ?_⟩
  obtain ⟨b1, off, ea, hb, hc⟩ := h.at_ hn
  refine ⟨b1, off, ea, hb, fun k x hk j v hv => ?_⟩
  have hne : b1 ≠ g := fun eg => by
    subst eg
    obtain ⟨y, hy⟩ : ∃ y, L[0]? = some y := ⟨_, List.getElem?_eq_getElem (by rw [h.len]; exact hn)⟩
    refine hx y off fun j v hv => ?_
    have := hc 0 y hy j v hv
    rw [Nat.zero_mul, Nat.add_zero, b.cell] at this
    exact this
  have := hc k x hk j v hv
  unfold World.cell? at this ⊢
  rw [hg.block b1 (by omega) (by simpa using hne)]
  exact this
/-- A flight's block (three lists and a number) holds no pulse, no light, no note, no click. -/
def flC (A1 A2 A3 : Option Addr) (n1 c1 n2 c2 n3 c3 : Nat) (s : Int) : Array Value := #[.slice A1 n1 c1, .slice A2 n2 c2, .slice A3 n3 c3, .int .i64 s]
section
variable {A1 A2 A3 : Option Addr} {n1 c1 n2 c2 n3 c3 : Nat} {s : Int}
theorem flC_bool {k : Nat} {b : Bool} (h : (flC A1 A2 A3 n1 c1 n2 c2 n3 c3 s)[k]? = some (.bool b)) : False := by
  match k, h with
  | 0, h => simp [flC] at h
  | 1, h => simp [flC] at h
  | 2, h => simp [flC] at h
  | 3, h => simp [flC] at h
  | k + 4, h => simp [flC] at h
theorem flC_pu (x : Pu) (off : Nat) : ¬ ∀ (j : Nat) (v : Value), (ePu.cells x)[j]? = some v → (flC A1 A2 A3 n1 c1 n2 c2 n3 c3 s)[off + j]? = some v := fun h => flC_bool (h 1 (.bool x.bit) rfl)
theorem flC_li (x : Li) (off : Nat) : ¬ ∀ (j : Nat) (v : Value), (eLi.cells x)[j]? = some v → (flC A1 A2 A3 n1 c1 n2 c2 n3 c3 s)[off + j]? = some v := fun h => flC_bool (h 2 (.bool x.bit) rfl)
theorem flC_no (x : No) (off : Nat) : ¬ ∀ (j : Nat) (v : Value), (eNo.cells x)[j]? = some v → (flC A1 A2 A3 n1 c1 n2 c2 n3 c3 s)[off + j]? = some v := fun h => flC_bool (h 3 (.bool x.bit) rfl)
theorem flC_ck (x : Ck) (off : Nat) : ¬ ∀ (j : Nat) (v : Value), (eCk.cells x)[j]? = some v → (flC A1 A2 A3 n1 c1 n2 c2 n3 c3 s)[off + j]? = some v := by
  intro h
  have a := h 0 (.int .i64 x.b) rfl
  have b := h 1 (.int .i64 x.k) rfl
  match off, a, b with
  | 0, a, _ => simp [flC] at a
  | 1, a, _ => simp [flC] at a
  | 2, a, _ => simp [flC] at a
  | 3, _, b => simp [flC] at b
  | k + 4, a, _ => simp [flC] at a
end
end Go.Proofs.YtddajmagdjkodaaDoor
