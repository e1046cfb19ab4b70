/- '==' of two equal arrangements. -/
import Derived.Test.YthdidjnhfkeokaaDoorQi
import Derived.Laws.StructEq
namespace Go.Proofs.YthdidjnhfkeokaaDoor
open Go.RowKit

theorem eqFields_cons {P : Program} (d : Nat) (xs ys : Array Value) (f : Field) (fs : List Field) (a b : Value) (w : World) (hn : f.name ≠ "_") (ha : (Go.part f.type xs f.offset).run P w = Result.ok a w) (hb : (Go.part f.type ys f.offset).run P w = Result.ok b w) (he : (Op.equalIn d f.type a b).run P w = Result.ok true w) :
    (Op.eqFields d xs ys (f :: fs)).run P w = (Op.eqFields d xs ys fs).run P w := by
  simp [Op.eqFields, hn, ha, hb, he]
theorem eqItems_cons {P : Program} (d : Nat) (e : TypeId) (c : Nat) (xs ys : Array Value) (i : Nat) (is : List Nat) (a b : Value) (w : World) (ha : (Go.part e xs (i * c)).run P w = Result.ok a w) (hb : (Go.part e ys (i * c)).run P w = Result.ok b w) (he : (Op.equalIn d e a b).run P w = Result.ok true w) :
    (Op.eqItems d e c xs ys (i :: is)).run P w = (Op.eqItems d e c xs ys is).run P w := by
  simp [Op.eqItems, ha, hb, he]
theorem eqInts (d : Nat) {t : TypeId} {n : Nat} (ht : Tryd.prog.underlying t = some (.array n 3)) (xs : Array Value) (f : Nat → Int) (w : World) (h : ∀ j, j < n → xs[j]? = some (.int .i64 (f j))) : (Op.equalIn (d + 1 + 1) t (.agg xs) (.agg xs)).run Tryd.prog w = .ok true w := by
  obtain ⟨i, hi⟩ : ∃ i, Tryd.prog.info? 3 = some i := by
    have := info_int
    cases h : Tryd.prog.info? 3 with
    | none => simp [h] at this
    | some i => exact ⟨i, rfl⟩
  rw [run_equalIn_array w (d + 1) xs xs ht hi, eqItems_int d Tryd.underlying3 cells_int xs xs f f w (List.range n) (fun j hj => ⟨h j (by simpa using hj), h j (by simpa using hj)⟩)]
  simp
set_option maxRecDepth 100000 in
theorem eqlO (f : Nat → Int) (w : World) : (Op.equalIn 10000 26 (.agg (cells18 f)) (.agg (cells18 f))).run Tryd.prog w = .ok true w := by
  rw [run_equalIn_struct w 9999 26 _ _ (by kernel_rfl) (by kernel_rfl)]
  have hfs : (Tryd.prog.fieldsOf 26).toList = [{ name := "Kind", type := 3, offset := 0, embedded := false, tag := "", pkgPath := "", byteOffset := 0 }, { name := "Classes", type := 22, offset := 1, embedded := false, tag := "", pkgPath := "", byteOffset := 8 }, { name := "Photons", type := 24, offset := 4, embedded := false, tag := "", pkgPath := "", byteOffset := 32 }, { name := "Eta", type := 3, offset := 16, embedded := false, tag := "", pkgPath := "", byteOffset := 128 }, { name := "Dark", type := 3, offset := 17, embedded := false, tag := "", pkgPath := "", byteOffset := 136 }] := by kernel_rfl
  rw [hfs]
  have i1 : ∀ (d : Nat) (x : Int), (Op.equalIn (d + 1) 3 (.int .i64 x) (.int .i64 x)).run Tryd.prog w = .ok true w := fun d x => by rw [run_equalIn_int w d 3 .i64 .i64 x x Tryd.underlying3]; simp
  obtain ⟨i4, hi4⟩ : ∃ i, Tryd.prog.info? 23 = some i := Option.isSome_iff_exists.1 (by kernel_rfl)
  rw [eqFields_cons 9999 (cells18 f) (cells18 f) _ _ (.int .i64 (f 0)) (.int .i64 (f 0)) w (by decide) (by kernel_rfl) (by kernel_rfl) (i1 _ _)]
  rw [eqFields_cons 9999 (cells18 f) (cells18 f) _ _ (.agg #[.int .i64 (f 1), .int .i64 (f 2), .int .i64 (f 3)]) (.agg #[.int .i64 (f 1), .int .i64 (f 2), .int .i64 (f 3)]) w (by decide) (by kernel_rfl) (by kernel_rfl) (eqInts 9997 Tryd.underlying22 _ (fun j => f (1 + j)) w (fun j hj => by
    match j, hj with
    | 0, _ | 1, _ | 2, _ => rfl))]
  have row : ∀ (a b c d : Int), (Op.equalIn 9998 23 (.agg #[.int .i64 a, .int .i64 b, .int .i64 c, .int .i64 d]) (.agg #[.int .i64 a, .int .i64 b, .int .i64 c, .int .i64 d])).run Tryd.prog w = .ok true w := fun a b c d => eqInts 9996 Tryd.underlying23 _ (fun j => match j with | 0 => a | 1 => b | 2 => c | _ => d) w (fun j hj => by
    match j, hj with
    | 0, _ | 1, _ | 2, _ | 3, _ => rfl)
  rw [eqFields_cons 9999 (cells18 f) (cells18 f) _ _ (.agg #[.int .i64 (f 4), .int .i64 (f 5), .int .i64 (f 6), .int .i64 (f 7), .int .i64 (f 8), .int .i64 (f 9), .int .i64 (f 10), .int .i64 (f 11), .int .i64 (f 12), .int .i64 (f 13), .int .i64 (f 14), .int .i64 (f 15)]) (.agg #[.int .i64 (f 4), .int .i64 (f 5), .int .i64 (f 6), .int .i64 (f 7), .int .i64 (f 8), .int .i64 (f 9), .int .i64 (f 10), .int .i64 (f 11), .int .i64 (f 12), .int .i64 (f 13), .int .i64 (f 14), .int .i64 (f 15)]) w (by decide) (by kernel_rfl) (by kernel_rfl) (by
    rw [run_equalIn_array w 9998 _ _ Tryd.underlying24 hi4]
    rw [show List.range 3 = [0, 1, 2] from rfl]
    rw [eqItems_cons 9998 _ _ _ _ 0 _ _ _ w (by kernel_rfl) (by kernel_rfl) (row (f 4) (f 5) (f 6) (f 7))]
    rw [eqItems_cons 9998 _ _ _ _ 1 _ _ _ w (by kernel_rfl) (by kernel_rfl) (row (f 8) (f 9) (f 10) (f 11))]
    rw [eqItems_cons 9998 _ _ _ _ 2 _ _ _ w (by kernel_rfl) (by kernel_rfl) (row (f 12) (f 13) (f 14) (f 15))]
    simp [Op.eqItems])]
  rw [eqFields_cons 9999 (cells18 f) (cells18 f) _ _ (.int .i64 (f 16)) (.int .i64 (f 16)) w (by decide) (by kernel_rfl) (by kernel_rfl) (i1 _ _)]
  rw [eqFields_cons 9999 (cells18 f) (cells18 f) _ _ (.int .i64 (f 17)) (.int .i64 (f 17)) w (by decide) (by kernel_rfl) (by kernel_rfl) (i1 _ _)]
  simp [Op.eqFields]
theorem eqlOB (f : Nat → Int) (w : World) : (binOp .eql 26 (.agg (cells18 f)) (.agg (cells18 f))).run Tryd.prog w = .ok (.bool true) w := by
  rw [run_eql_struct, eqlO]; rfl
end Go.Proofs.YthdidjnhfkeokaaDoor
