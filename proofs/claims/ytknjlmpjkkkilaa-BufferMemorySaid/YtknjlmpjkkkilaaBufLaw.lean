/- Arguments that are stores, lists of stores, calls. -/
import Derived.Test.YtknjlmpjkkkilaaLaw
import Derived.Test.YtknjlmpjkkkilaaRowsLaw
import Derived.Test.YtknjlmpjkkkilaaBufA
namespace Go.Proofs.Ytknjlmpjkkkilaa
open Go.ChangeShapes Go.WideShapes Go.ChangeAt Go.RowKit
set_option linter.unusedVariables false

theorem cellsOf_store : Try.prog.cellsOf 24 = 3 := by kernel_rfl
theorem cellsOf_int : Try.prog.cellsOf 3 = 1 := by kernel_rfl
theorem cellsOf_u32 : Try.prog.cellsOf 22 = 1 := by kernel_rfl
theorem bounds_u32 {x : Int} (h : (Lit.int .u32 x).wf = true) : 0 ≤ x ∧ x ≤ 4294967295 := by
  have h1 : IntKind.u32.min = 0 := by decide
  have h2 : IntKind.u32.max = 4294967295 := by decide
  simp [Lit.wf] at h
  omega
/-- A datum that is a store. -/
theorem trod_store {H : Type} {enc : TypeId × Value → H} {W : World} {base fuel : Nat} {spare : Nat → Bool} {held : Bool} {cs : List Value} {x : DataW H × List MemPlace} (h : DataW.trod enc Try.prog W base spare held fuel 24 cs = some x) :
    ∃ m : Store, cs = m.cells ∧ m.Fits := by
  obtain ⟨xs, n, -, -, hl, hx, hf⟩ := DataW.trod_struct Try.underlying24 h
  rw [cellsOf_store] at hl
  have h0 := hf 0 _ rfl
  have h1 := hf 1 _ rfl
  have h2 := hf 2 _ rfl
  have hx : xs.length = 3 := hx
  rw [List.getElem?_eq_getElem (by omega)] at h0 h1 h2
  obtain ⟨k, e0, -, w0⟩ := DataW.trod_int Try.underlying22 h0
  obtain ⟨f, e1, -, -⟩ := DataW.trod_int Try.underlying3 h1
  obtain ⟨t, e2, -, w2⟩ := DataW.trod_int Try.underlying22 h2
  replace e0 : (cs.drop 0).take 1 = [.int .u32 k] := by rw [← cellsOf_u32]; exact e0
  replace e1 : (cs.drop 1).take 1 = [.int .i64 f] := by rw [← cellsOf_int]; exact e1
  replace e2 : (cs.drop 2).take 1 = [.int .u32 t] := by rw [← cellsOf_u32]; exact e2
  have b0 := bounds_u32 w0
  have b2 := bounds_u32 w2
  refine ⟨⟨k, f, t⟩, ?_, ⟨b0.1, b0.2, b2.1, b2.2⟩⟩
  have c1 : cs = cs.take 1 ++ ((cs.drop 1).take 1 ++ (cs.drop 2).take 1) := by
    rw [List.take_of_length_le (l := cs.drop 2) (by simp; omega), show cs.drop 2 = (cs.drop 1).drop 1 by rw [List.drop_drop], List.take_append_drop, List.take_append_drop]
  rw [c1, show cs.take 1 = (cs.drop 0).take 1 from rfl, e0, e1, e2]
  rfl
theorem open_store {H : Type} {enc : TypeId × Value → H} {W : World} {r : Reach} {base b0 : Nat} {v : Value} {d : DataW H} {p : List MemPlace} (hv : Value.okWide Try.prog W r b0 24 v)
    (h : DataW.Trod enc Try.prog W base (fun _ => true) true 24 v d p) : ∃ m : Store, v = .agg m.cells.toArray ∧ m.Fits := by
  obtain ⟨cs, rfl, -⟩ := okWide_struct Try.underlying24 hv
  obtain ⟨fuel, hf⟩ := h
  obtain ⟨m, hm, hfits⟩ := trod_store hf
  refine ⟨m, ?_, hfits⟩
  rw [← hm]
  simp [Value.cells]
theorem open_stores {H : Type} {enc : TypeId × Value → H} {W : World} {r : Reach} {base b0 : Nat} {v : Value} {d : DataW H} {p : List MemPlace} (hv : Value.okWide Try.prog W r b0 32 v)
    (h : DataW.Trod enc Try.prog W base (fun _ => true) true 32 v d p) : ∃ a c, ∃ l : List Store, v = .slice a l.length c ∧ ArgList Store.cells Store.Fits 3 W a l :=
  open_rows Store.cells Store.Fits 3 (by omega) Try.underlying32 cellsOf_store (fun _ _ _ h => trod_store h) hv h
end Go.Proofs.Ytknjlmpjkkkilaa
