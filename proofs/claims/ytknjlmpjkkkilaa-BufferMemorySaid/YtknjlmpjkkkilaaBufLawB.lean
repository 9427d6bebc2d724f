/- Arguments that are calls, lists of calls. -/
import Derived.Test.YtknjlmpjkkkilaaBufLaw
import Derived.Test.YtknjlmpjkkkilaaBufS
namespace Go.Proofs.Ytknjlmpjkkkilaa
open Go.ChangeShapes Go.WideShapes Go.ChangeAt Go.RowKit
set_option linter.unusedVariables false

theorem cellsOf_act : Try.prog.cellsOf 48 = 4 := by kernel_rfl
theorem trod_act {H : Type} {enc : TypeId × Value → H} {W : World} {base fuel : Nat} {spare : Nat → Bool} {held : Bool} {cs : List Value} {x : DataW H × List MemPlace} (h : DataW.trod enc Try.prog W base spare held fuel 48 cs = some x) :
    ∃ m : BAct, cs = m.cells ∧ m.Fits := by
  obtain ⟨xs, n, -, -, hl, hx, hf⟩ := DataW.trod_struct Try.underlying48 h
  rw [cellsOf_act] at hl
  have h0 := hf 0 _ rfl
  have h1 := hf 1 _ rfl
  have hx : xs.length = 2 := hx
  rw [List.getElem?_eq_getElem (by omega)] at h0 h1
  obtain ⟨k, e0, -, -⟩ := DataW.trod_int Try.underlying3 h0
  obtain ⟨m, e1, hm⟩ := trod_store h1
  replace e0 : (cs.drop 0).take 1 = [.int .i64 k] := by rw [← cellsOf_int]; exact e0
  replace e1 : (cs.drop 1).take 3 = m.cells := by rw [← cellsOf_store]; exact e1
  refine ⟨⟨k, m⟩, ?_, hm⟩
  have c1 : cs = cs.take 1 ++ (cs.drop 1).take 3 := by
    rw [List.take_of_length_le (l := cs.drop 1) (by simp; omega), List.take_append_drop]
  rw [c1, show cs.take 1 = (cs.drop 0).take 1 from rfl, e0, e1]
  rfl
theorem open_acts {H : Type} {enc : TypeId × Value → H} {W : World} {r : Reach} {base b0 : Nat} {v : Value} {d : DataW H} {p : List MemPlace} (hv : Value.okWide Try.prog W r b0 40 v)
    (h : DataW.Trod enc Try.prog W base (fun _ => true) true 40 v d p) : ∃ a c, ∃ l : List BAct, v = .slice a l.length c ∧ BActs W a l :=
  open_rows BAct.cells BAct.Fits 4 (by omega) Try.underlying40 cellsOf_act (fun _ _ _ h => trod_act h) hv h
theorem open_act {H : Type} {enc : TypeId × Value → H} {W : World} {r : Reach} {base b0 : Nat} {v : Value} {d : DataW H} {p : List MemPlace} (hv : Value.okWide Try.prog W r b0 48 v)
    (h : DataW.Trod enc Try.prog W base (fun _ => true) true 48 v d p) : ∃ m : BAct, v = .agg m.cells.toArray ∧ m.Fits := by
  obtain ⟨cs, rfl, -⟩ := okWide_struct Try.underlying48 hv
  obtain ⟨fuel, hf⟩ := h
  obtain ⟨m, hm, hfits⟩ := trod_act hf
  refine ⟨m, ?_, hfits⟩
  rw [← hm]
  simp [Value.cells]
end Go.Proofs.Ytknjlmpjkkkilaa
