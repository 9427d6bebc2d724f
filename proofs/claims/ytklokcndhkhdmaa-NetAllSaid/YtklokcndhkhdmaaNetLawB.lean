/- Arguments that are lists of messages, calls, lists of calls, lists of numbers. -/
import Derived.Test.YtklokcndhkhdmaaNetLaw
import Derived.Test.YtklokcndhkhdmaaRowsLaw
import Derived.Test.YtklokcndhkhdmaaNetAct
namespace Go.Proofs.Ytklokcndhkhdmaa
open Go.ChangeShapes Go.WideShapes Go.ChangeAt Go.RowKit
set_option linter.unusedVariables false

theorem open_msgs {H : Type} {enc : TypeId × Value → H} {W : World} {r : Reach} {base b0 : Nat} {v : Value} {d : DataW H} {p : List MemPlace} (hv : Value.okWide Try.prog W r b0 38 v)
    (h : DataW.Trod enc Try.prog W base (fun _ => true) true 38 v d p) : ∃ a c, ∃ l : List Msg, v = .slice a l.length c ∧ ArgList Msg.cells Msg.Fits 20 W a l :=
  open_rows Msg.cells Msg.Fits 20 (by omega) Try.underlying38 cellsOf_msg (fun _ _ _ h => trod_msg h) hv h

theorem cellsOf_act : Try.prog.cellsOf 40 = 22 := by kernel_rfl
theorem trod_act {H : Type} {enc : TypeId × Value → H} {W : World} {base fuel : Nat} {spare : Nat → Bool} {held : Bool} {cs : List Value} {x : DataW H × List MemPlace} (h : DataW.trod enc Try.prog W base spare held fuel 40 cs = some x) :
    ∃ m : Deed, cs = m.cells ∧ m.Fits := by
  obtain ⟨xs, n, -, -, hl, hx, hf⟩ := DataW.trod_struct Try.underlying40 h
  rw [cellsOf_act] at hl
  have h0 := hf 0 _ rfl
  have h1 := hf 1 _ rfl
  have h2 := hf 2 _ rfl
  have hx : xs.length = 3 := hx
  rw [List.getElem?_eq_getElem (by omega)] at h0 h1 h2
  obtain ⟨k, e0, -, -⟩ := DataW.trod_int Try.underlying3 h0
  obtain ⟨m, e1, hm⟩ := trod_msg h1
  obtain ⟨t, e2, -, -⟩ := DataW.trod_int Try.underlying3 h2
  replace e0 : (cs.drop 0).take 1 = [.int .i64 k] := by rw [← cellsOf_int]; exact e0
  replace e1 : (cs.drop 1).take 20 = m.cells := by rw [← cellsOf_msg]; exact e1
  replace e2 : (cs.drop 21).take 1 = [.int .i64 t] := by rw [← cellsOf_int]; exact e2
  refine ⟨⟨k, m, t⟩, ?_, hm⟩
  have c1 : cs = cs.take 1 ++ ((cs.drop 1).take 20 ++ (cs.drop 21).take 1) := by
    rw [List.take_of_length_le (l := cs.drop 21) (by simp; omega), show cs.drop 21 = (cs.drop 1).drop 20 by rw [List.drop_drop], List.take_append_drop, List.take_append_drop]
  rw [c1, show cs.take 1 = (cs.drop 0).take 1 from rfl, e0, e1, e2]
  rfl
theorem open_acts {H : Type} {enc : TypeId × Value → H} {W : World} {r : Reach} {base b0 : Nat} {v : Value} {d : DataW H} {p : List MemPlace} (hv : Value.okWide Try.prog W r b0 33 v)
    (h : DataW.Trod enc Try.prog W base (fun _ => true) true 33 v d p) : ∃ a c, ∃ l : List Deed, v = .slice a l.length c ∧ ArgList Deed.cells Deed.Fits 22 W a l :=
  open_rows Deed.cells Deed.Fits 22 (by omega) Try.underlying33 cellsOf_act (fun _ _ _ h => trod_act h) hv h
theorem open_act {H : Type} {enc : TypeId × Value → H} {W : World} {r : Reach} {base b0 : Nat} {v : Value} {d : DataW H} {p : List MemPlace} (hv : Value.okWide Try.prog W r b0 40 v)
    (h : DataW.Trod enc Try.prog W base (fun _ => true) true 40 v d p) : ∃ m : Deed, v = .agg m.cells.toArray ∧ m.Fits := by
  obtain ⟨cs, rfl, -⟩ := okWide_struct Try.underlying40 hv
  obtain ⟨fuel, hf⟩ := h
  obtain ⟨m, hm, hfits⟩ := trod_act hf
  refine ⟨m, ?_, hfits⟩
  rw [← hm]
  simp [Value.cells]
theorem open_intl {H : Type} {enc : TypeId × Value → H} {W : World} {r : Reach} {base b0 : Nat} {v : Value} {d : DataW H} {p : List MemPlace} (hv : Value.okWide Try.prog W r b0 34 v)
    (h : DataW.Trod enc Try.prog W base (fun _ => true) true 34 v d p) : ∃ a c, ∃ l : List Int, v = .slice a l.length c ∧ ArgList (fun x => [Value.int .i64 x]) (fun x => (Lit.int .i64 x).wf = true) 1 W a l :=
  open_rows _ _ 1 (by omega) Try.underlying34 cellsOf_int (fun _ _ _ h => by
    obtain ⟨x, hx, -, hw⟩ := DataW.trod_int Try.underlying3 h
    exact ⟨x, hx, hw⟩) hv h
end Go.Proofs.Ytklokcndhkhdmaa
