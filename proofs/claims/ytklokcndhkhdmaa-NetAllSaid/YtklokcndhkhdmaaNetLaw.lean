/- Arguments that are messages, lists of messages, calls. -/
import Derived.Test.YtklokcndhkhdmaaLaw
import Derived.Test.YtklokcndhkhdmaaNetC
namespace Go.Proofs.Ytklokcndhkhdmaa
open Go.ChangeShapes Go.WideShapes Go.ChangeAt Go.RowKit
set_option linter.unusedVariables false

theorem cellsOf_msg : Try.prog.cellsOf 26 = 20 := by kernel_rfl
theorem cellsOf_kind : Try.prog.cellsOf 22 = 1 := by kernel_rfl
theorem cellsOf_int : Try.prog.cellsOf 3 = 1 := by kernel_rfl
theorem cellsOf_u32 : Try.prog.cellsOf 23 = 1 := by kernel_rfl
theorem cellsOf_u8 : Try.prog.cellsOf 5 = 1 := by kernel_rfl
theorem cellsOf_b16 : Try.prog.cellsOf 24 = 16 := by kernel_rfl

theorem head_of {cs : List Value} {i : Nat} {v : Value} (h : (cs.drop i).take 1 = [v]) : cs[i]? = some v := by
  have h2 : ((cs.drop i).take 1)[0]? = some v := by rw [h]; rfl
  rw [List.getElem?_take_of_lt (by omega), List.getElem?_drop] at h2
  simpa using h2
/-- A datum that is a message. -/
theorem trod_msg {H : Type} {enc : TypeId × Value → H} {W : World} {base fuel : Nat} {spare : Nat → Bool} {held : Bool} {cs : List Value} {x : DataW H × List MemPlace} (h : DataW.trod enc Try.prog W base spare held fuel 26 cs = some x) :
    ∃ m : Msg, cs = m.cells ∧ m.Fits := by
  obtain ⟨xs, n, -, -, hl, hx, hf⟩ := DataW.trod_struct Try.underlying26 h
  rw [cellsOf_msg] at hl
  have h0 := hf 0 _ rfl
  have h1 := hf 1 _ rfl
  have h2 := hf 2 _ rfl
  have h3 := hf 3 _ rfl
  have h4 := hf 4 _ rfl
  have hx : xs.length = 5 := hx
  rw [List.getElem?_eq_getElem (by omega)] at h0 h1 h2 h3 h4
  obtain ⟨k, e0, -, -⟩ := DataW.trod_int Try.underlying22 h0
  obtain ⟨f, e1, -, -⟩ := DataW.trod_int Try.underlying3 h1
  obtain ⟨t, e2, -, -⟩ := DataW.trod_int Try.underlying3 h2
  obtain ⟨l, e3, -, -⟩ := DataW.trod_int Try.underlying23 h3
  obtain ⟨bs, e4, hb, hw⟩ := open_int_array Try.underlying24 Try.underlying5 cellsOf_u8 cellsOf_b16 h4
  replace e0 : (cs.drop 0).take 1 = [.int .i64 k] := by rw [← cellsOf_kind]; exact e0
  replace e1 : (cs.drop 1).take 1 = [.int .i64 f] := by rw [← cellsOf_int]; exact e1
  replace e2 : (cs.drop 2).take 1 = [.int .i64 t] := by rw [← cellsOf_int]; exact e2
  replace e3 : (cs.drop 3).take 1 = [.int .u32 l] := by rw [← cellsOf_u32]; exact e3
  replace e4 : (cs.drop 4).take 16 = bs.map (Value.int .u8) := by rw [← cellsOf_b16]; exact e4
  have g0 := head_of e0
  have g1 := head_of e1
  have g2 := head_of e2
  have g3 := head_of e3
  refine ⟨⟨k, f, t, l, bs⟩, ?_, hb, fun y hy => bounds_u8 (hw y hy)⟩
  have e4' : cs.drop 4 = u8s bs := by
    rw [List.take_of_length_le (by simp; omega)] at e4
    exact e4
  apply List.ext_getElem?
  intro i
  rcases (by omega : i = 0 ∨ i = 1 ∨ i = 2 ∨ i = 3 ∨ 4 ≤ i) with rfl | rfl | rfl | rfl | hi
  · rw [g0]; rfl
  · rw [g1]; rfl
  · rw [g2]; rfl
  · rw [g3]; rfl
  · have : cs[i]? = (cs.drop 4)[i - 4]? := by rw [List.getElem?_drop]; congr 1; omega
    rw [this, e4', Msg.cells, List.getElem?_append_right (by simpa using hi)]
    rfl
theorem open_msg {H : Type} {enc : TypeId × Value → H} {W : World} {r : Reach} {base b0 : Nat} {v : Value} {d : DataW H} {p : List MemPlace} (hv : Value.okWide Try.prog W r b0 26 v)
    (h : DataW.Trod enc Try.prog W base (fun _ => true) true 26 v d p) : ∃ m : Msg, v = .agg m.cells.toArray ∧ m.Fits := by
  obtain ⟨cs, rfl, -⟩ := okWide_struct Try.underlying26 hv
  obtain ⟨fuel, hf⟩ := h
  obtain ⟨m, hm, hfits⟩ := trod_msg hf
  refine ⟨m, ?_, hfits⟩
  rw [← hm]
  simp [Value.cells]
end Go.Proofs.Ytklokcndhkhdmaa
