/- Calls as cells. -/
import Derived.Test.YtklokcndhkhdmaaNetC
namespace Go.Proofs.Ytklokcndhkhdmaa
open Go.RowKit
set_option linter.unusedVariables false
set_option linter.unusedSimpArgs false

/-- A call: what, its message, its choice. -/
structure Deed where
  what : Int
  msg : Msg
  pick : Int
def Deed.cells (x : Deed) : List Value := [.int .i64 x.what] ++ (x.msg.cells ++ [.int .i64 x.pick])
def Deed.Fits (x : Deed) : Prop := x.msg.Fits
theorem Deed.cells_length (x : Deed) (h : x.Fits) : x.cells.length = 22 := by simp [Deed.cells, Proofs.Ytklokcndhkhdmaa.cells_length x.msg h]
theorem Deed.cells_one (x : Deed) : ∀ u ∈ x.cells, u.oneCell' = true := by
  intro u hu
  simp only [Deed.cells, List.mem_append, List.mem_cons, List.not_mem_nil, or_false] at hu
  rcases hu with rfl | hu | rfl
  · rfl
  · exact Proofs.Ytklokcndhkhdmaa.cells_one _ u hu
  · rfl
theorem Deed.at0 (x : Deed) : x.cells.toArray[0]? = some (.int .i64 x.what) := rfl
theorem Deed.at21 (x : Deed) (h : x.Fits) : x.cells.toArray[21]? = some (.int .i64 x.pick) := by
  have := Proofs.Ytklokcndhkhdmaa.cells_length x.msg h
  rw [List.getElem?_toArray, Deed.cells, List.getElem?_append_right (by simp), List.getElem?_append_right (by simp [this])]
  simp [this]
theorem Deed.at1 (x : Deed) (h : x.Fits) : ∀ j v, x.msg.cells[j]? = some v → x.cells.toArray[1 + j]? = some v := by
  intro j v hj
  have hl : j < x.msg.cells.length := (List.getElem?_eq_some_iff.1 hj).1
  rw [List.getElem?_toArray, Deed.cells, List.getElem?_append_right (by simp), List.getElem?_append_left (by simpa using hl)]
  simpa using hj
theorem info40 : (Try.prog.info? 40).map (·.size) = some 22 := by kernel_rfl

end Go.Proofs.Ytklokcndhkhdmaa
