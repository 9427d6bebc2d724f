/- The law BufferPlays returns true for every input and leaves its arguments as they were. -/
import Derived.Test.YtknjlmpjkkkilaaBufferPlaysWalk
import Derived.Test.YtknjlmpjkkkilaaBufLawB
namespace Go.Proofs.Ytknjlmpjkkkilaa
open Go.ChangeShapes Go.WideShapes Go.ChangeAt Go.RowKit
set_option linter.unusedVariables false

set_option maxRecDepth 100000 in
theorem bufferPlays_lifted (os : Os) (started : os.Started) (H : Type) (enc : TypeId × Value → H) :
    ReturnsInHanded {} Try.checked os 7 .any (Rows.bufferPlaysSpec.pre6 enc Try.prog Try.f7 Rows.bufferPlaysRow.domain false) (Rows.bufferPlaysSpec.post enc Try.prog Try.f7 false true false false) := by
  refine law_lifted 7 Try.f7 Try.func7 (by kernel_rfl) Rows.bufferPlaysSpec rfl rfl ?_ (by kernel_rfl) os started H enc
    (ChangeSpec.witness6 (enc := enc) (C := Try.checked) false ⟨#[], #[.slice none 0 0], []⟩ 8 (by kernel_rfl) (by kernel_rfl) (by kernel_rfl) (by kernel_rfl)) ?_
  · intro H ds h
    match ds, h with
    | [d0], _ => rfl
  · intro W base args ds p hval hA
    rw [Try.params7] at hA hval
    obtain ⟨v0, vs0, d0, ds0, p0, q0, hargs, rfl, rfl, h0, r0⟩ := trodAll_cons hA
    obtain ⟨rfl, rfl, rfl⟩ := trodAll_nil r0
    obtain rfl : args = #[v0] := by cases args; simp_all
    obtain ⟨a0, c0, l0, rfl, hl0⟩ := open_acts (hval 0 40 v0 rfl rfl) h0
    exact bufferPlays_walk a0 c0 l0 W hl0

theorem bufferPlays_over : Rows.bufferPlaysRow.holds Try.pinned (OpenSpec.ofChange Rows.bufferPlaysSpec) :=
  OpenClaim.holds_of_wide 7 Try.f7 rfl rfl rfl rfl rfl rfl rfl ⟨rfl, rfl, rfl, rfl, rfl⟩ rfl rfl rfl rfl rfl (by kernel_rfl) Try.func7 (by kernel_rfl)
    (of_decide_eq_true (by kernel_rfl)) (by unfold Func.isWrapper; first | (rw [if_pos (by decide +kernel)]; kernel_rfl) | (rw [if_neg (by decide +kernel)]; exact ⟨rfl, rfl⟩))
    (fun os started H enc _ => bufferPlays_lifted os started H enc)

theorem bufferPlays_proved : Rows.BufferPlaysSaid := bufferPlays_over
#print axioms bufferPlays_proved
end Go.Proofs.Ytknjlmpjkkkilaa
