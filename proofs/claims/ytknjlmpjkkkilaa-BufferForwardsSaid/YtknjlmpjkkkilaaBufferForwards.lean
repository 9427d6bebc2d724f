/- The law BufferForwards returns true for every input and leaves its arguments as they were. -/
import Derived.Test.YtknjlmpjkkkilaaBufferForwardsWalk
import Derived.Test.YtknjlmpjkkkilaaBufLawB
namespace Go.Proofs.Ytknjlmpjkkkilaa
open Go.ChangeShapes Go.WideShapes Go.ChangeAt Go.RowKit
set_option linter.unusedVariables false

set_option maxRecDepth 100000 in
theorem bufferForwards_lifted (os : Os) (started : os.Started) (H : Type) (enc : TypeId × Value → H) :
    ReturnsInHanded {} Try.checked os 4 .any (Rows.bufferForwardsSpec.pre6 enc Try.prog Try.f4 Rows.bufferForwardsRow.domain false) (Rows.bufferForwardsSpec.post enc Try.prog Try.f4 false true false false) := by
  refine law_lifted 4 Try.f4 Try.func4 (by kernel_rfl) Rows.bufferForwardsSpec rfl rfl ?_ (by kernel_rfl) os started H enc
    (ChangeSpec.witness6 (enc := enc) (C := Try.checked) false ⟨#[], #[.slice none 0 0, .int .u32 0, .int .i64 0], []⟩ 8 (by kernel_rfl) (by kernel_rfl) (by kernel_rfl) (by kernel_rfl)) ?_
  · intro H ds h
    match ds, h with
    | [d0, d1, d2], _ => rfl
  · intro W base args ds p hval hA
    rw [Try.params4] at hA hval
    obtain ⟨v0, vs0, d0, ds0, p0, q0, hargs, rfl, rfl, h0, r0⟩ := trodAll_cons hA
    obtain ⟨v1, vs1, d1, ds1, p1, q1, rfl, rfl, rfl, h1, r1⟩ := trodAll_cons r0
    obtain ⟨v2, vs2, d2, ds2, p2, q2, rfl, rfl, rfl, h2, r2⟩ := trodAll_cons r1
    obtain ⟨rfl, rfl, rfl⟩ := trodAll_nil r2
    obtain rfl : args = #[v0, v1, v2] := by cases args; simp_all
    obtain ⟨a0, c0, l0, rfl, hl0⟩ := open_acts (hval 0 40 v0 rfl rfl) h0
    obtain ⟨x1, rfl, rfl, rfl, wf1⟩ := open_int Try.underlying22 (hval 1 22 v1 rfl rfl) h1
    have hb1 := bounds_u32 wf1
    obtain ⟨x2, rfl, rfl, rfl, wf2⟩ := open_int Try.underlying3 (hval 2 3 v2 rfl rfl) h2
    have hb2 := bounds_i64 wf2
    exact bufferForwards_walk a0 c0 l0 x1 x2 hb1.1 hb1.2 W hl0

theorem bufferForwards_over : Rows.bufferForwardsRow.holds Try.pinned (OpenSpec.ofChange Rows.bufferForwardsSpec) :=
  OpenClaim.holds_of_wide 4 Try.f4 rfl rfl rfl rfl rfl rfl rfl ⟨rfl, rfl, rfl, rfl, rfl⟩ rfl rfl rfl rfl rfl (by kernel_rfl) Try.func4 (by kernel_rfl)
    (of_decide_eq_true (by kernel_rfl)) (by unfold Func.isWrapper; first | (rw [if_pos (by decide +kernel)]; kernel_rfl) | (rw [if_neg (by decide +kernel)]; exact ⟨rfl, rfl⟩))
    (fun os started H enc _ => bufferForwards_lifted os started H enc)

theorem bufferForwards_proved : Rows.BufferForwardsSaid := bufferForwards_over
#print axioms bufferForwards_proved
end Go.Proofs.Ytknjlmpjkkkilaa
