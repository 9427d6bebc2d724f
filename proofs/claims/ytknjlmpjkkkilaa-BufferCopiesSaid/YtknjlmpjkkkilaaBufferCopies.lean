/- The law BufferCopies returns true for every input and leaves its arguments as they were. -/
import Derived.Test.YtknjlmpjkkkilaaBufferCopiesWalk
import Derived.Test.YtknjlmpjkkkilaaBufLawB
namespace Go.Proofs.Ytknjlmpjkkkilaa
open Go.ChangeShapes Go.WideShapes Go.ChangeAt Go.RowKit
set_option linter.unusedVariables false

set_option maxRecDepth 100000 in
theorem bufferCopies_lifted (os : Os) (started : os.Started) (H : Type) (enc : TypeId × Value → H) :
    ReturnsInHanded {} Try.checked os 8 .any (Rows.bufferCopiesSpec.pre6 enc Try.prog Try.f8 Rows.bufferCopiesRow.domain false) (Rows.bufferCopiesSpec.post enc Try.prog Try.f8 false true false false) := by
  refine law_lifted 8 Try.f8 Try.func8 (by kernel_rfl) Rows.bufferCopiesSpec rfl rfl ?_ (by kernel_rfl) os started H enc
    (ChangeSpec.witness6 (enc := enc) (C := Try.checked) false ⟨#[], #[.slice none 0 0, .agg #[.int .i64 0, .int .u32 0, .int .i64 0, .int .u32 0]], []⟩ 8 (by kernel_rfl) (by kernel_rfl) (by kernel_rfl) (by kernel_rfl)) ?_
  · intro H ds h
    match ds, h with
    | [d0, d1], _ => rfl
  · intro W base args ds p hval hA
    rw [Try.params8] at hA hval
    obtain ⟨v0, vs0, d0, ds0, p0, q0, hargs, rfl, rfl, h0, r0⟩ := trodAll_cons hA
    obtain ⟨v1, vs1, d1, ds1, p1, q1, rfl, rfl, rfl, h1, r1⟩ := trodAll_cons r0
    obtain ⟨rfl, rfl, rfl⟩ := trodAll_nil r1
    obtain rfl : args = #[v0, v1] := by cases args; simp_all
    obtain ⟨a0, c0, l0, rfl, hl0⟩ := open_acts (hval 0 40 v0 rfl rfl) h0
    obtain ⟨m1, rfl, hm1⟩ := open_act (hval 1 48 v1 rfl rfl) h1
    exact bufferCopies_walk a0 c0 l0 m1 hm1 W hl0

theorem bufferCopies_over : Rows.bufferCopiesRow.holds Try.pinned (OpenSpec.ofChange Rows.bufferCopiesSpec) :=
  OpenClaim.holds_of_wide 8 Try.f8 rfl rfl rfl rfl rfl rfl rfl ⟨rfl, rfl, rfl, rfl, rfl⟩ rfl rfl rfl rfl rfl (by kernel_rfl) Try.func8 (by kernel_rfl)
    (of_decide_eq_true (by kernel_rfl)) (by unfold Func.isWrapper; first | (rw [if_pos (by decide +kernel)]; kernel_rfl) | (rw [if_neg (by decide +kernel)]; exact ⟨rfl, rfl⟩))
    (fun os started H enc _ => bufferCopies_lifted os started H enc)

theorem bufferCopies_proved : Rows.BufferCopiesSaid := bufferCopies_over
#print axioms bufferCopies_proved
end Go.Proofs.Ytknjlmpjkkkilaa
