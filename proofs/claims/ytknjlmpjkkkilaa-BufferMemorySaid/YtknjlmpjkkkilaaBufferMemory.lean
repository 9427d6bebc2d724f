/- The law BufferMemory returns true for every input and leaves its arguments as they were. -/
import Derived.Test.YtknjlmpjkkkilaaBufferMemoryWalk
import Derived.Test.YtknjlmpjkkkilaaBufLawB
import Derived.Test.YtknjlmpjkkkilaaLawB
namespace Go.Proofs.Ytknjlmpjkkkilaa
open Go.ChangeShapes Go.WideShapes Go.ChangeAt Go.RowKit
set_option linter.unusedVariables false

set_option maxRecDepth 100000 in
theorem bufferMemory_lifted (os : Os) (started : os.Started) (H : Type) (enc : TypeId × Value → H) :
    ReturnsInHanded {} Try.checked os 6 .any (Rows.bufferMemorySpec.pre6 enc Try.prog Try.f6 Rows.bufferMemoryRow.domain false) (Rows.bufferMemorySpec.post enc Try.prog Try.f6 false true false false) := by
  refine law_lifted 6 Try.f6 Try.func6 (by kernel_rfl) Rows.bufferMemorySpec rfl rfl ?_ (by kernel_rfl) os started H enc
    (ChangeSpec.witness6 (enc := enc) (C := Try.checked) false ⟨#[], #[.slice none 0 0, .slice none 0 0, .int .u32 0, .int .i64 0], []⟩ 8 (by kernel_rfl) (by kernel_rfl) (by kernel_rfl) (by kernel_rfl)) ?_
  · intro H ds h
    match ds, h with
    | [d0, d1, d2, d3], _ => rfl
  · intro W base args ds p hval hA
    rw [Try.params6] at hA hval
    obtain ⟨v0, vs0, d0, ds0, p0, q0, hargs, rfl, rfl, h0, r0⟩ := trodAll_cons hA
    obtain ⟨v1, vs1, d1, ds1, p1, q1, rfl, rfl, rfl, h1, r1⟩ := trodAll_cons r0
    obtain ⟨v2, vs2, d2, ds2, p2, q2, rfl, rfl, rfl, h2, r2⟩ := trodAll_cons r1
    obtain ⟨v3, vs3, d3, ds3, p3, q3, rfl, rfl, rfl, h3, r3⟩ := trodAll_cons r2
    obtain ⟨rfl, rfl, rfl⟩ := trodAll_nil r3
    obtain rfl : args = #[v0, v1, v2, v3] := by cases args; simp_all
    obtain ⟨a0, c0, l0, rfl, hl0⟩ := open_acts (hval 0 40 v0 rfl rfl) h0
    obtain ⟨a1, n1, c1, rfl, hl1⟩ := open_bytes (hval 1 46 v1 rfl rfl) h1
    obtain ⟨x2, rfl, rfl, rfl, wf2⟩ := open_int Try.underlying22 (hval 2 22 v2 rfl rfl) h2
    have hb2 := bounds_u32 wf2
    obtain ⟨x3, rfl, rfl, rfl, wf3⟩ := open_int Try.underlying3 (hval 3 3 v3 rfl rfl) h3
    have hb3 := bounds_i64 wf3
    exact bufferMemory_walk a0 c0 l0 a1 n1 c1 x2 x3 hb2.1 hb2.2 W hl0 hl1

theorem bufferMemory_over : Rows.bufferMemoryRow.holds Try.pinned (OpenSpec.ofChange Rows.bufferMemorySpec) :=
  OpenClaim.holds_of_wide 6 Try.f6 rfl rfl rfl rfl rfl rfl rfl ⟨rfl, rfl, rfl, rfl, rfl⟩ rfl rfl rfl rfl rfl (by kernel_rfl) Try.func6 (by kernel_rfl)
    (of_decide_eq_true (by kernel_rfl)) (by unfold Func.isWrapper; first | (rw [if_pos (by decide +kernel)]; kernel_rfl) | (rw [if_neg (by decide +kernel)]; exact ⟨rfl, rfl⟩))
    (fun os started H enc _ => bufferMemory_lifted os started H enc)

theorem bufferMemory_proved : Rows.BufferMemorySaid := bufferMemory_over
#print axioms bufferMemory_proved
end Go.Proofs.Ytknjlmpjkkkilaa
