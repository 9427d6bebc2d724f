/- The law NetDelivers returns true for every input and leaves its arguments as they were. -/
import Derived.Test.YtklokcndhkhdmaaNetDeliversWalk
import Derived.Test.YtklokcndhkhdmaaNetLawB
namespace Go.Proofs.Ytklokcndhkhdmaa
open Go.ChangeShapes Go.WideShapes Go.ChangeAt Go.RowKit
set_option linter.unusedVariables false

set_option maxRecDepth 100000 in
theorem netDelivers_lifted (os : Os) (started : os.Started) (H : Type) (enc : TypeId × Value → H) :
    ReturnsInHanded {} Try.checked os 7 .any (Rows.netDeliversSpec.pre6 enc Try.prog Try.f7 Rows.netDeliversRow.domain false) (Rows.netDeliversSpec.post enc Try.prog Try.f7 false true false false) := by
  refine law_lifted 7 Try.f7 Try.func7 (by kernel_rfl) Rows.netDeliversSpec rfl rfl ?_ (by kernel_rfl) os started H enc
    (ChangeSpec.witness6 (enc := enc) (C := Try.checked) false ⟨#[], #[.slice none 0 0, .int .i64 0], []⟩ 8 (by kernel_rfl) (by kernel_rfl) (by kernel_rfl) (by kernel_rfl)) ?_
  · intro H ds h
    match ds, h with
    | [d0, d1], _ => rfl
  · intro W base args ds p hval hA
    rw [Try.params7] at hA hval
    obtain ⟨v0, vs0, d0, ds0, p0, q0, hargs, rfl, rfl, h0, r0⟩ := trodAll_cons hA
    obtain ⟨v1, vs1, d1, ds1, p1, q1, rfl, rfl, rfl, h1, r1⟩ := trodAll_cons r0
    obtain ⟨rfl, rfl, rfl⟩ := trodAll_nil r1
    obtain rfl : args = #[v0, v1] := by cases args; simp_all
    obtain ⟨a0, c0, l0, rfl, hl0⟩ := open_msgs (hval 0 38 v0 rfl rfl) h0
    obtain ⟨x1, rfl, rfl, rfl, wf1⟩ := open_int Try.underlying3 (hval 1 3 v1 rfl rfl) h1
    have hb1 := bounds_i64 wf1
    exact netDelivers_walk a0 c0 l0 x1 W hl0

theorem netDelivers_over : Rows.netDeliversRow.holds Try.pinned (OpenSpec.ofChange Rows.netDeliversSpec) :=
  OpenClaim.holds_of_wide 7 Try.f7 rfl rfl rfl rfl rfl rfl rfl ⟨rfl, rfl, rfl, rfl, rfl⟩ rfl rfl rfl rfl rfl (by kernel_rfl) Try.func7 (by kernel_rfl)
    (of_decide_eq_true (by kernel_rfl)) (by unfold Func.isWrapper; first | (rw [if_pos (by decide +kernel)]; kernel_rfl) | (rw [if_neg (by decide +kernel)]; exact ⟨rfl, rfl⟩))
    (fun os started H enc _ => netDelivers_lifted os started H enc)

theorem netDelivers_proved : Rows.NetDeliversSaid := netDelivers_over
#print axioms netDelivers_proved
end Go.Proofs.Ytklokcndhkhdmaa
