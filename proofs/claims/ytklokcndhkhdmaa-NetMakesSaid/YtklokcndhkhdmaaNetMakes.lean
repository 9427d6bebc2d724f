/- The law NetMakes returns true for every input and leaves its arguments as they were. -/
import Derived.Test.YtklokcndhkhdmaaNetMakesWalk
import Derived.Test.YtklokcndhkhdmaaNetLaw
namespace Go.Proofs.Ytklokcndhkhdmaa
open Go.ChangeShapes Go.WideShapes Go.ChangeAt Go.RowKit
set_option linter.unusedVariables false

set_option maxRecDepth 100000 in
theorem netMakes_lifted (os : Os) (started : os.Started) (H : Type) (enc : TypeId × Value → H) :
    ReturnsInHanded {} Try.checked os 8 .any (Rows.netMakesSpec.pre6 enc Try.prog Try.f8 Rows.netMakesRow.domain false) (Rows.netMakesSpec.post enc Try.prog Try.f8 false true false false) := by
  refine law_lifted 8 Try.f8 Try.func8 (by kernel_rfl) Rows.netMakesSpec rfl rfl ?_ (by kernel_rfl) os started H enc
    (ChangeSpec.witness6 (enc := enc) (C := Try.checked) false ⟨#[], #[.int .i64 0], []⟩ 8 (by kernel_rfl) (by kernel_rfl) (by kernel_rfl) (by kernel_rfl)) ?_
  · intro H ds h
    match ds, h with
    | [d0], _ => rfl
  · intro W base args ds p hval hA
    rw [Try.params8] at hA hval
    obtain ⟨v0, vs0, d0, ds0, p0, q0, hargs, rfl, rfl, h0, r0⟩ := trodAll_cons hA
    obtain ⟨rfl, rfl, rfl⟩ := trodAll_nil r0
    obtain rfl : args = #[v0] := by cases args; simp_all
    obtain ⟨x0, rfl, rfl, rfl, wf0⟩ := open_int Try.underlying3 (hval 0 3 v0 rfl rfl) h0
    have hb0 := bounds_i64 wf0
    exact netMakes_walk x0 W

theorem netMakes_over : Rows.netMakesRow.holds Try.pinned (OpenSpec.ofChange Rows.netMakesSpec) :=
  OpenClaim.holds_of_wide 8 Try.f8 rfl rfl rfl rfl rfl rfl rfl ⟨rfl, rfl, rfl, rfl, rfl⟩ rfl rfl rfl rfl rfl (by kernel_rfl) Try.func8 (by kernel_rfl)
    (of_decide_eq_true (by kernel_rfl)) (by unfold Func.isWrapper; first | (rw [if_pos (by decide +kernel)]; kernel_rfl) | (rw [if_neg (by decide +kernel)]; exact ⟨rfl, rfl⟩))
    (fun os started H enc _ => netMakes_lifted os started H enc)

theorem netMakes_proved : Rows.NetMakesSaid := netMakes_over
#print axioms netMakes_proved
end Go.Proofs.Ytklokcndhkhdmaa
