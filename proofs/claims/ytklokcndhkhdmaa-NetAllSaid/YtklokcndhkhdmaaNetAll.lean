/- The law NetAll returns true for every input and leaves its arguments as they were. -/
import Derived.Test.YtklokcndhkhdmaaNetAllWalk
import Derived.Test.YtklokcndhkhdmaaNetLawB
namespace Go.Proofs.Ytklokcndhkhdmaa
open Go.ChangeShapes Go.WideShapes Go.ChangeAt Go.RowKit
set_option linter.unusedVariables false

set_option maxRecDepth 100000 in
theorem netAll_lifted (os : Os) (started : os.Started) (H : Type) (enc : TypeId × Value → H) :
    ReturnsInHanded {} Try.checked os 4 .any (Rows.netAllSpec.pre6 enc Try.prog Try.f4 Rows.netAllRow.domain false) (Rows.netAllSpec.post enc Try.prog Try.f4 false true false false) := by
  refine law_lifted 4 Try.f4 Try.func4 (by kernel_rfl) Rows.netAllSpec rfl rfl ?_ (by kernel_rfl) os started H enc
    (ChangeSpec.witness6 (enc := enc) (C := Try.checked) false ⟨#[], #[.slice none 0 0, .slice none 0 0], []⟩ 8 (by kernel_rfl) (by kernel_rfl) (by kernel_rfl) (by kernel_rfl)) ?_
  · intro H ds h
    match ds, h with
    | [d0, d1], _ => rfl
  · intro W base args ds p hval hA
    rw [Try.params4] at hA hval
    obtain ⟨v0, vs0, d0, ds0, p0, q0, hargs, rfl, rfl, h0, r0⟩ := trodAll_cons hA
    obtain ⟨v1, vs1, d1, ds1, p1, q1, rfl, rfl, rfl, h1, r1⟩ := trodAll_cons r0
    obtain ⟨rfl, rfl, rfl⟩ := trodAll_nil r1
    obtain rfl : args = #[v0, v1] := by cases args; simp_all
    obtain ⟨a0, c0, l0, rfl, hl0⟩ := open_acts (hval 0 33 v0 rfl rfl) h0
    obtain ⟨a1, c1, l1, rfl, hl1⟩ := open_intl (hval 1 34 v1 rfl rfl) h1
    exact netAll_walk a0 a1 c0 c1 l0 l1 W hl0 hl1

theorem netAll_over : Rows.netAllRow.holds Try.pinned (OpenSpec.ofChange Rows.netAllSpec) :=
  OpenClaim.holds_of_wide 4 Try.f4 rfl rfl rfl rfl rfl rfl rfl ⟨rfl, rfl, rfl, rfl, rfl⟩ rfl rfl rfl rfl rfl (by kernel_rfl) Try.func4 (by kernel_rfl)
    (of_decide_eq_true (by kernel_rfl)) (by unfold Func.isWrapper; first | (rw [if_pos (by decide +kernel)]; kernel_rfl) | (rw [if_neg (by decide +kernel)]; exact ⟨rfl, rfl⟩))
    (fun os started H enc _ => netAll_lifted os started H enc)

theorem netAll_proved : Rows.NetAllSaid := netAll_over
#print axioms netAll_proved
end Go.Proofs.Ytklokcndhkhdmaa
