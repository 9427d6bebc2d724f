/- The law NetCopies returns true for every input and leaves its arguments as they were. -/
import Derived.Test.YtklokcndhkhdmaaNetCopiesWalk
import Derived.Test.YtklokcndhkhdmaaNetLawB
namespace Go.Proofs.Ytklokcndhkhdmaa
open Go.ChangeShapes Go.WideShapes Go.ChangeAt Go.RowKit
set_option linter.unusedVariables false

set_option maxRecDepth 100000 in
theorem netCopies_lifted (os : Os) (started : os.Started) (H : Type) (enc : TypeId × Value → H) :
    ReturnsInHanded {} Try.checked os 9 .any (Rows.netCopiesSpec.pre6 enc Try.prog Try.f9 Rows.netCopiesRow.domain false) (Rows.netCopiesSpec.post enc Try.prog Try.f9 false true false false) := by
  refine law_lifted 9 Try.f9 Try.func9 (by kernel_rfl) Rows.netCopiesSpec rfl rfl ?_ (by kernel_rfl) os started H enc
    (ChangeSpec.witness6 (enc := enc) (C := Try.checked) false ⟨#[], #[.int .i64 0, .slice none 0 0, .agg #[.int .i64 0, .int .i64 0, .int .i64 0, .int .i64 0, .int .u32 0, .int .u8 0, .int .u8 0, .int .u8 0, .int .u8 0, .int .u8 0, .int .u8 0, .int .u8 0, .int .u8 0, .int .u8 0, .int .u8 0, .int .u8 0, .int .u8 0, .int .u8 0, .int .u8 0, .int .u8 0, .int .u8 0, .int .i64 0]], []⟩ 8 (by kernel_rfl) (by kernel_rfl) (by kernel_rfl) (by kernel_rfl)) ?_
  · intro H ds h
    match ds, h with
    | [d0, d1, d2], _ => rfl
  · intro W base args ds p hval hA
    rw [Try.params9] at hA hval
    obtain ⟨v0, vs0, d0, ds0, p0, q0, hargs, rfl, rfl, h0, r0⟩ := trodAll_cons hA
    obtain ⟨v1, vs1, d1, ds1, p1, q1, rfl, rfl, rfl, h1, r1⟩ := trodAll_cons r0
    obtain ⟨v2, vs2, d2, ds2, p2, q2, rfl, rfl, rfl, h2, r2⟩ := trodAll_cons r1
    obtain ⟨rfl, rfl, rfl⟩ := trodAll_nil r2
    obtain rfl : args = #[v0, v1, v2] := by cases args; simp_all
    obtain ⟨x0, rfl, rfl, rfl, wf0⟩ := open_int Try.underlying3 (hval 0 3 v0 rfl rfl) h0
    have hb0 := bounds_i64 wf0
    obtain ⟨a1, c1, l1, rfl, hl1⟩ := open_acts (hval 1 33 v1 rfl rfl) h1
    obtain ⟨m2, rfl, hm2⟩ := open_act (hval 2 40 v2 rfl rfl) h2
    exact netCopies_walk x0 a1 c1 l1 m2 hm2 W hl1

theorem netCopies_over : Rows.netCopiesRow.holds Try.pinned (OpenSpec.ofChange Rows.netCopiesSpec) :=
  OpenClaim.holds_of_wide 9 Try.f9 rfl rfl rfl rfl rfl rfl rfl ⟨rfl, rfl, rfl, rfl, rfl⟩ rfl rfl rfl rfl rfl (by kernel_rfl) Try.func9 (by kernel_rfl)
    (of_decide_eq_true (by kernel_rfl)) (by unfold Func.isWrapper; first | (rw [if_pos (by decide +kernel)]; kernel_rfl) | (rw [if_neg (by decide +kernel)]; exact ⟨rfl, rfl⟩))
    (fun os started H enc _ => netCopies_lifted os started H enc)

theorem netCopies_proved : Rows.NetCopiesSaid := netCopies_over
#print axioms netCopies_proved
end Go.Proofs.Ytklokcndhkhdmaa
