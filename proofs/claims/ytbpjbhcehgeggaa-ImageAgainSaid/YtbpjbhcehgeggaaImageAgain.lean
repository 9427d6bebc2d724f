/- The law ImageAgain returns true for every input and leaves its arguments as they were. -/
import Derived.Test.YtbpjbhcehgeggaaImageAgainWalk
import Derived.Test.YtbpjbhcehgeggaaLaw
import Derived.Lib.SmallJoins
namespace Go.Proofs.Ytbpjbhcehgeggaa
open Go.ChangeShapes Go.WideShapes Go.ChangeAt Go.RowKit Go.Joins
set_option linter.unusedVariables false

set_option maxRecDepth 100000 in
theorem imageAgain_lifted (os : Os) (started : os.Started) (H : Type) (enc : TypeId × Value → H) :
    ReturnsInHanded {} Try.checked os 4 .any (Rows.imageAgainSpec.pre6 enc Try.prog Try.f4 Rows.imageAgainRow.domain false) (Rows.imageAgainSpec.post enc Try.prog Try.f4 false true false false) := by
  refine law_lifted 4 Try.f4 Try.func4 (by kernel_rfl) Rows.imageAgainSpec rfl rfl ?_ (by kernel_rfl) os started H enc
    (ChangeSpec.witness6 (enc := enc) (C := Try.checked) false ⟨#[], #[.slice none 0 0, .int .i64 0, .agg #[.int .u32 0, .int .i64 0, .int .u32 0], .int .u32 0], []⟩ 8 (by kernel_rfl) (by kernel_rfl) (by kernel_rfl) (by kernel_rfl)) ?_
  · intro H ds h
    match ds, h with
    | [d1, d2, d3, d4], _ => rfl
  · intro W base args ds p hval hA
    rw [Try.params4] at hA hval
    obtain ⟨v0, vs0, d0, ds0, p0, q0, hargs, rfl, rfl, h0, r0⟩ := trodAll_cons hA
    obtain ⟨v1, vs1, d1, ds1, p1, q1, rfl, rfl, rfl, h1, r1⟩ := trodAll_cons r0
    obtain ⟨v2, vs2, d2, ds2, p2, q2, rfl, rfl, rfl, h2, r2⟩ := trodAll_cons r1
    obtain ⟨v3, vs3, d3, ds3, p3, q3, rfl, rfl, rfl, h3, r3⟩ := trodAll_cons r2
    obtain ⟨rfl, rfl, rfl⟩ := trodAll_nil r3
    obtain rfl : args = #[v0, v1, v2, v3] := by cases args; simp_all
    obtain ⟨a, n0, c0, rfl, -, hb⟩ := open_bytes (hval 0 22 v0 rfl rfl) h0
    obtain ⟨x1, rfl, rfl, rfl, w1⟩ := open_int Try.underlying3 (hval 1 3 v1 rfl rfl) h1
    obtain ⟨c20, c21, c22, y0, y1, y2, m, rfl, -, -, g0, g1, g2⟩ := open_agg3 Try.underlying38 (by kernel_rfl) (by kernel_rfl) (hval 2 38 v2 rfl rfl) h2
    obtain ⟨A, eA, -, wA⟩ := DataW.trod_int Try.underlying23 g0
    obtain ⟨Wd, eW, -, wW⟩ := DataW.trod_int Try.underlying3 g1
    obtain ⟨V, eV, -, wV⟩ := DataW.trod_int Try.underlying23 g2
    simp at eA eW eV
    subst eA eW eV
    obtain ⟨x3, rfl, rfl, rfl, w3⟩ := open_int Try.underlying23 (hval 3 23 v3 rfl rfl) h3
    have bA := bounds_u32 wA
    have bV := bounds_u32 wV
    have b3 := bounds_u32 w3
    exact imageAgain_walk a n0 c0 x1 A Wd V x3 W (fun hn => ⟨by omega, hb⟩) bA.1 bA.2 bV.1 bV.2 b3.1 b3.2

theorem imageAgain_over : Rows.imageAgainRow.holds Try.pinned (OpenSpec.ofChange Rows.imageAgainSpec) :=
  OpenClaim.holds_of_wide 4 Try.f4 rfl rfl rfl rfl rfl rfl rfl ⟨rfl, rfl, rfl, rfl, rfl⟩ rfl rfl rfl rfl rfl (by kernel_rfl) Try.func4 (by kernel_rfl)
    (of_decide_eq_true (by kernel_rfl)) (by unfold Func.isWrapper; first | (rw [if_pos (by decide +kernel)]; kernel_rfl) | (rw [if_neg (by decide +kernel)]; exact ⟨rfl, rfl⟩))
    (fun os started H enc _ => imageAgain_lifted os started H enc)

theorem imageAgain_proved : Rows.ImageAgainSaid := imageAgain_over
#print axioms imageAgain_proved
end Go.Proofs.Ytbpjbhcehgeggaa
