/- The law ImageSets returns true for every input and leaves its arguments as they were. -/
import Derived.Test.YtbpjbhcehgeggaaImageSetsWalk
import Derived.Test.YtbpjbhcehgeggaaLaw
namespace Go.Proofs.Ytbpjbhcehgeggaa
open Go.ChangeShapes Go.WideShapes Go.ChangeAt Go.RowKit
set_option linter.unusedVariables false

set_option maxRecDepth 100000 in
theorem imageSets_lifted (os : Os) (started : os.Started) (H : Type) (enc : TypeId × Value → H) :
    ReturnsInHanded {} Try.checked os 3 .any (Rows.imageSetsSpec.pre6 enc Try.prog Try.f3 Rows.imageSetsRow.domain false) (Rows.imageSetsSpec.post enc Try.prog Try.f3 false true false false) := by
  refine law_lifted 3 Try.f3 Try.func3 (by kernel_rfl) Rows.imageSetsSpec rfl rfl ?_ (by kernel_rfl) os started H enc
    (ChangeSpec.witness6 (enc := enc) (C := Try.checked) false ⟨#[], #[.slice none 0 0, .int .i64 0, .int .u32 0, .int .u32 0, .agg #[.int .u8 0, .int .u8 0, .int .u8 0, .int .u8 0, .int .u8 0, .int .u8 0, .int .u8 0, .int .u8 0, .int .u8 0, .int .u8 0, .int .u8 0, .int .u8 0, .int .u8 0, .int .u8 0, .int .u8 0, .int .u8 0]], []⟩ 8 (by kernel_rfl) (by kernel_rfl) (by kernel_rfl) (by kernel_rfl)) ?_
  · intro H ds h
    match ds, h with
    | [d1, d2, d3, d4, d5], _ => rfl
  · intro W base args ds p hval hA
    rw [Try.params3] at hA hval
    obtain ⟨v0, vs0, d0, ds0, p0, q0, hargs, rfl, rfl, h0, r0⟩ := trodAll_cons hA
    obtain ⟨v1, vs1, d1, ds1, p1, q1, rfl, rfl, rfl, h1, r1⟩ := trodAll_cons r0
    obtain ⟨v2, vs2, d2, ds2, p2, q2, rfl, rfl, rfl, h2, r2⟩ := trodAll_cons r1
    obtain ⟨v3, vs3, d3, ds3, p3, q3, rfl, rfl, rfl, h3, r3⟩ := trodAll_cons r2
    obtain ⟨v4, vs4, d4, ds4, p4, q4, rfl, rfl, rfl, h4, r4⟩ := trodAll_cons r3
    obtain ⟨rfl, rfl, rfl⟩ := trodAll_nil r4
    obtain rfl : args = #[v0, v1, v2, v3, v4] := by cases args; simp_all
    obtain ⟨a, n0, c0, rfl, -, hb⟩ := open_bytes (hval 0 22 v0 rfl rfl) h0
    obtain ⟨x1, rfl, rfl, rfl, w1⟩ := open_int Try.underlying3 (hval 1 3 v1 rfl rfl) h1
    obtain ⟨x2, rfl, rfl, rfl, w2⟩ := open_int Try.underlying23 (hval 2 23 v2 rfl rfl) h2
    obtain ⟨x3, rfl, rfl, rfl, w3⟩ := open_int Try.underlying23 (hval 3 23 v3 rfl rfl) h3
    have hv4 := hval 4 24 v4 rfl rfl
    simp only [Value.okWide, Try.underlying24] at hv4
    obtain ⟨cs, rfl, -, -⟩ := hv4
    obtain ⟨fuel, hf⟩ := h4
    obtain ⟨ls, hls, hl16, hlr⟩ := open_int_array Try.underlying24 Try.underlying5 (by kernel_rfl) (by kernel_rfl) hf
    have hcs : cs = (u8s ls).toArray := by
      apply Array.ext'; simpa [Value.cells, u8s] using hls
    subst hcs
    have b2 := bounds_u32 w2
    have b3 := bounds_u32 w3
    exact imageSets_walk a n0 c0 x1 x2 x3 ls W (fun hn => ⟨by omega, hb⟩) hl16 (fun y hy => bounds_u8 (hlr y hy)) b2.1 b2.2 b3.1 b3.2

theorem imageSets_over : Rows.imageSetsRow.holds Try.pinned (OpenSpec.ofChange Rows.imageSetsSpec) :=
  OpenClaim.holds_of_wide 3 Try.f3 rfl rfl rfl rfl rfl rfl rfl ⟨rfl, rfl, rfl, rfl, rfl⟩ rfl rfl rfl rfl rfl (by kernel_rfl) Try.func3 (by kernel_rfl)
    (of_decide_eq_true (by kernel_rfl)) (by unfold Func.isWrapper; first | (rw [if_pos (by decide +kernel)]; kernel_rfl) | (rw [if_neg (by decide +kernel)]; exact ⟨rfl, rfl⟩))
    (fun os started H enc _ => imageSets_lifted os started H enc)

theorem imageSets_proved : Rows.ImageSetsSaid := imageSets_over
#print axioms imageSets_proved
end Go.Proofs.Ytbpjbhcehgeggaa
