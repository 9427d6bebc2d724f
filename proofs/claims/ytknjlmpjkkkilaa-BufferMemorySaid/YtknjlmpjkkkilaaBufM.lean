/- The buffer's Forward, at whatever width; All. -/
import Derived.Test.YtknjlmpjkkkilaaBufI4
import Derived.Test.YtknjlmpjkkkilaaBufI2
import Derived.Test.YtknjlmpjkkkilaaBufI1
import Derived.Test.YtknjlmpjkkkilaaBufL
namespace Go.Proofs.Ytknjlmpjkkkilaa
open Go.RowKit Go.Shelf
set_option linter.unusedVariables false
set_option linter.unusedSimpArgs false

theorem forward_any (w : World) (v : Option Addr) (l : List Store) (a n : Int) (h : BufP w v l) (hg : ∀ s ∈ l, Good s) (ha : 0 ≤ a) (ha' : a ≤ 4294967295) :
    Calls Try.prog 11 #[.pointer v, .int .u32 a, .int .i64 n] w fun e w' => e = .returned (.tuple #[.int .u32 (fwd l a n).1, .int .i64 (fwd l a n).2]) ∧ Mod (fun _ => False) w w' := by
  by_cases hc : wideB n = true ∧ a % n = 0
  · rw [show fwd l a n = seek l.reverse a n from if_pos hc]
    have hw : n = 1 ∨ n = 2 ∨ n = 4 := by
      have := hc.1
      simp only [wideB, Bool.or_eq_true, beq_iff_eq] at this
      omega
    rcases hw with rfl | rfl | rfl
    · exact forward_1 w v l a h hg ha ha' hc.2
    · exact forward_2 w v l a h hg ha ha' hc.2
    · exact forward_4 w v l a h hg ha ha' hc.2
  · rw [show fwd l a n = (0, 0) from if_neg hc]
    refine forward_no w v a n ha ha' ?_
    cases hb : wideB n with
    | false => exact .inl rfl
    | true => exact .inr ⟨rfl, fun h => hc ⟨hb, h⟩⟩
end Go.Proofs.Ytknjlmpjkkkilaa
