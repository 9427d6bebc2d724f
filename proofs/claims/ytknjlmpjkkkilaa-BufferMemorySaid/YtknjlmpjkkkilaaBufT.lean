/- A store's value in a row is written. -/
import Derived.Test.YtknjlmpjkkkilaaBufS
namespace Go.Proofs.Ytknjlmpjkkkilaa
open Go.RowKit
set_option linter.unusedVariables false
set_option linter.unusedSimpArgs false

theorem flat_val (y : Int) : ∀ (c : List Store) (q : Nat) (s : Store), c[q]? = some s → (flat c).set (q * 3 + 2) (.int .u32 y) = flat (c.set q ⟨s.addr, s.width, y⟩)
  | [], q, s, h => by simp at h
  | x :: c, 0, s, h => by
    obtain rfl : x = s := by simpa using h
    simp [flat, Store.cells]
  | x :: c, q + 1, s, h => by
    have ih := flat_val y c q s (by simpa using h)
    rw [List.set_cons_succ, flat_cons, flat_cons, ← ih]
    rw [show (q + 1) * 3 = q * 3 + 1 + 1 + 1 by omega]
    simp [Store.cells]
theorem Stores.setVal {w : World} {g cap : Nat} {l : List Store} (h : Stores w (.slice (some ⟨g, 0, none⟩) l.length (cap + 1)) l) {q : Nat} {s : Store} (hs : l[q]? = some s) (y : Int) (h0 : 0 ≤ y) (h1 : y ≤ 4294967295) :
    Stores (w.setCell ⟨g, q * 3 + 2, none⟩ (.int .u32 y)) (.slice (some ⟨g, 0, none⟩) l.length (cap + 1)) (l.set q ⟨s.addr, s.width, y⟩) := by
  obtain ⟨cap', cur, hv, hb, e1, e2, e3, e4⟩ := h.row.block (g := g) rfl
  have hcc : cap = cap' := by simp at hv; omega
  subst hcc
  have hn := heap_setCell_same w g (q * 3 + 2) _ _ (.int .u32 y) hb
  refine ⟨⟨by rw [flat_length], .inr ⟨g, cap, _, by rw [List.length_set], hn, by rw [List.length_set]; exact e1, e2, by simpa using e3, ?_⟩⟩, ?_⟩
  · rw [List.length_set, Array.toList_setIfInBounds, List.take_set, e4, flat_val y l q s hs]
  · intro m hm
    rcases List.mem_or_eq_of_mem_set hm with hm | rfl
    · exact h.fits m hm
    · have := h.fits s (List.mem_of_getElem? hs)
      obtain ⟨s1, s2, s3, s4⟩ := this
      exact ⟨s1, s2, h0, h1⟩
end Go.Proofs.Ytknjlmpjkkkilaa
