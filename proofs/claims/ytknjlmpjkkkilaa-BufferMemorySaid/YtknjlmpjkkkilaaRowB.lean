/- A slice of one element is made. Nothing of the program stands here. -/
import Derived.Test.YtknjlmpjkkkilaaRowA
namespace Go.Proofs.Ytknjlmpjkkkilaa
open Go.RowKit

theorem foldl_sets (xs : List Value) : ∀ (k : Nat) (base : Array Value), k + xs.length ≤ base.size → ∀ j : Nat,
    ((xs.zipIdx k).foldl (fun cs (x : Value × Nat) => cs.setIfInBounds x.2 x.1) base)[j]? = if k ≤ j ∧ j < k + xs.length then xs[j - k]? else base[j]? := by
  induction xs with
  | nil => intro k base _ j; rw [if_neg (by simp)]; rfl
  | cons x xs ih =>
    intro k base hk j
    simp only [List.length_cons] at hk
    rw [List.zipIdx_cons, List.foldl_cons, ih (k + 1) _ (by simp; omega)]
    simp only [List.length_cons]
    rcases Nat.lt_trichotomy j k with h | h | h
    · rw [if_neg (by omega), if_neg (by omega)]
      simp [show k ≠ j by omega]
    · subst h
      rw [if_neg (by omega), if_pos (by omega)]
      simp [Array.getElem?_setIfInBounds]
      omega
    · rw [show j - k = (j - (k + 1)) + 1 by omega, List.getElem?_cons_succ]
      by_cases h2 : j < k + 1 + xs.length
      · rw [if_pos (by omega), if_pos (by omega)]
      · rw [if_neg (by omega), if_neg (by omega)]
        simp [show k ≠ j by omega]
theorem foldl_sets_all (cells base : Array Value) (h : cells.size = base.size) : (cells.zipIdx).foldl (fun cs (x : Value × Nat) => cs.setIfInBounds x.2 x.1) base = cells := by
  rw [← Array.foldl_toList, Array.toList_zipIdx]
  apply Array.ext_getElem?
  intro j
  rw [foldl_sets cells.toList 0 base (by simp [h])]
  by_cases hj : j < cells.size
  · rw [if_pos (by simp [hj])]; simp
  · rw [if_neg (by simp [hj]), Array.getElem?_eq_none (by omega), Array.getElem?_eq_none (by omega)]

theorem run_buildSlice_one {P : Program} (w : World) (t e : TypeId) (i : TypeInfo) (z : Value) (sz : Nat) (ht : P.underlying t = some (.slice e)) (hi : P.info? e = some i) (hz : i.zero = some z) (hsize : i.size = sz) (hzs : z.cells.size = sz)
    (h0 : 0 < sz) (h24 : sz ≤ 16777216) (cells : Array Value) (hc : cells.size = sz) :
    (Instr.buildSlice t 1 #[(0, .agg cells)]).run P w = .ok (.slice (some ⟨w.heap.size, 0, none⟩) 1 1) (w.alloc (.cells cells e)) := by
  have hs : (sizeOf e).run P w = .ok sz w := by simp [sizeOf, typeInfo, hi, hsize]
  have hzv : (zeroValue e).run P w = .ok z w := by simp [zeroValue, typeInfo, hi, hz]
  have hfill : Instr.fill (fun i => some (i * sz, sz)) ((Array.range (1 * sz)).map (z.cells[· % z.cells.size]!)) [(0, .agg cells)] = some cells := by
    have hca : (Value.agg cells).cells = cells := rfl
    simp only [Instr.fill, hca, Nat.zero_mul, Nat.zero_add]
    rw [if_neg (by simp [hc]), foldl_sets_all cells _ (by simp [hc])]
  unfold Instr.buildSlice
  simp only [Sem.run_bind, run_underlying ht, Result.andThen_ok, hs, Nat.one_mul]
  rw [Nat.one_mul] at hfill
  rw [if_neg (by omega), if_neg (by omega)]
  simp only [Sem.run_bind, hzv, Result.andThen_ok, Sem.run_pure, hfill]
  simp [newRow]
end Go.Proofs.Ytknjlmpjkkkilaa
