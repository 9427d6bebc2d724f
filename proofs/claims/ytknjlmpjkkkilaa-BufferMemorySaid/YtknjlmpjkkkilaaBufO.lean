/- The buffer's Copy. -/
import Derived.Test.YtknjlmpjkkkilaaBufN
namespace Go.Proofs.Ytknjlmpjkkkilaa
open Go.RowKit Go.Shelf
set_option linter.unusedVariables false
set_option linter.unusedSimpArgs false

theorem copy_nil (w : World) : Calls Try.prog 22 #[.pointer none] w fun e w' => e = .returned (.pointer none) ∧ w' = w := by
  go_enter Try.func22, Try.ntmps22
  go_wp2
  go_ret
  exact ⟨rfl, rfl⟩
theorem info63 : (Try.prog.info? 63).map (·.size) = some 14 := by kernel_rfl
theorem ringCells_length {r : List Store} (f n : Nat) (h4 : r.length = 4) : (ringCells r f n).length = 14 := by
  obtain ⟨a, b, c, d, rfl⟩ := ring4 h4
  rfl
theorem ringCells_one {r : List Store} (f n : Nat) : (ringCells r f n).toArray.all (·.oneCell') = true := by
  refine all_oneCell_toArray (fun v hv => ?_)
  rcases List.mem_append.1 hv with hv | hv
  · obtain ⟨s, _, hs⟩ := List.mem_flatMap.1 hv
    exact s.cells_one v hs
  · simp only [List.mem_cons, List.not_mem_nil, or_false] at hv
    rcases hv with rfl | rfl <;> rfl
section
attribute [-go_sem] Instr.loadAt Instr.storeAt
attribute [local go_sem 500] run_loadAt_open run_storeAt_open
attribute [local go_sem] heap_drew blk_past cell_past free_past
theorem copy_ok (w : World) (p : Nat) (l : List Store) (h : Buf w p l) : Calls Try.prog 22 #[.pointer (some ⟨p, 0, none⟩)] w fun e w' => ∃ p', e = .returned (.pointer (some ⟨p', 0, none⟩)) ∧ Buf w' p' l ∧ w.heap.size ≤ p' ∧ Mod (fun _ => False) w w' := by
  obtain ⟨r, f, h1, h2, h3, h4⟩ := h.ex
  have hl14 := ringCells_length f l.length h2
  have hone := ringCells_one (r := r) f l.length
  obtain ⟨cs, hcs⟩ : ∃ cs, cs = (ringCells r f l.length).toArray := ⟨_, rfl⟩
  have hsz : cs.size = 14 := by rw [hcs]; simpa using hl14
  rw [← hcs] at h1 hone
  have hca : cellsAt w p = cs := by unfold cellsAt; rw [h1]
  have hl : (Instr.loadAt 63 (.pointer (some ⟨p, 0, none⟩))).run Try.prog w = .ok (.agg cs) w := by
    have := load_whole (P := Try.prog) 63 _ 14 Try.underlying63 rfl info63 p w (by omega) (by rw [hca]; exact hsz)
    rw [hca] at this
    exact this
  have hst : ∀ c, c.size = 14 → (Instr.storeAt 63 (.pointer (some ⟨w.heap.size, 0, none⟩)) (.agg cs)).run Try.prog (w.alloc (.cells c 63)) = .ok () (w.alloc (.cells cs 63)) :=
    fun c hc => run_storeAt_new w _ c cs (by rw [info63, hsz]) (by rw [hc, hsz]) hone
  clear hl14 hsz hca
  replace hcs := Lib.hid hcs
  go_enter Try.func22, Try.ntmps22
  go_wp2
  go_ret
  exact ⟨_, rfl, ⟨⟨r, f, by rw [← hcs.out]; exact blk_new _ _, h2, h3, h4⟩, h.four, h.fits⟩, Nat.le_refl _, (Mod.refl _ _).alloc _⟩
end
end Go.Proofs.Ytknjlmpjkkkilaa
