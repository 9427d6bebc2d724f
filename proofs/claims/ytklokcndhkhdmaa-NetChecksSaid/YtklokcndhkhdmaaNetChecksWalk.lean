/- NetChecks returns true: the walk. -/
import Derived.Test.YtklokcndhkhdmaaNetI
namespace Go.Proofs.Ytklokcndhkhdmaa
open Go.RowKit
set_option linter.unusedVariables false
set_option linter.unusedSimpArgs false

section
attribute [-go_sem] Instr.loadAt
attribute [local go_sem] heap_drew blk_past cell_past free_past cellsAt run_loadAt_open
attribute [local go_sem 2000] load26
set_option maxHeartbeats 1000000 in
theorem netChecks_walk (m : Msg) (hm : m.Fits) (w : World) : Calls Try.prog 3 #[.agg m.cells.toArray] w fun e w' => e = .returned (.bool true) ∧ Below w.heap.size w w' := by
  go_enter Try.func3, Try.ntmps3
  go_upto_region 1 with fail
  have hm0 : Mod (fun _ => False) w (w.alloc (Obj.cells m.cells.toArray 26)) := (Mod.refl _ _).alloc _
  have hb := blk_new w (Obj.cells m.cells.toArray 26)
  generalize hw0 : w.alloc (Obj.cells m.cells.toArray 26) = w0 at hm0 hb ⊢
  generalize w.heap.size = b at hb ⊢
  clear hw0
  have hcl := cells_length m hm
  go_cut [2] (fun v2 wx => v2 = .bool true ∧ Mod (fun _ => False) w0 wx)
  case first =>
    go_region_held3 (fun w' => Mod (fun _ => False) w0 w' ∧ w'.heap[b]? = some (.cells m.cells.toArray 26 (0, 0))) ((go_split_ands; refine keepB hb ?_; (repeat first | exact Mod.refl _ _ | assumption | apply Mod.drew | apply Mod.drewN | apply Mod.alloc | (refine Mod.setCell ?_ (Or.inr (by (first | (with_reducible exact Nat.le_refl _) | ((try simp only [World.size_alloc, World.size_setCell, World.size_drew] at *); omega)))) _) | (refine Mod.trans ?_ (by assumption)))))
      ((first
        | (go_at_call 11; refine (check_ok _ m hm).mono ?_; rintro e w1 ⟨rfl, hmw⟩)
        | (go_at_call 12; refine (refcheck_ok _ m hm).mono ?_; rintro e w1 ⟨rfl, hmw⟩)
        | (go_at_call 10; refine (num_ok _ _).mono ?_; rintro e w1 ⟨rfl, rfl⟩)
        | (go_at_call 13; refine (works_ok _).mono ?_; rintro e w1 ⟨rfl, hmw⟩)))
    go_wp2_with fail
    go_split_ands
    go_meet
    case rel => exact ⟨rfl, by assumption⟩
  case rest =>
    obtain ⟨rfl, hmx⟩ := hcut
    go_wp2
    go_ret
    exact ⟨rfl, (hm0.trans hmx).below⟩
end
end Go.Proofs.Ytklokcndhkhdmaa
