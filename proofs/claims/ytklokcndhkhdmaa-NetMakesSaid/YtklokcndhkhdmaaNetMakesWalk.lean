/- NetMakes returns true: the walk. -/
import Derived.Test.YtklokcndhkhdmaaNetU
import Derived.Test.YtklokcndhkhdmaaNetR
import Derived.Test.YtklokcndhkhdmaaNetI
namespace Go.Proofs.Ytklokcndhkhdmaa
open Go.RowKit
set_option linter.unusedVariables false
set_option linter.unusedSimpArgs false

section
attribute [-go_sem] Instr.build
attribute [local go_sem] build_Z
set_option maxHeartbeats 1000000 in
theorem netMakes_bad (most : Int) (w : World) (h : most < 1 ∨ 1024 < most) : Calls Try.prog 8 #[.int .i64 most] w fun e w' => e = .returned (.bool true) ∧ Mod (fun _ => False) w w' := by
  have hmm : Hid (most < 1 ∨ 1024 < most) := Lib.hid h
  clear h
  have hd : (decide (most < 1) || decide (1024 < most)) = true := by have := hmm.out; simp; omega
  go_enter Try.func8, Try.ntmps8
  go_wp2_with fail
  refine (new_bad _ most hmm.out).mono ?_
  rintro e w1 ⟨rfl, rfl⟩
  have hm1 : Mod (fun _ => False) w1 w1 := Mod.refl _ _
  go_wp2_with fail
  refine (deliver_nil _ 0).mono ?_
  rintro e w2 ⟨rfl, hm2⟩
  go_upto_region 4 with (refine wpL_storeNew rfl 26 _ _ rfl rfl zeroMsg.cells.toArray rfl _ _ 20 info26 rfl rfl (cells_one _) ?_)
  have hb := blk_new w2 (Obj.cells zeroMsg.cells.toArray 26)
  have hmA : Mod (fun _ => False) w2 (w2.alloc (Obj.cells zeroMsg.cells.toArray 26)) := (Mod.refl _ _).alloc _
  generalize w2.heap.size = b at *
  generalize w2.alloc (Obj.cells zeroMsg.cells.toArray 26) = w3 at *
  have hm3 := (hm1.trans hm2).trans hmA

  try simp only [Act.put]
  have hq : ∀ w, (binOp .neq 26 (.agg zeroMsg.cells.toArray) (.agg zeroMsg.cells.toArray)).run Try.prog w = .ok (.bool false) w := fun w => by
    rw [neq_msg w _ _ zeroMsg_fits zeroMsg_fits]; simp
  go_wp2_with (first
    | (refine wpL_load rfl 26 _ rfl b rfl _ hb Try.underlying26 rfl 20 info26 rfl ?_)
    | (go_at_call 10; refine (num_ok _ _).mono ?_; rintro e w7 ⟨rfl, rfl⟩)
    | (go_at_call 19; (with_reducible refine (len_nil _).mono ?_); rintro e w7 ⟨rfl, rfl⟩)
    | (go_at_call 17; refine (ready_nil _).mono ?_; rintro e w7 ⟨rfl, rfl⟩)
    | (go_at_call 26; refine (copy_nil _).mono ?_; rintro e w7 ⟨rfl, rfl⟩)
    | (go_at_call 27; (with_reducible refine (same_nn _).mono ?_); rintro e w7 ⟨rfl, rfl⟩)
    | fail
    | (go_at_call 15; refine (send_nil _ zeroMsg).mono ?_; rintro e w4 ⟨rfl, hm4⟩)
    | (go_at_call 25; refine (to_nil _ 0).mono ?_; rintro e w5 ⟨v5, rfl, hms5, hm5⟩; obtain ⟨q5, c5, hv5, -⟩ := hms5.len; subst hv5)
    | (go_at_call 13; refine (works_ok _).mono ?_; rintro e w8 ⟨rfl, hm8⟩))
  all_goals (
    go_ret
    exact ⟨rfl, ((hm3.trans hm4).trans hm5).trans hm8⟩)
set_option maxHeartbeats 1000000 in
theorem netMakes_ok (most : Int) (w : World) (h1 : 1 ≤ most) (h2 : most ≤ 1024) : Calls Try.prog 8 #[.int .i64 most] w fun e w' => e = .returned (.bool true) ∧ Mod (fun _ => False) w w' := by
  go_enter Try.func8, Try.ntmps8
  go_wp2_with fail
  refine (new_ok _ most h1 h2).mono ?_
  rintro e w1 ⟨p, rfl, hn, -, hm1⟩
  go_wp2_with fail
  refine (deliver_nil _ 0).mono ?_
  rintro e w2 ⟨rfl, hm2⟩
  go_upto_region 4 with (refine wpL_storeNew rfl 26 _ _ rfl rfl zeroMsg.cells.toArray rfl _ _ 20 info26 rfl rfl (cells_one _) ?_)
  have hb := blk_new w2 (Obj.cells zeroMsg.cells.toArray 26)
  have hmA : Mod (fun _ => False) w2 (w2.alloc (Obj.cells zeroMsg.cells.toArray 26)) := (Mod.refl _ _).alloc _
  generalize w2.heap.size = b at *
  generalize w2.alloc (Obj.cells zeroMsg.cells.toArray 26) = w3 at *
  have hm3 := (hm1.trans hm2).trans hmA
  replace hn := (hn.keep hm2 (fun x => x) (fun _ _ x => x)).keep hmA (fun x => x) (fun _ _ x => x)
  try simp only [Act.put]
  have hq : ∀ w, (binOp .neq 26 (.agg zeroMsg.cells.toArray) (.agg zeroMsg.cells.toArray)).run Try.prog w = .ok (.bool false) w := fun w => by
    rw [neq_msg w _ _ zeroMsg_fits zeroMsg_fits]; simp
  go_wp2_with (first
    | (refine wpL_load rfl 26 _ rfl b rfl _ hb Try.underlying26 rfl 20 info26 rfl ?_)
    | (go_at_call 10; refine (num_ok _ _).mono ?_; rintro e w7 ⟨rfl, rfl⟩)
    | (go_at_call 19; (with_reducible refine (len_nil _).mono ?_); rintro e w7 ⟨rfl, rfl⟩)
    | (go_at_call 17; refine (ready_nil _).mono ?_; rintro e w7 ⟨rfl, rfl⟩)
    | (go_at_call 26; refine (copy_nil _).mono ?_; rintro e w7 ⟨rfl, rfl⟩)
    | (go_at_call 27; (with_reducible refine (same_nn _).mono ?_); rintro e w7 ⟨rfl, rfl⟩)
    | (go_at_call 19; (with_reducible refine (len_ok _ p none [] most hn).mono ?_); rintro e w7 ⟨rfl, rfl⟩)
    | (go_at_call 27; (with_reducible refine (same_pn _ p none [] most hn).mono ?_); rintro e w7 ⟨rfl, rfl⟩)
    | (go_at_call 27; (with_reducible refine (same_np _ p none [] most hn).mono ?_); rintro e w7 ⟨rfl, rfl⟩)
    | (go_at_call 15; refine (send_nil _ zeroMsg).mono ?_; rintro e w4 ⟨rfl, hm4⟩; have hn := hn.keep hm4 (fun x => x) (fun _ _ x => x))
    | (go_at_call 25; refine (to_nil _ 0).mono ?_; rintro e w5 ⟨v5, rfl, hms5, hm5⟩; obtain ⟨q5, c5, hv5, -⟩ := hms5.len; subst hv5; have hn := hn.keep hm5 (fun x => x) (fun _ _ x => x))
    | (go_at_call 13; refine (works_ok _).mono ?_; rintro e w8 ⟨rfl, hm8⟩))
  go_ret
  exact ⟨rfl, ((hm3.trans hm4).trans hm5).trans hm8⟩
end
theorem netMakes_walk (most : Int) (w : World) : Calls Try.prog 8 #[.int .i64 most] w fun e w' => e = .returned (.bool true) ∧ Below w.heap.size w w' := by
  by_cases h : 1 ≤ most ∧ most ≤ 1024
  · exact (netMakes_ok most w h.1 h.2).mono fun e w' hh => ⟨hh.1, hh.2.below⟩
  · exact (netMakes_bad most w (by omega)).mono fun e w' hh => ⟨hh.1, hh.2.below⟩
end Go.Proofs.Ytklokcndhkhdmaa
