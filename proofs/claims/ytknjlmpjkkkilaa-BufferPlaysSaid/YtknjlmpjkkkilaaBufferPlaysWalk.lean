/- BufferPlays returns true: the walk. -/
import Derived.Test.YtknjlmpjkkkilaaBufS
namespace Go.Proofs.Ytknjlmpjkkkilaa
open Go.RowKit Go.Shelf
set_option linter.unusedVariables false
set_option linter.unusedSimpArgs false

section
attribute [local go_sem] heap_drew blk_past cell_past free_past
set_option maxRecDepth 100000 in
set_option maxHeartbeats 4000000 in
theorem bufferPlays_walk (a : Option Addr) (c : Nat) (l : List BAct) (w : World) (h : BActs w a l) : Calls Try.prog 7 #[.slice a l.length c] w fun e w' => e = .returned (.bool true) ∧ Below w.heap.size w w' := by
  by_cases hl : 100 < l.length
  · have hd : ((100 : Int) < (l.length : Int)) := by omega
    go_enter Try.func7, Try.ntmps7
    go_wp2_with fail
    refine (works_ok _).mono ?_
    rintro e w1 ⟨rfl, hm⟩
    go_wp2
    go_ret
    exact ⟨rfl, hm.below⟩
  · have hd : ¬ ((100 : Int) < (l.length : Int)) := by omega
    have hpl := played_ok w a c l h (by omega)
    obtain ⟨lw, hlw⟩ : ∃ lw, playedL l = lw := ⟨_, rfl⟩
    rw [hlw] at hpl
    go_enter Try.func7, Try.ntmps7
    go_wp2_with fail
    refine hpl.mono ?_
    rintro e w1 ⟨p, v, rfl, hbuf, hseen, hgood, hp, hm⟩
    go_wp2_with fail
    refine (head_any _ none [] (.inl ⟨rfl, rfl⟩)).mono ?_
    rintro e w2 ⟨rfl, hm2⟩
    rw [show headOf [] = ⟨0, 0, 0⟩ from rfl, show some1 [] = false from rfl]
    simp only [Store.cells]
    go_upto_region 6 with fail
    have hmA : Mod (fun _ => False) w1 (w2.alloc (Obj.cells #[Value.int IntKind.u32 0, Value.int IntKind.i64 0, Value.int IntKind.u32 0] 24)) := hm2.alloc _
    generalize w2.heap.size = b7 at *
    generalize w2.alloc (Obj.cells #[Value.int IntKind.u32 0, Value.int IntKind.i64 0, Value.int IntKind.u32 0] 24) = w3 at *
    go_wp2_with fail
    refine (pop_nil _ none (.inl ⟨rfl, rfl⟩)).mono ?_
    rintro e w4 ⟨rfl, hm4⟩
    rw [show headOf [] = ⟨0, 0, 0⟩ from rfl, show some1 [] = false from rfl]
    simp only [Store.cells]
    go_upto_region 7 with fail
    have hmB : Mod (fun _ => False) w1 (w4.alloc (Obj.cells #[Value.int IntKind.u32 0, Value.int IntKind.i64 0, Value.int IntKind.u32 0] 24)) := (hmA.trans hm4).alloc _
    generalize w4.heap.size = b9 at *
    generalize w4.alloc (Obj.cells #[Value.int IntKind.u32 0, Value.int IntKind.i64 0, Value.int IntKind.u32 0] 24) = w5 at *
    go_wp2_with fail
    refine (forward_any _ none [] 0 4 (.inl ⟨rfl, rfl⟩) (by simp) (by omega) (by omega)).mono ?_
    rintro e w6 ⟨rfl, hm6⟩
    rw [show fwd [] 0 4 = (0, 0) from by decide]
    replace hmB := hmB.trans hm6
    clear hm2 hmA hm4 hm6
    go_wp2_with fail
    refine (push_nil _ 0 1 0).mono ?_
    rintro e w7 ⟨rfl, hm7⟩
    replace hmB := hmB.trans hm7
    clear hm7
    go_wp2_with fail
    refine (num_ok _ _).mono ?_
    rintro e w8 ⟨rfl, rfl⟩
    go_wp2_with fail
    refine (len_nil _).mono ?_
    rintro e w9 ⟨rfl, rfl⟩
    go_wp2_with fail
    refine (all_ok _ none [] (.inl ⟨rfl, rfl⟩) (by simp)).mono ?_
    rintro e w10 ⟨va, rfl, hsa, hm10, -⟩
    obtain ⟨qa, ca, rfl, -⟩ := hsa.len
    replace hmB := hmB.trans hm10
    clear hm10
    simp only [List.length_nil]
    go_wp2_with fail
    refine (copy_nil _).mono ?_
    rintro e w11 ⟨rfl, rfl⟩
    go_wp2_with fail
    refine (same_nn _).mono ?_
    rintro e w12 ⟨rfl, rfl⟩
    go_wp2_with fail
    refine (same_np _ p).mono ?_
    rintro e w13 ⟨rfl, rfl⟩
    go_wp2_with fail
    refine (same_pn _ p).mono ?_
    rintro e w14 ⟨rfl, rfl⟩
    go_wp2_with fail
    refine (is_ok _ p _ _ (hbuf.keep hmB (fun x => x)) (hseen.keep0 hmB) hgood).mono ?_
    rintro e w15 ⟨rfl, hm15⟩
    go_wp2_with fail
    refine (works_ok _).mono ?_
    rintro e w16 ⟨rfl, hm16⟩
    go_wp2
    go_ret
    exact ⟨rfl, (((hm.trans hmB).trans hm15).trans hm16).below⟩
end
end Go.Proofs.Ytknjlmpjkkkilaa
