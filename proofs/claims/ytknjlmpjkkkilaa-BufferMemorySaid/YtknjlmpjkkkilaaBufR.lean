/- The law's works: a buffer of its own. -/
import Derived.Test.YtknjlmpjkkkilaaBufQ
namespace Go.Proofs.Ytknjlmpjkkkilaa
open Go.RowKit Go.Shelf
set_option linter.unusedVariables false
set_option linter.unusedSimpArgs false

def ws1 : Store := ⟨8, 4, 305419896⟩
def ws2 : Store := ⟨9, 1, 5⟩
theorem ws1_fits : ws1.Fits := ⟨by decide, by decide, by decide, by decide⟩
theorem ws2_fits : ws2.Fits := ⟨by decide, by decide, by decide, by decide⟩
theorem wp1 : pushNum [] ws1 = 0 ∧ pushList [] ws1 = [ws1] := ⟨by decide, rfl⟩
theorem wp2 : pushNum [ws1] ws2 = 0 ∧ pushList [ws1] ws2 = [ws1, ws2] := ⟨by decide, rfl⟩
theorem wf1 : fwd [ws1, ws2] 10 2 = (4660, 1) := by decide
theorem wf2 : fwd [ws1, ws2] 8 4 = (0, 2) := by decide
theorem wf3 : fwd [ws1, ws2] 12 1 = (0, 0) := by decide
theorem wgood : ∀ s ∈ [ws1, ws2], Good s := by
  intro s hs
  simp only [List.mem_cons, List.not_mem_nil, or_false] at hs
  rcases hs with rfl | rfl
  · exact ⟨ws1_fits, by decide⟩
  · exact ⟨ws2_fits, by decide⟩
theorem Mod.own {w a b : World} {p : Nat} (h : Mod (fun _ => False) w a) (k : Mod (fun k => k = p) a b) (hp : w.heap.size ≤ p) : Mod (fun _ => False) w b := h.trans' k (by rintro i hi rfl; omega)

section
attribute [local go_sem] heap_drew blk_past cell_past free_past
set_option maxHeartbeats 2000000 in
theorem works_ok (w : World) : Calls Try.prog 15 #[] w fun e w' => e = .returned (.bool true) ∧ Mod (fun _ => False) w w' := by
  go_enter Try.func15, Try.ntmps15
  go_wp2_with fail
  refine (new_ok _).mono ?_
  rintro e w1 ⟨p, rfl, hb, hp, hm⟩
  go_wp2_with fail
  refine (push_ok _ p [] hb ws1 ws1_fits).mono ?_
  rintro e w2 ⟨rfl, hb2, hm2⟩
  rw [wp1.1]
  rw [wp1.2] at hb2
  replace hm := hm.own hm2 hp
  clear hm2 hb
  go_wp2_with fail
  refine (push_ok _ p [ws1] hb2 ws2 ws2_fits).mono ?_
  rintro e w3 ⟨rfl, hb3, hm3⟩
  rw [wp2.1]
  rw [wp2.2] at hb3
  replace hm := hm.own hm3 hp
  clear hm3 hb2
  go_wp2_with fail
  refine (forward_any _ _ [ws1, ws2] 10 2 (.inr ⟨p, rfl, hb3⟩) wgood (by omega) (by omega)).mono ?_
  rintro e w4 ⟨rfl, hm4⟩
  rw [wf1]
  replace hm := hm.trans hm4
  replace hb3 := hb3.keep hm4 (fun x => x)
  clear hm4
  go_wp2_with fail
  refine (forward_any _ _ [ws1, ws2] 8 4 (.inr ⟨p, rfl, hb3⟩) wgood (by omega) (by omega)).mono ?_
  rintro e w5 ⟨rfl, hm4⟩
  rw [wf2]
  replace hm := hm.trans hm4
  replace hb3 := hb3.keep hm4 (fun x => x)
  clear hm4
  go_wp2_with fail
  refine (forward_any _ _ [ws1, ws2] 12 1 (.inr ⟨p, rfl, hb3⟩) wgood (by omega) (by omega)).mono ?_
  rintro e w6 ⟨rfl, hm4⟩
  rw [wf3]
  replace hm := hm.trans hm4
  replace hb3 := hb3.keep hm4 (fun x => x)
  clear hm4
  go_wp2_with fail
  refine (pop_ok _ p [ws1, ws2] hb3).mono ?_
  rintro e w7 ⟨rfl, hb4, hm4⟩
  rw [show headOf [ws1, ws2] = ws1 from rfl, show some1 [ws1, ws2] = true from rfl]
  replace hm := hm.own hm4 hp
  clear hm4 hb3
  have hb4 : Buf w7 p [ws2] := hb4
  simp only [Store.cells, ws1]
  go_upto_region 8 with fail
  have hmB : Mod (fun _ => False) w (w7.alloc (Obj.cells #[Value.int IntKind.u32 8, Value.int IntKind.i64 4, Value.int IntKind.u32 305419896] 24)) := hm.alloc _
  have hbB := blk_new w7 (Obj.cells #[Value.int IntKind.u32 8, Value.int IntKind.i64 4, Value.int IntKind.u32 305419896] 24)
  replace hb4 := hb4.keep ((Mod.refl (fun _ => False) w7).alloc (Obj.cells #[Value.int IntKind.u32 8, Value.int IntKind.i64 4, Value.int IntKind.u32 305419896] 24)) (fun x => x)
  generalize w7.heap.size = bB at *
  generalize w7.alloc (Obj.cells #[Value.int IntKind.u32 8, Value.int IntKind.i64 4, Value.int IntKind.u32 305419896] 24) = w8 at *
  have c1 : w8.cell? ⟨bB, 1, none⟩ = some (.int .i64 4) := cell_of w8 hbB 1
  go_wp2_with (first
    | (go_at_call 14; refine (num_ok _ _).mono ?_; rintro e wn ⟨rfl, rfl⟩)
    | (go_at_call 21; refine (len_ok _ p [ws2] (by assumption)).mono ?_; rintro e wn ⟨rfl, rfl⟩))
  go_ret
  exact ⟨rfl, hmB⟩
end
end Go.Proofs.Ytknjlmpjkkkilaa
