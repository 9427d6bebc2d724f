/- The law's is: a buffer is as a list says. -/
import Derived.Test.YtknjlmpjkkkilaaBufP
namespace Go.Proofs.Ytknjlmpjkkkilaa
open Go.RowKit Go.Shelf
set_option linter.unusedVariables false
set_option linter.unusedSimpArgs false

section
attribute [local go_sem] heap_drew blk_past cell_past free_past
set_option maxHeartbeats 1000000 in
theorem is_ok (w : World) (p : Nat) (v : Value) (l : List Store) (h : Buf w p l) (hv : Seen w v l) (hg : ∀ s ∈ l, Good s) : Calls Try.prog 17 #[.pointer (some ⟨p, 0, none⟩), v] w fun e w' => e = .returned (.bool true) ∧ Mod (fun _ => False) w w' := by
  have h4 := h.four
  obtain ⟨q, c, rfl, hc⟩ := hv.len
  obtain ⟨s, hs⟩ : ∃ s, headOf l = s := ⟨_, rfl⟩
  obtain ⟨be, hbe⟩ : ∃ be, some1 l = be := ⟨_, rfl⟩
  have heq := fun w => eql_store w s s
  simp only [Store.cells, decide_true] at heq
  go_enter Try.func17, Try.ntmps17
  go_wp2_with fail
  refine (head_any _ _ l (.inr ⟨p, rfl, h⟩)).mono ?_
  rintro e w1 ⟨rfl, hm1⟩
  rw [hs, hbe]
  simp only [Store.cells]
  go_upto_region 2 with fail
  have hb5 := blk_new w1 (Obj.cells #[Value.int IntKind.u32 s.addr, Value.int IntKind.i64 s.width, Value.int IntKind.u32 s.value] 24)
  have hmA : Mod (fun _ => False) w (w1.alloc (Obj.cells #[Value.int IntKind.u32 s.addr, Value.int IntKind.i64 s.width, Value.int IntKind.u32 s.value] 24)) := hm1.alloc _
  have hs5 : w1.heap.size < (w1.alloc (Obj.cells #[Value.int IntKind.u32 s.addr, Value.int IntKind.i64 s.width, Value.int IntKind.u32 s.value] 24)).heap.size := by simp
  generalize w1.heap.size = b5 at *
  generalize w1.alloc (Obj.cells #[Value.int IntKind.u32 s.addr, Value.int IntKind.i64 s.width, Value.int IntKind.u32 s.value] 24) = w2 at *
  go_wp2_with fail
  refine (lawhead_ok _ _ l (hv.keep0 hmA)).mono ?_
  rintro e w3 ⟨rfl, hm3⟩
  rw [hs, hbe]
  simp only [Store.cells]
  go_upto_region 3 with fail
  replace hb5 := blk_old w3 (Obj.cells #[Value.int IntKind.u32 s.addr, Value.int IntKind.i64 s.width, Value.int IntKind.u32 s.value] 24) (hm3.at hb5 (fun x => x))
  have hb7 := blk_new w3 (Obj.cells #[Value.int IntKind.u32 s.addr, Value.int IntKind.i64 s.width, Value.int IntKind.u32 s.value] 24)
  have hmB : Mod (fun _ => False) w (w3.alloc (Obj.cells #[Value.int IntKind.u32 s.addr, Value.int IntKind.i64 s.width, Value.int IntKind.u32 s.value] 24)) := (hmA.trans hm3).alloc _
  generalize w3.heap.size = b7 at *
  generalize w3.alloc (Obj.cells #[Value.int IntKind.u32 s.addr, Value.int IntKind.i64 s.width, Value.int IntKind.u32 s.value] 24) = w4 at *
  have c50 : w4.cell? ⟨b5, 0, none⟩ = some (.int .u32 s.addr) := cell_of w4 hb5 0
  have c51 : w4.cell? ⟨b5, 1, none⟩ = some (.int .i64 s.width) := cell_of w4 hb5 1
  have c52 : w4.cell? ⟨b5, 2, none⟩ = some (.int .u32 s.value) := cell_of w4 hb5 2
  have c70 : w4.cell? ⟨b7, 0, none⟩ = some (.int .u32 s.addr) := cell_of w4 hb7 0
  have c71 : w4.cell? ⟨b7, 1, none⟩ = some (.int .i64 s.width) := cell_of w4 hb7 1
  have c72 : w4.cell? ⟨b7, 2, none⟩ = some (.int .u32 s.value) := cell_of w4 hb7 2
  have hbb : (be == be) = true := by simp
  go_wp2_with fail
  refine (all_ok _ _ l (.inr ⟨p, rfl, h.keep hmB (fun x => x)⟩) hg).mono ?_
  rintro e w5 ⟨va, rfl, hsa, hm5, -⟩
  go_wp2_with fail
  refine (refsame_ok _ _ _ l l hsa.seen (hv.keep0 (hmB.trans hm5)) (by omega) (by omega)).mono ?_
  rintro e w6 ⟨rfl, hm6⟩
  rw [decide_eq_true rfl]
  go_wp2_with fail
  refine (len_ok _ p l (h.keep ((hmB.trans hm5).trans hm6) (fun x => x))).mono ?_
  rintro e w7 ⟨rfl, rfl⟩
  have hll : ((l.length : Int) == (l.length : Int)) = true := by simp
  go_wp2
  go_ret
  exact ⟨rfl, (hmB.trans hm5).trans hm6⟩
end
end Go.Proofs.Ytknjlmpjkkkilaa
