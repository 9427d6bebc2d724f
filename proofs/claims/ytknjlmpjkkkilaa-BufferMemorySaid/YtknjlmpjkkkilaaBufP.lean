/- The buffers' Same; the law's head. -/
import Derived.Test.YtknjlmpjkkkilaaBufO
import Derived.Test.YtknjlmpjkkkilaaBufJ
namespace Go.Proofs.Ytknjlmpjkkkilaa
open Go.RowKit Go.Shelf
set_option linter.unusedVariables false
set_option linter.unusedSimpArgs false

theorem same_nn (w : World) : Calls Try.prog 23 #[.pointer none, .pointer none] w fun e w' => e = .returned (.bool true) ∧ w' = w := by
  go_enter Try.func23, Try.ntmps23
  go_wp2
  go_ret
  exact ⟨rfl, rfl⟩
theorem same_pn (w : World) (p : Nat) : Calls Try.prog 23 #[.pointer (some ⟨p, 0, none⟩), .pointer none] w fun e w' => e = .returned (.bool false) ∧ w' = w := by
  go_enter Try.func23, Try.ntmps23
  go_wp2
  go_ret
  exact ⟨rfl, rfl⟩
theorem same_np (w : World) (p : Nat) : Calls Try.prog 23 #[.pointer none, .pointer (some ⟨p, 0, none⟩)] w fun e w' => e = .returned (.bool false) ∧ w' = w := by
  go_enter Try.func23, Try.ntmps23
  go_wp2
  go_ret
  exact ⟨rfl, rfl⟩
theorem same_ok (w : World) (p p' : Nat) (l l' : List Store) (h : Buf w p l) (h' : Buf w p' l') (hg : ∀ s ∈ l, Good s) (hg' : ∀ s ∈ l', Good s) :
    Calls Try.prog 23 #[.pointer (some ⟨p, 0, none⟩), .pointer (some ⟨p', 0, none⟩)] w fun e w' => e = .returned (.bool (decide (l = l'))) ∧ Mod (fun _ => False) w w' := by
  have h4 := h.four
  have h4' := h'.four
  go_enter Try.func23, Try.ntmps23
  go_wp2_with fail
  refine (all_ok _ _ l (.inr ⟨p, rfl, h⟩) hg).mono ?_
  rintro e w1 ⟨v1, rfl, hs1, hm1, ho1⟩
  go_wp2_with fail
  refine (all_ok _ _ l' (.inr ⟨p', rfl, h'.keep hm1 (fun x => x)⟩) hg').mono ?_
  rintro e w2 ⟨v2, rfl, hs2, hm2, ho2⟩
  go_wp2_with fail
  refine (equal_ok _ _ _ l l' (hs1.keep0 hm2).seen hs2.seen (by omega) (by omega)).mono ?_
  rintro e w3 ⟨rfl, hm3⟩
  go_wp2
  go_ret
  exact ⟨rfl, (hm1.trans hm2).trans hm3⟩
section
attribute [local go_sem] heap_drew blk_past cell_past free_past
theorem lawhead_ok (w : World) (v : Value) (l : List Store) (h : Seen w v l) : Calls Try.prog 34 #[v] w fun e w' => e = .returned (.tuple #[.agg (headOf l).cells.toArray, .bool (some1 l)]) ∧ Mod (fun _ => False) w w' := by
  obtain ⟨q, c, rfl, hc⟩ := h.len
  go_enter Try.func34, Try.ntmps34
  go_upto_region 1 with fail
  have hm0 : Mod (fun _ => False) w (w.alloc (Obj.cells #[Value.int IntKind.u32 0, Value.int IntKind.i64 0, Value.int IntKind.u32 0] 24)) := (Mod.refl _ _).alloc _
  have hb := blk_new w (Obj.cells #[Value.int IntKind.u32 0, Value.int IntKind.i64 0, Value.int IntKind.u32 0] 24)
  obtain ⟨R, hR⟩ : ∃ R, R = w.heap.size := ⟨_, rfl⟩
  have hwR : w.heap.size ≤ R := by omega
  rw [← hR] at hb ⊢
  clear hR
  generalize w.alloc (Obj.cells #[Value.int IntKind.u32 0, Value.int IntKind.i64 0, Value.int IntKind.u32 0] 24) = w0 at *
  have r0 : w0.cell? ⟨R, 0, none⟩ = some (.int .u32 0) := cell_of w0 hb 0
  have r1 : w0.cell? ⟨R, 1, none⟩ = some (.int .i64 0) := cell_of w0 hb 1
  have r2 : w0.cell? ⟨R, 2, none⟩ = some (.int .u32 0) := cell_of w0 hb 2
  have f0 := free_of w0 hb 0
  have f1 := free_of w0 hb 1
  have f2 := free_of w0 hb 2
  replace h := h.keep0 hm0
  cases l with
  | nil =>
    go_wp2
    exact bodyPost_ret (head_res (s := zeroStore) rfl rfl rfl (set3 (o := 0) hb)) rfl ⟨rfl, hm0.trans' (Mod.set3 (o := 0) (S := fun k => k = R) rfl) (by rintro i hi rfl; omega)⟩
  | cons s l =>
    obtain ⟨g, o, c', m, hv, hm, hmf, hmr, hcc⟩ := h.at (i := 0) (by simp)
    simp only [Value.slice.injEq, true_and] at hv
    obtain ⟨rfl, rfl⟩ := hv
    obtain rfl : s = m := by simpa using hm
    have c0 : w0.cell? ⟨g, o, none⟩ = some (.int .u32 s.addr) := by have := hmr 0 _ rfl; simpa using this
    have c1 : w0.cell? ⟨g, o + 1, none⟩ = some (.int .i64 s.width) := by have := hmr 1 _ rfl; simpa using this
    have c2 : w0.cell? ⟨g, o + 2, none⟩ = some (.int .u32 s.value) := by have := hmr 2 _ rfl; simpa using this
    have hl0 : (((s :: l).length : Int) == 0) = false := by simp <;> omega
    have hl1 : (0 : Int) < ((s :: l).length : Int) := by simp <;> omega
    have hs1 : some1 (s :: l) = true := rfl
    have hs2 : headOf (s :: l) = s := rfl
    generalize (s :: l).length = n at *
    clear hm hmr hmf h hcc hc hs1 hs2
    go_wp2
    exact bodyPost_ret (head_res (s := s) rfl rfl rfl (set3 (w := w0) (o := 0) hb)) rfl ⟨rfl, hm0.trans' (Mod.set3 (w := w0) (o := 0) (S := fun k => k = R) rfl) (by rintro i hi rfl; omega)⟩
end
end Go.Proofs.Ytknjlmpjkkkilaa
