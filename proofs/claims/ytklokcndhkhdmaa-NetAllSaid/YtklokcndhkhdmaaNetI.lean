/- works: two messages, the second of which comes first. -/
import Derived.Test.YtklokcndhkhdmaaNetF
import Derived.Test.YtklokcndhkhdmaaNetH
namespace Go.Proofs.Ytklokcndhkhdmaa
open Go.RowKit
set_option linter.unusedVariables false
set_option linter.unusedSimpArgs false

def msgA : Msg := ⟨1, 0, 4, 3, zero16⟩
def msgB : Msg := ⟨2, 1, 4, 3, zero16⟩
theorem msgA_fits : msgA.Fits := ⟨rfl, zeroMsg_fits.bytes⟩
theorem msgB_fits : msgB.Fits := ⟨rfl, zeroMsg_fits.bytes⟩
theorem build_A (w : World) : (Instr.build 26 #[(0, .int .i64 1), (1, .int .i64 0), (2, .int .i64 4), (3, .int .u32 3)]).run Try.prog w = .ok (.agg msgA.cells.toArray) w := run_build w _ _ _ (by kernel_rfl)
theorem build_B (w : World) : (Instr.build 26 #[(0, .int .i64 2), (1, .int .i64 1), (2, .int .i64 4), (3, .int .u32 3)]).run Try.prog w = .ok (.agg msgB.cells.toArray) w := run_build w _ _ _ (by kernel_rfl)
theorem build_Z (w : World) : (Instr.build 26 #[]).run Try.prog w = .ok (.agg zeroMsg.cells.toArray) w := run_build w _ _ _ (by kernel_rfl)
section
attribute [-go_sem] Instr.build
attribute [local go_sem] build_A build_B
set_option maxHeartbeats 1000000 in
theorem works_ok (w : World) : Calls Try.prog 13 #[] w fun e w' => e = .returned (.bool true) ∧ Mod (fun _ => False) w w' := by
  go_enter Try.func13, Try.ntmps13
  go_wp2_with fail
  refine (new_ok _ 2 (by omega) (by omega)).mono ?_
  rintro e w1 ⟨p, rfl, hn, hp, hm⟩
  go_upto_region 3 with (refine wpL_storeNew rfl 26 _ _ rfl rfl msgA.cells.toArray rfl _ _ 20 info26 rfl rfl (cells_one msgA) ?_)
  have hA := blk_new w1 (Obj.cells msgA.cells.toArray 26)
  have hmA : Mod (fun _ => False) w1 (w1.alloc (Obj.cells msgA.cells.toArray 26)) := (Mod.refl _ _).alloc _
  have hAs : w1.heap.size < (w1.alloc (Obj.cells msgA.cells.toArray 26)).heap.size := by simp
  have hAw : w.heap.size ≤ w1.heap.size := hm.size
  have hpA : p < w1.heap.size := hn.lt.1
  generalize w1.heap.size = A at hA hAs hAw hpA ⊢
  generalize w1.alloc (Obj.cells msgA.cells.toArray 26) = w2 at hA hmA hAs ⊢
  replace hn := hn.keep hmA (fun x => x) (fun _ _ x => x)
  replace hm := hm.trans hmA
  clear hmA
  simp only [Act.put]
  go_upto_region 4 with (refine wpL_storeNew rfl 26 _ _ rfl rfl msgB.cells.toArray rfl _ _ 20 info26 rfl rfl (cells_one msgB) ?_)
  have hB := blk_new w2 (Obj.cells msgB.cells.toArray 26)
  have hmB : Mod (fun _ => False) w2 (w2.alloc (Obj.cells msgB.cells.toArray 26)) := (Mod.refl _ _).alloc _
  generalize w2.heap.size = B at hB hAs ⊢
  generalize w2.alloc (Obj.cells msgB.cells.toArray 26) = w3 at hB hmB ⊢
  replace hn := hn.keep hmB (fun x => x) (fun _ _ x => x)
  replace hA := hmB.at hA (fun x => x)
  replace hm := hm.trans hmB
  clear hmB
  simp only [Act.put]
  have hBw : w.heap.size ≤ B := by omega
  obtain ⟨N, hN⟩ : ∃ N, N = w3.heap.size := ⟨_, rfl⟩
  have hpN : p < N := by rw [hN]; exact hn.lt.1
  have hAN : A < N := by rw [hN]; exact lt_of_block hA
  have hBN : B < N := by rw [hN]; exact lt_of_block hB
  have hwN : w.heap.size ≤ N := by omega
  replace hN : N ≤ w3.heap.size := by omega
  have ho : ∀ g, (none : Option Nat) = some g → N ≤ g := by simp
  go_wp2_with (refine wpL_load rfl 26 _ rfl A rfl _ hA Try.underlying26 rfl 20 info26 rfl ?_)
  refine (send_ok _ p none [] 2 hn msgA msgA_fits).mono ?_
  rintro e w4 ⟨rfl, ow4, hn1, hm1, ho1⟩
  rw [show sendNum [] 2 msgA = 0 from by decide]
  rw [show sendList [] 2 msgA = [msgA] from by decide] at hn1
  replace hA := hm1.at hA (by rintro (h | h); omega; have := ho _ h; omega)
  replace hB := hm1.at hB (by rintro (h | h); omega; have := ho _ h; omega)
  replace hm := hm.trans' hm1 (by rintro i hi (rfl | h); omega; have := ho _ h; omega)
  replace ho : ∀ g, ow4 = some g → N ≤ g := fun g hg => by rcases ho1 g hg with h | h; exact ho g h; have := hN; omega
  replace hN : N ≤ w4.heap.size := Nat.le_trans hN hm1.size
  replace hn := hn1
  clear hm1 hn1 ho1
  go_wp2_with (refine wpL_load rfl 26 _ rfl B rfl _ hB Try.underlying26 rfl 20 info26 rfl ?_)
  refine (send_ok _ p ow4 [msgA] 2 hn msgB msgB_fits).mono ?_
  rintro e w5 ⟨rfl, ow5, hn1, hm1, ho1⟩
  rw [show sendNum [msgA] 2 msgB = 0 from by decide]
  rw [show sendList [msgA] 2 msgB = [msgA, msgB] from by decide] at hn1
  replace hA := hm1.at hA (by rintro (h | h); omega; have := ho _ h; omega)
  replace hB := hm1.at hB (by rintro (h | h); omega; have := ho _ h; omega)
  replace hm := hm.trans' hm1 (by rintro i hi (rfl | h); omega; have := ho _ h; omega)
  replace ho : ∀ g, ow5 = some g → N ≤ g := fun g hg => by rcases ho1 g hg with h | h; exact ho g h; have := hN; omega
  replace hN : N ≤ w5.heap.size := Nat.le_trans hN hm1.size
  replace hn := hn1
  clear hm1 hn1 ho1
  go_wp2_with (refine wpL_load rfl 26 _ rfl A rfl _ hA Try.underlying26 rfl 20 info26 rfl ?_)
  refine (send_ok _ p ow5 [msgA, msgB] 2 hn msgA msgA_fits).mono ?_
  rintro e w6 ⟨rfl, ow6, hn1, hm1, ho1⟩
  rw [show sendNum [msgA, msgB] 2 msgA = 210 from by decide]
  rw [show sendList [msgA, msgB] 2 msgA = [msgA, msgB] from by decide] at hn1
  replace hA := hm1.at hA (by rintro (h | h); omega; have := ho _ h; omega)
  replace hB := hm1.at hB (by rintro (h | h); omega; have := ho _ h; omega)
  replace hm := hm.trans' hm1 (by rintro i hi (rfl | h); omega; have := ho _ h; omega)
  replace ho : ∀ g, ow6 = some g → N ≤ g := fun g hg => by rcases ho1 g hg with h | h; exact ho g h; have := hN; omega
  replace hN : N ≤ w6.heap.size := Nat.le_trans hN hm1.size
  replace hn := hn1
  clear hm1 hn1 ho1
  go_wp2_with fail
  refine (deliver_ok _ p ow6 [msgA, msgB] 2 hn (by decide) (-1)).mono ?_
  rintro e w7 ⟨m, hm7, rfl, ow7, hn1, hm1, ho1⟩
  rw [show pickAt (-1) [msgA, msgB].length = 1 from by decide] at hn1 hm7
  rw [show [msgA, msgB].eraseIdx 1 = [msgA] from rfl] at hn1
  obtain rfl : msgB = m := by simpa using hm7
  replace hB := hm1.at hB (by rintro (h | h); omega; have := ho _ h; omega)
  replace hm := hm.trans' hm1 (by rintro i hi (rfl | h); omega; have := ho _ h; omega)
  clear hA hm7 ho1 hm1
  replace hn := hn1
  go_upto_region 8 with (refine wpL_storeNew rfl 26 _ _ rfl rfl msgB.cells.toArray rfl _ _ 20 info26 rfl rfl (cells_one msgB) ?_)
  have hC := blk_new w7 (Obj.cells msgB.cells.toArray 26)
  have hmB : Mod (fun _ => False) w7 (w7.alloc (Obj.cells msgB.cells.toArray 26)) := (Mod.refl _ _).alloc _
  generalize w7.heap.size = C at hC ⊢
  generalize w7.alloc (Obj.cells msgB.cells.toArray 26) = w8 at hC hmB ⊢
  replace hn := hn.keep hmB (fun x => x) (fun _ _ x => x)
  replace hB := hmB.at hB (fun x => x)
  replace hm := hm.trans hmB
  clear hmB
  try simp only [Act.put]
  have hq : ∀ w, (binOp .eql 26 (.agg msgB.cells.toArray) (.agg msgB.cells.toArray)).run Try.prog w = .ok (.bool true) w := fun w => by
    rw [eql_msg w msgB msgB msgB_fits msgB_fits]; simp
  go_wp2_with (first
    | (go_at_call 10; refine (num_ok _ _).mono ?_; rintro e w9 ⟨rfl, rfl⟩)
    | (go_at_call 19; refine (len_ok _ p ow7 [msgA] 2 hn).mono ?_; rintro e w9 ⟨rfl, rfl⟩)
    | (refine wpL_load rfl 26 _ rfl B rfl _ hB Try.underlying26 rfl 20 info26 rfl ?_)
    | (refine wpL_load rfl 26 _ rfl C rfl _ hC Try.underlying26 rfl 20 info26 rfl ?_))
  go_ret
  exact ⟨rfl, hm⟩
end
end Go.Proofs.Ytklokcndhkhdmaa
