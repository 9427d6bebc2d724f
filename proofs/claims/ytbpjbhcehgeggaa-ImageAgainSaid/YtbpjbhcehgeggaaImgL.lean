/- Contracts of what the laws of layer 2 call beside the image. -/
import Derived.Test.YtbpjbhcehgeggaaImgG
namespace Go.Proofs.Ytbpjbhcehgeggaa
open Go.RowKit
set_option linter.unusedVariables false
set_option linter.unusedSimpArgs false

/-- A size that an image may have. -/
def Pow (n : Nat) : Prop := ∃ j, j ≤ 8 ∧ n = 16 * 2 ^ j
theorem Pow.cases {n : Nat} (h : Pow n) : n = 16 ∨ n = 32 ∨ n = 64 ∨ n = 128 ∨ n = 256 ∨ n = 512 ∨ n = 1024 ∨ n = 2048 ∨ n = 4096 := by
  obtain ⟨j, hj, rfl⟩ := h
  match j, hj with
  | 0, _ | 1, _ | 2, _ | 3, _ | 4, _ | 5, _ | 6, _ | 7, _ | 8, _ => simp
theorem Pow.bits {n : Nat} (h : Pow n) : (bits BinOp.and IntKind.i64 (n : Int) ((n : Int) - 1) != 0) = false := by
  rcases h.cases with rfl | rfl | rfl | rfl | rfl | rfl | rfl | rfl | rfl <;> decide
theorem Pow.range {n : Nat} (h : Pow n) : 16 ≤ n ∧ n ≤ 4096 ∧ n % 16 = 0 := by
  rcases h.cases with rfl | rfl | rfl | rfl | rfl | rfl | rfl | rfl | rfl <;> simp
theorem Pow.next {n : Nat} (h : Pow n) (hn : n < 4096) : Pow (n * 2) := by
  obtain ⟨j, hj, rfl⟩ := h
  refine ⟨j + 1, ?_, by rw [Nat.pow_succ]; omega⟩
  rcases Nat.lt_or_ge j 8 with h | h
  · omega
  · have : j = 8 := by omega
    subst this; simp at hn

/-- Bytes of an argument. -/
structure BytesAt (w : World) (a : Option Addr) (n : Nat) : Prop where
  len : n ≤ 281474976710656
  cells : 0 < n → ∃ b o, a = some ⟨b, o, none⟩ ∧ ∀ i, i < n → ∃ x, w.cell? ⟨b, o + i, none⟩ = some (.int .u8 x) ∧ 0 ≤ x ∧ x ≤ 255
theorem BytesAt.keep {w w' : World} {a : Option Addr} {n : Nat} (h : BytesAt w a n) (hm : Mod (fun _ => False) w w') : BytesAt w' a n := by
  refine ⟨h.len, fun h0 => ?_⟩
  obtain ⟨b, o, ha, hc⟩ := h.cells h0
  refine ⟨b, o, ha, fun i hi => ?_⟩
  obtain ⟨x, hx, hr⟩ := hc i hi
  exact ⟨x, (World.cell?_of_block (hm.block b (World.block_lt_of_cell? _ _ hx) (fun x => x))).trans hx, hr⟩

theorem mk_bytes (w : World) (n : Nat) (hn : n ≤ 4096) : (Instr.makeSlice 22 (.int .i64 n) (.int .i64 n)).run Try.prog w = .ok (.slice (some ⟨w.heap.size, 0, none⟩) n n) (w.alloc (.cells (u8s (List.replicate n 0)).toArray 5)) := by
  have := run_make_row' (P := Try.prog) (w := w) 22 5 (.int .u8 0) 1 under_bytes info_u8 rfl .i64 .i64 n (by omega) (by omega)
  rw [this]
  congr 3
  apply Array.ext'; rw [toList_madeCells_one]; simp [u8s]

set_option maxRecDepth 100000 in
theorem sized_ok (a : Option Addr) (n0 c0 : Nat) (wd : Int) (w : World) (hb : BytesAt w a n0) :
    Calls Try.prog 6 #[.slice a n0 c0, .int .i64 wd] w fun e w' => ∃ g bs, e = .returned (.slice (some ⟨g, 0, none⟩) bs.length bs.length) ∧ w.heap.size ≤ g ∧
      w'.heap[g]? = some (.cells (u8s bs).toArray 5 (0, 0)) ∧ Pow bs.length ∧ (∀ x ∈ bs, 0 ≤ x ∧ x ≤ 255) ∧ Mod (fun _ => False) w w' := by
  go_enter Try.func6, Try.ntmps6
  go_wp2_with fail
  go_loop [5] (fun n => ∃ m : Nat, Pow m ∧ n = .int .i64 m) (fun n => 4096 - (intOf n).toNat)
  case atStart => exact ⟨16, ⟨0, by omega, rfl⟩, rfl⟩
  case round =>
    obtain ⟨m, hm, rfl⟩ := hrel
    have hmr := hm.range
    by_cases h1 : m < 4096 ∧ (m : Int) < wd
    · obtain ⟨h1, h2⟩ := h1
      go_wp2_with fail
      go_round
      case rel => exact ⟨m * 2, hm.next h1, by go_num⟩
      case measure => simp [intOf]; omega
    · have hmk := mk_bytes w m hmr.2.1
      by_cases h2 : m < 4096
      all_goals
        have h1' : m < 4096 → wd ≤ (m : Int) := by omega
        clear h1
        go_wp2_with fail
        go_loopw [7] (fun i wr => ∃ (k : Nat) (bs : List Int), k ≤ m ∧ i = .int .i64 k ∧ bs.length = m ∧ (∀ x ∈ bs, 0 ≤ x ∧ x ≤ 255) ∧ wr.heap[w.heap.size]? = some (.cells (u8s bs).toArray 5 (0, 0)) ∧ Mod (fun _ => False) w wr) (fun i _ => m - (intOf i).toNat)
        case atStart => exact ⟨0, List.replicate m 0, by omega, rfl, by simp, by intro x hx; simp at hx; omega, blk_new _ _, (Mod.refl _ _).alloc _⟩
        case round =>
          obtain ⟨k, bs, hk, rfl, hbl, hbr, hg, hmo⟩ := hrel
          clear h1' hmk
          by_cases hlt : k < m
          · by_cases h0 : 0 < n0
            · obtain ⟨b, o, rfl, hcs⟩ := (hb.keep hmo).cells h0
              have hn0 := hb.len
              obtain ⟨x, hx, hxr⟩ := hcs (k % n0) (Nat.mod_lt _ h0)
              have hkl : k < bs.length := by omega
              have hz : ((n0 : Int) == 0) = false := by simp; omega
              have hc1 := cell_of wr hg k
              rw [show (u8s bs).toArray[k]? = some (.int .u8 bs[k]) by simp [u8s, hkl]] at hc1
              have hc2 := free_of wr hg k
              have hmod : k % n0 < n0 := Nat.mod_lt _ h0
              have HL := Lib.hid hbl
              have hm4 := hmr.2.1
              clear hbl hcs hb hn0 hm hmr
              go_wp2_with fail
              go_roundw
              case rel =>
                refine ⟨k + 1, bs.set k x, by omega, by go_num, by simpa using HL.out, ?_, ?_, hmo.setCell (.inr (Nat.le_refl _)) _⟩
                · intro y hy
                  rcases List.mem_or_eq_of_mem_set hy with hy | rfl
                  · exact hbr y hy
                  · exact hxr
                · rw [heap_setCell_same _ _ _ _ _ _ hg]
                  simp [u8s, List.map_set]
              case measure => simp [intOf]; omega
            · have hz : n0 = 0 := by omega
              subst hz
              go_wp2_with fail
              go_ret
              exact ⟨w.heap.size, bs, by rw [hbl]; rfl, Nat.le_refl _, hg, by rw [hbl]; exact hm, hbr, hmo⟩
          · have hbl' := hbl
            have HL := Lib.hid hbl
            clear hbl hbl'
            go_wp2_with fail
            go_ret
            exact ⟨w.heap.size, bs, by rw [HL.out]; rfl, Nat.le_refl _, hg, by rw [HL.out]; exact hm, hbr, hmo⟩
end Go.Proofs.Ytbpjbhcehgeggaa
