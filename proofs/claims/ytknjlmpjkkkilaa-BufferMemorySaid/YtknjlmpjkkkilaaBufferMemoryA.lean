/- BufferMemory returns true: the ways that leave at once. -/
import Derived.Test.YtknjlmpjkkkilaaBufS
import Derived.Test.YtknjlmpjkkkilaaBufU
namespace Go.Proofs.Ytknjlmpjkkkilaa
open Go.RowKit Go.Shelf
set_option linter.unusedVariables false
set_option linter.unusedSimpArgs false

/-- The bytes of the argument. -/
def MemArg (w : World) (ma : Option Addr) (mn : Nat) : Prop := mn ≤ maxLen ∧ (0 < mn → ∃ b o, ma = some ⟨b, o, none⟩ ∧ ∀ i, i < mn → ∃ y, w.cell? ⟨b, o + i, none⟩ = some (.int .u8 y) ∧ 0 ≤ y ∧ y ≤ 255)
theorem MemArg.at {w w' : World} {ma : Option Addr} {mn : Nat} (h : MemArg w ma mn) (hm : Mod (fun _ => False) w w') {i : Nat} (hi : i < mn) : ∃ b o y, ma = some ⟨b, o, none⟩ ∧ w'.cell? ⟨b, o + i, none⟩ = some (.int .u8 y) ∧ 0 ≤ y ∧ y ≤ 255 ∧ b < w.heap.size := by
  obtain ⟨b, o, rfl, hc⟩ := h.2 (by omega)
  obtain ⟨y, h1, h2, h3⟩ := hc i hi
  refine ⟨b, o, y, rfl, hm.cell h1 (fun x => x), h2, h3, ?_⟩
  exact w.block_lt_of_cell? _ h1
section
attribute [local go_sem] heap_drew blk_past cell_past free_past
set_option maxRecDepth 100000
set_option maxHeartbeats 4000000
theorem mem_long (a : Option Addr) (c : Nat) (l : List BAct) (ma : Option Addr) (mn mc : Nat) (x n : Int) (w : World) (hl : 100 < l.length) : Calls Try.prog 6 #[.slice a l.length c, .slice ma mn mc, .int .u32 x, .int .i64 n] w fun e w' => e = .returned (.bool true) ∧ Mod (fun _ => False) w w' := by
  have hd : ((100 : Int) < (l.length : Int)) := by omega
  go_enter Try.func6, Try.ntmps6
  go_wp2_with fail
  refine (works_ok _).mono ?_
  rintro e w1 ⟨rfl, hm⟩
  go_wp2
  go_ret
  exact ⟨rfl, hm⟩
theorem mem_far (a : Option Addr) (c : Nat) (l : List BAct) (ma : Option Addr) (mn mc : Nat) (x n : Int) (w : World) (hl : ¬ 100 < l.length) (hx : 64 ≤ x) : Calls Try.prog 6 #[.slice a l.length c, .slice ma mn mc, .int .u32 x, .int .i64 n] w fun e w' => e = .returned (.bool true) ∧ Mod (fun _ => False) w w' := by
  have hd : ¬ ((100 : Int) < (l.length : Int)) := by omega
  go_enter Try.func6, Try.ntmps6
  go_wp2_with fail
  refine (works_ok _).mono ?_
  rintro e w1 ⟨rfl, hm⟩
  go_wp2
  go_ret
  exact ⟨rfl, hm⟩
theorem mem_width (a : Option Addr) (c : Nat) (l : List BAct) (ma : Option Addr) (mn mc : Nat) (x n : Int) (w : World) (hl : ¬ 100 < l.length) (hx : ¬ 64 ≤ x) (hn : wideB n = false) : Calls Try.prog 6 #[.slice a l.length c, .slice ma mn mc, .int .u32 x, .int .i64 n] w fun e w' => e = .returned (.bool true) ∧ Mod (fun _ => False) w w' := by
  have hd : ¬ ((100 : Int) < (l.length : Int)) := by omega
  simp only [wideB, Bool.or_eq_false_iff, beq_eq_false_iff_ne, ne_eq] at hn
  obtain ⟨⟨h1, h2⟩, h4⟩ := hn
  have b1 : (n != 1) = true := by simp [h1]
  have b2 : (n != 2) = true := by simp [h2]
  have b4 : (n != 4) = true := by simp [h4]
  go_enter Try.func6, Try.ntmps6
  go_wp2_with fail
  refine (works_ok _).mono ?_
  rintro e w1 ⟨rfl, hm⟩
  go_wp2
  go_ret
  exact ⟨rfl, hm⟩
theorem mem_align (a : Option Addr) (c : Nat) (l : List BAct) (ma : Option Addr) (mn mc : Nat) (x : Int) (m : Nat) (w : World) (hl : ¬ 100 < l.length) (hx0 : 0 ≤ x) (hx : ¬ 64 ≤ x) (hm : m = 1 ∨ m = 2 ∨ m = 4) (hal : x % (m : Int) ≠ 0) : Calls Try.prog 6 #[.slice a l.length c, .slice ma mn mc, .int .u32 x, .int .i64 m] w fun e w' => e = .returned (.bool true) ∧ Mod (fun _ => False) w w' := by
  have hd : ¬ ((100 : Int) < (l.length : Int)) := by omega
  rcases hm with rfl | rfl | rfl
  · omega
  · have hal' : (x % 2 != 0) = true := by simpa using hal
    clear hal
    go_enter Try.func6, Try.ntmps6
    go_wp2_with fail
    refine (works_ok _).mono ?_
    rintro e w1 ⟨rfl, hm⟩
    go_wp2
    go_ret
    exact ⟨rfl, hm⟩
  · have hal' : (x % 4 != 0) = true := by simpa using hal
    clear hal
    go_enter Try.func6, Try.ntmps6
    go_wp2_with fail
    refine (works_ok _).mono ?_
    rintro e w1 ⟨rfl, hm⟩
    go_wp2
    go_ret
    exact ⟨rfl, hm⟩
end
end Go.Proofs.Ytknjlmpjkkkilaa
