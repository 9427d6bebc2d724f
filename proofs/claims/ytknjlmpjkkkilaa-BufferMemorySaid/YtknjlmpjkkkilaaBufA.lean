/- Stores as cells; which widths may be; which stores may wait: the buffer's and the document's. -/
import Derived.Test.YtknjlmpjkkkilaaChecked
import Derived.Test.YtknjlmpjkkkilaaRowA
import Derived.Test.YtknjlmpjkkkilaaEq
namespace Go.Proofs.Ytknjlmpjkkkilaa
open Go.RowKit
set_option linter.unusedVariables false
set_option linter.unusedSimpArgs false

/-- A store. -/
structure Store where
  addr : Int
  width : Int
  value : Int
deriving DecidableEq
def Store.cells (s : Store) : List Value := [.int .u32 s.addr, .int .i64 s.width, .int .u32 s.value]
structure Store.Fits (s : Store) : Prop where
  a0 : 0 ≤ s.addr
  a1 : s.addr ≤ 4294967295
  v0 : 0 ≤ s.value
  v1 : s.value ≤ 4294967295

def wideB (n : Int) : Bool := n == 1 || n == 2 || n == 4
/-- What is wrong with a store. -/
def storeNum (s : Store) : Int := if s.width = 1 ∧ s.value ≤ 255 ∨ s.width = 2 ∧ s.value ≤ 65535 ∨ s.width = 4 then (if s.addr % s.width = 0 then 0 else 120) else 2

theorem ret_int {k : IntKind} {a b : Int} (h : a = b) : Ending.returned (.int k a) = .returned (.int k b) := by rw [h]
theorem ret_bool {a b : Bool} (h : a = b) : Ending.returned (.bool a) = .returned (.bool b) := by rw [h]
theorem width_ok (w : World) (n : Int) : Calls Try.prog 27 #[.int .i64 n] w fun e w' => e = .returned (.bool (wideB n)) ∧ w' = w := by
  by_cases h1 : n = 1
  · subst h1
    go_enter Try.func27, Try.ntmps27
    go_wp2
    go_ret
    exact ⟨rfl, rfl⟩
  by_cases h2 : n = 2
  · subst h2
    go_enter Try.func27, Try.ntmps27
    go_wp2
    go_ret
    exact ⟨rfl, rfl⟩
  have h1' : (n == 1) = false := by simpa using h1
  have h2' : (n == 2) = false := by simpa using h2
  clear h1 h2
  go_enter Try.func27, Try.ntmps27
  go_wp2
  go_ret
  exact ⟨ret_bool (by simp [wideB, h1', h2']), rfl⟩
theorem wide_ok (w : World) (n : Int) : Calls Try.prog 32 #[.int .i64 n] w fun e w' => e = .returned (.bool (wideB n)) ∧ w' = w := by
  by_cases h1 : n = 1
  · subst h1
    go_enter Try.func32, Try.ntmps32
    go_wp2
    go_ret
    exact ⟨rfl, rfl⟩
  by_cases h2 : n = 2
  · subst h2
    go_enter Try.func32, Try.ntmps32
    go_wp2
    go_ret
    exact ⟨rfl, rfl⟩
  have h1' : (n == 1) = false := by simpa using h1
  have h2' : (n == 2) = false := by simpa using h2
  clear h1 h2
  go_enter Try.func32, Try.ntmps32
  go_wp2
  go_ret
  exact ⟨ret_bool (by simp [wideB, h1', h2']), rfl⟩
theorem num_ok (w : World) (n : Int) : Calls Try.prog 14 #[.int .i64 n] w fun e w' => e = .returned (.int .i64 n) ∧ w' = w := by
  go_enter Try.func14, Try.ntmps14
  go_wp2
  go_ret
  exact ⟨rfl, rfl⟩

theorem right_1 (w : World) (a v : Int) (ha : 0 ≤ a) (ha' : a ≤ 4294967295) (hv : 0 ≤ v) (hv' : v ≤ 4294967295) :
    Calls Try.prog 25 #[.agg #[.int .u32 a, .int .i64 1, .int .u32 v]] w fun e w' => e = .returned (.int .i64 (storeNum ⟨a, 1, v⟩)) ∧ Mod (fun _ => False) w w' := by
  have h1 : wideB 1 = true := rfl
  go_enter Try.func25, Try.ntmps25
  go_wp2_with (go_at_call 27; refine (width_ok _ _).mono ?_; rintro e w1 ⟨rfl, rfl⟩)
  all_goals
    go_ret
    exact ⟨ret_int (by simp_all [storeNum] <;> omega), by (repeat first | exact Mod.refl _ _ | assumption | apply Mod.drew | apply Mod.drewN | apply Mod.alloc | (refine Mod.setCell ?_ (Or.inr (by (first | (with_reducible exact Nat.le_refl _) | ((try simp only [World.size_alloc, World.size_setCell, World.size_drew] at *); omega)))) _) | (refine Mod.trans ?_ (by assumption)))⟩
theorem right_2 (w : World) (a v : Int) (ha : 0 ≤ a) (ha' : a ≤ 4294967295) (hv : 0 ≤ v) (hv' : v ≤ 4294967295) :
    Calls Try.prog 25 #[.agg #[.int .u32 a, .int .i64 2, .int .u32 v]] w fun e w' => e = .returned (.int .i64 (storeNum ⟨a, 2, v⟩)) ∧ Mod (fun _ => False) w w' := by
  have h1 : wideB 2 = true := rfl
  go_enter Try.func25, Try.ntmps25
  go_wp2_with (go_at_call 27; refine (width_ok _ _).mono ?_; rintro e w1 ⟨rfl, rfl⟩)
  all_goals
    go_ret
    exact ⟨ret_int (by simp_all [storeNum] <;> omega), by (repeat first | exact Mod.refl _ _ | assumption | apply Mod.drew | apply Mod.drewN | apply Mod.alloc | (refine Mod.setCell ?_ (Or.inr (by (first | (with_reducible exact Nat.le_refl _) | ((try simp only [World.size_alloc, World.size_setCell, World.size_drew] at *); omega)))) _) | (refine Mod.trans ?_ (by assumption)))⟩
theorem right_4 (w : World) (a v : Int) (ha : 0 ≤ a) (ha' : a ≤ 4294967295) (hv : 0 ≤ v) (hv' : v ≤ 4294967295) :
    Calls Try.prog 25 #[.agg #[.int .u32 a, .int .i64 4, .int .u32 v]] w fun e w' => e = .returned (.int .i64 (storeNum ⟨a, 4, v⟩)) ∧ Mod (fun _ => False) w w' := by
  have h1 : wideB 4 = true := rfl
  go_enter Try.func25, Try.ntmps25
  go_wp2_with (go_at_call 27; refine (width_ok _ _).mono ?_; rintro e w1 ⟨rfl, rfl⟩)
  all_goals
    go_ret
    exact ⟨ret_int (by simp_all [storeNum] <;> omega), by (repeat first | exact Mod.refl _ _ | assumption | apply Mod.drew | apply Mod.drewN | apply Mod.alloc | (refine Mod.setCell ?_ (Or.inr (by (first | (with_reducible exact Nat.le_refl _) | ((try simp only [World.size_alloc, World.size_setCell, World.size_drew] at *); omega)))) _) | (refine Mod.trans ?_ (by assumption)))⟩
theorem right_no (w : World) (a n v : Int) (h : wideB n = false) :
    Calls Try.prog 25 #[.agg #[.int .u32 a, .int .i64 n, .int .u32 v]] w fun e w' => e = .returned (.int .i64 (storeNum ⟨a, n, v⟩)) ∧ Mod (fun _ => False) w w' := by
  have hn : storeNum ⟨a, n, v⟩ = 2 := by simp [wideB] at h; simp only [storeNum]; rw [if_neg (by omega)]
  go_enter Try.func25, Try.ntmps25
  go_wp2_with (go_at_call 27; refine (width_ok _ _).mono ?_; rintro e w1 ⟨rfl, rfl⟩)
  all_goals
    go_ret
    exact ⟨ret_int hn.symm, by (repeat first | exact Mod.refl _ _ | assumption | apply Mod.drew | apply Mod.drewN | apply Mod.alloc | (refine Mod.setCell ?_ (Or.inr (by (first | (with_reducible exact Nat.le_refl _) | ((try simp only [World.size_alloc, World.size_setCell, World.size_drew] at *); omega)))) _) | (refine Mod.trans ?_ (by assumption)))⟩
theorem right_ok (w : World) (s : Store) (h : s.Fits) : Calls Try.prog 25 #[.agg s.cells.toArray] w fun e w' => e = .returned (.int .i64 (storeNum s)) ∧ Mod (fun _ => False) w w' := by
  obtain ⟨a, n, v⟩ := s
  obtain ⟨a0, a1, v0, v1⟩ := h
  cases hw : wideB n
  · exact right_no w a n v hw
  · simp [wideB] at hw
    rcases hw with (rfl | rfl) | rfl
    · exact right_1 w a v a0 a1 v0 v1
    · exact right_2 w a v a0 a1 v0 v1
    · exact right_4 w a v a0 a1 v0 v1
theorem check_1 (w : World) (a v : Int) (ha : 0 ≤ a) (ha' : a ≤ 4294967295) (hv : 0 ≤ v) (hv' : v ≤ 4294967295) :
    Calls Try.prog 31 #[.agg #[.int .u32 a, .int .i64 1, .int .u32 v]] w fun e w' => e = .returned (.int .i64 (storeNum ⟨a, 1, v⟩)) ∧ Mod (fun _ => False) w w' := by
  have h1 : wideB 1 = true := rfl
  go_enter Try.func31, Try.ntmps31
  go_wp2_with (go_at_call 32; refine (wide_ok _ _).mono ?_; rintro e w1 ⟨rfl, rfl⟩)
  all_goals
    go_ret
    exact ⟨ret_int (by simp_all [storeNum] <;> omega), by (repeat first | exact Mod.refl _ _ | assumption | apply Mod.drew | apply Mod.drewN | apply Mod.alloc | (refine Mod.setCell ?_ (Or.inr (by (first | (with_reducible exact Nat.le_refl _) | ((try simp only [World.size_alloc, World.size_setCell, World.size_drew] at *); omega)))) _) | (refine Mod.trans ?_ (by assumption)))⟩
theorem check_2 (w : World) (a v : Int) (ha : 0 ≤ a) (ha' : a ≤ 4294967295) (hv : 0 ≤ v) (hv' : v ≤ 4294967295) :
    Calls Try.prog 31 #[.agg #[.int .u32 a, .int .i64 2, .int .u32 v]] w fun e w' => e = .returned (.int .i64 (storeNum ⟨a, 2, v⟩)) ∧ Mod (fun _ => False) w w' := by
  have h1 : wideB 2 = true := rfl
  go_enter Try.func31, Try.ntmps31
  go_wp2_with (go_at_call 32; refine (wide_ok _ _).mono ?_; rintro e w1 ⟨rfl, rfl⟩)
  all_goals
    go_ret
    exact ⟨ret_int (by simp_all [storeNum] <;> omega), by (repeat first | exact Mod.refl _ _ | assumption | apply Mod.drew | apply Mod.drewN | apply Mod.alloc | (refine Mod.setCell ?_ (Or.inr (by (first | (with_reducible exact Nat.le_refl _) | ((try simp only [World.size_alloc, World.size_setCell, World.size_drew] at *); omega)))) _) | (refine Mod.trans ?_ (by assumption)))⟩
theorem check_4 (w : World) (a v : Int) (ha : 0 ≤ a) (ha' : a ≤ 4294967295) (hv : 0 ≤ v) (hv' : v ≤ 4294967295) :
    Calls Try.prog 31 #[.agg #[.int .u32 a, .int .i64 4, .int .u32 v]] w fun e w' => e = .returned (.int .i64 (storeNum ⟨a, 4, v⟩)) ∧ Mod (fun _ => False) w w' := by
  have h1 : wideB 4 = true := rfl
  go_enter Try.func31, Try.ntmps31
  go_wp2_with (go_at_call 32; refine (wide_ok _ _).mono ?_; rintro e w1 ⟨rfl, rfl⟩)
  all_goals
    go_ret
    exact ⟨ret_int (by simp_all [storeNum] <;> omega), by (repeat first | exact Mod.refl _ _ | assumption | apply Mod.drew | apply Mod.drewN | apply Mod.alloc | (refine Mod.setCell ?_ (Or.inr (by (first | (with_reducible exact Nat.le_refl _) | ((try simp only [World.size_alloc, World.size_setCell, World.size_drew] at *); omega)))) _) | (refine Mod.trans ?_ (by assumption)))⟩
theorem check_no (w : World) (a n v : Int) (h : wideB n = false) :
    Calls Try.prog 31 #[.agg #[.int .u32 a, .int .i64 n, .int .u32 v]] w fun e w' => e = .returned (.int .i64 (storeNum ⟨a, n, v⟩)) ∧ Mod (fun _ => False) w w' := by
  have hn : storeNum ⟨a, n, v⟩ = 2 := by simp [wideB] at h; simp only [storeNum]; rw [if_neg (by omega)]
  go_enter Try.func31, Try.ntmps31
  go_wp2_with (go_at_call 32; refine (wide_ok _ _).mono ?_; rintro e w1 ⟨rfl, rfl⟩)
  all_goals
    go_ret
    exact ⟨ret_int hn.symm, by (repeat first | exact Mod.refl _ _ | assumption | apply Mod.drew | apply Mod.drewN | apply Mod.alloc | (refine Mod.setCell ?_ (Or.inr (by (first | (with_reducible exact Nat.le_refl _) | ((try simp only [World.size_alloc, World.size_setCell, World.size_drew] at *); omega)))) _) | (refine Mod.trans ?_ (by assumption)))⟩
theorem check_ok (w : World) (s : Store) (h : s.Fits) : Calls Try.prog 31 #[.agg s.cells.toArray] w fun e w' => e = .returned (.int .i64 (storeNum s)) ∧ Mod (fun _ => False) w w' := by
  obtain ⟨a, n, v⟩ := s
  obtain ⟨a0, a1, v0, v1⟩ := h
  cases hw : wideB n
  · exact check_no w a n v hw
  · simp [wideB] at hw
    rcases hw with (rfl | rfl) | rfl
    · exact check_1 w a v a0 a1 v0 v1
    · exact check_2 w a v a0 a1 v0 v1
    · exact check_4 w a v a0 a1 v0 v1
end Go.Proofs.Ytknjlmpjkkkilaa
