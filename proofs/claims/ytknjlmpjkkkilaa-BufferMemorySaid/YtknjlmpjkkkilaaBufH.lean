/- The buffer's Forward: a range over its back. -/
import Derived.Test.YtknjlmpjkkkilaaBufG
import Derived.BigQuiet
namespace Go.Proofs.Ytknjlmpjkkkilaa
open Go.RowKit Go.Shelf
set_option linter.unusedVariables false
set_option linter.unusedSimpArgs false

theorem from_ok (w : World) (a n v : Int) (ha : 0 ≤ a) (ha' : a ≤ 4294967295) : Calls Try.prog 30 #[.agg #[.int .u32 a, .int .i64 n, .int .u32 v]] w fun e w' => e = .returned (.int .u64 a) ∧ Mod (fun _ => False) w w' := by
  go_enter Try.func30, Try.ntmps30
  go_wp2
  go_ret
  exact ⟨rfl, by (repeat first | exact Mod.refl _ _ | assumption | apply Mod.drew | apply Mod.drewN | apply Mod.alloc | (refine Mod.setCell ?_ (Or.inr (by (first | (with_reducible exact Nat.le_refl _) | ((try simp only [World.size_alloc, World.size_setCell, World.size_drew] at *); omega)))) _) | (refine Mod.trans ?_ (by assumption)))⟩
theorem until_ok (w : World) (a n v : Int) (ha : 0 ≤ a) (ha' : a ≤ 4294967295) (hn : 0 ≤ n) (hn' : n ≤ 4) : Calls Try.prog 29 #[.agg #[.int .u32 a, .int .i64 n, .int .u32 v]] w fun e w' => e = .returned (.int .u64 (a + n)) ∧ Mod (fun _ => False) w w' := by
  go_enter Try.func29, Try.ntmps29
  go_wp2
  go_ret
  exact ⟨rfl, by (repeat first | exact Mod.refl _ _ | assumption | apply Mod.drew | apply Mod.drewN | apply Mod.alloc | (refine Mod.setCell ?_ (Or.inr (by (first | (with_reducible exact Nat.le_refl _) | ((try simp only [World.size_alloc, World.size_setCell, World.size_drew] at *); omega)))) _) | (refine Mod.trans ?_ (by assumption)))⟩

theorem seek_none (a n : Int) : ∀ l : List Store, (∀ s ∈ l, oneE s.width s.value (a - s.addr) n = none) → seek l a n = (0, 0)
  | [], _ => rfl
  | s :: l, h => by rw [seek, h s (by simp)]; exact seek_none a n l (fun x hx => h x (by simp [hx]))
theorem seek_some (a n : Int) (s : Store) (r : Int × Int) (q : List Store) (hs : oneE s.width s.value (a - s.addr) n = some r) : ∀ l : List Store, (∀ s ∈ l, oneE s.width s.value (a - s.addr) n = none) → seek (l ++ [s] ++ q) a n = r
  | [], _ => by simp [seek, hs]
  | x :: l, h => by
    rw [List.cons_append, List.cons_append, seek, h x (by simp)]
    exact seek_some a n s r q hs l (fun x hx => h x (by simp [hx]))

/-- Forward's answer lies in two cells. -/
theorem forward_res {tmps : Array Value} {w : World} {R6 R7 : Nat} {x y : Int} (h6 : tmps[6]? = some (.pointer (some ⟨R6, 0, none⟩))) (h7 : tmps[7]? = some (.pointer (some ⟨R7, 0, none⟩)))
    (c6 : w.cell? ⟨R6, 0, none⟩ = some (.int .u32 x)) (c7 : w.cell? ⟨R7, 0, none⟩ = some (.int .i64 y)) : (results Try.f11 tmps).run Try.prog w = .ok (.tuple #[.int .u32 x, .int .i64 y]) w := by
  simp [results, Try.results11, h6, h7, go_sem, c6, c7]
theorem forward_no (w : World) (v : Option Addr) (a n : Int) (ha : 0 ≤ a) (ha' : a ≤ 4294967295) (hn : wideB n = false ∨ (wideB n = true ∧ a % n ≠ 0)) :
    Calls Try.prog 11 #[.pointer v, .int .u32 a, .int .i64 n] w fun e w' => e = .returned (.tuple #[.int .u32 0, .int .i64 0]) ∧ Mod (fun _ => False) w w' := by
  have hall := allocs3 w (Obj.cells #[Value.int IntKind.i64 n] 3) (Obj.cells #[Value.int IntKind.u32 0] 22) (Obj.cells #[Value.int IntKind.i64 0] 29)
  obtain ⟨-, h1, h2, h3⟩ := hall
  have c1 := cell_of _ h1 0
  have c2 := cell_of _ h2 0
  have hA := Lib.hid (And.intro c1 (And.intro c2 h3))
  clear h1 h2 h3 c1 c2
  rcases hn with hn | ⟨hn, hm⟩
  · go_enter Try.func11, Try.ntmps11
    go_wp2_with (go_at_call 27; refine (width_ok _ _).mono ?_; rintro e w1 ⟨rfl, rfl⟩)
    exact bodyPost_ret (forward_res rfl rfl hA.out.1 hA.out.2.1) rfl ⟨rfl, hA.out.2.2⟩
  · have hn' := hn
    simp [wideB] at hn'
    rcases hn' with (rfl | rfl) | rfl
    · exact absurd (Int.emod_one a) hm
    all_goals (
      have hm2 := Lib.hid hm
      clear hm
      go_enter Try.func11, Try.ntmps11
      go_upto_region 4 with (go_at_call 27; refine (width_ok _ _).mono ?_; rintro e w1 ⟨rfl, rfl⟩)
      all_goals (first
        | exact bodyPost_ret (forward_res rfl rfl hA.out.1 hA.out.2.1) rfl ⟨rfl, hA.out.2.2⟩
        | (exfalso; have := hm2.out; simp_all)))

end Go.Proofs.Ytknjlmpjkkkilaa
