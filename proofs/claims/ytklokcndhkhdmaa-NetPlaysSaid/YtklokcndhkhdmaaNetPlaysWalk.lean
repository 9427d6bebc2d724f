/- NetPlays returns true: the walk. -/
import Derived.Test.YtklokcndhkhdmaaNetT
namespace Go.Proofs.Ytklokcndhkhdmaa
open Go.RowKit
set_option linter.unusedVariables false
set_option linter.unusedSimpArgs false

theorem netPlays_skip (most : Int) (a : Option Addr) (n c : Nat) (w : World) (h : most < 1 ∨ 1024 < most ∨ 100 < (n : Int)) :
    Calls Try.prog 5 #[.int .i64 most, .slice a n c] w fun e w' => e = .returned (.bool true) ∧ Mod (fun _ => False) w w' := by
  go_enter Try.func5, Try.ntmps5
  rcases (by omega : most < 1 ∨ (1 ≤ most ∧ 1024 < most) ∨ (1 ≤ most ∧ most ≤ 1024 ∧ 100 < (n : Int))) with h1 | ⟨h0, h1⟩ | ⟨h0, h2, h1⟩
  all_goals (
    go_wp2_with fail
    refine (works_ok _).mono ?_
    rintro e w1 ⟨rfl, hm⟩
    go_wp2
    go_ret
    exact ⟨rfl, hm⟩)
theorem netPlays_main (most : Int) (a : Option Addr) (c : Nat) (l : List Deed) (w : World) (h1 : 1 ≤ most) (h2 : most ≤ 1024) (h3 : l.length ≤ 100) (ha : ArgList Deed.cells Deed.Fits 22 w a l) :
    Calls Try.prog 5 #[.int .i64 most, .slice a l.length c] w fun e w' => e = .returned (.bool true) ∧ Mod (fun _ => False) w w' := by
  have h3' : (l.length : Int) ≤ 100 := by omega
  go_enter Try.func5, Try.ntmps5
  go_wp2_with fail
  refine (played_ok most a c l _ h1 h2 h3 ha).mono ?_
  rintro e w1 ⟨p, L, v, o, rfl, hT, hm1⟩
  obtain ⟨q, cv, hvq, _⟩ := hT.msgs.len
  subst hvq
  go_upto_region 4 with fail
  have hb := blk_new w1 (Obj.cells #[.int .i64 most, .slice q L.length cv] 49)
  have hmA : Mod (fun _ => False) w1 (w1.alloc (Obj.cells #[.int .i64 most, .slice q L.length cv] 49)) := (Mod.refl _ _).alloc _
  generalize w1.heap.size = b at *
  generalize (w1.alloc (Obj.cells #[.int .i64 most, .slice q L.length cv] 49)) = w2 at *
  have hT2 := hT.keep0 hmA
  have hm2 := hm1.trans hmA
  have c0 : w2.cell? ⟨b, 0, none⟩ = some (.int .i64 most) := cell_of w2 hb 0
  have c1 : w2.cell? ⟨b, 1, none⟩ = some (.slice q L.length cv) := cell_of w2 hb 1
  clear hT hm1 hmA hb
  try simp only [Act.put]
  go_wp2_with (first
    | (go_at_call 22; refine (is_ok _ p o L most most _ hT2.net hT2.msgs).mono ?_; rintro e w7 ⟨rfl, hm7⟩)
    | (go_at_call 13; refine (works_ok _).mono ?_; rintro e w8 ⟨rfl, hm8⟩))
  go_ret
  exact ⟨rfl, (hm2.trans hm7).trans hm8⟩
theorem netPlays_walk (most : Int) (a : Option Addr) (c : Nat) (l : List Deed) (w : World) (ha : ArgList Deed.cells Deed.Fits 22 w a l) :
    Calls Try.prog 5 #[.int .i64 most, .slice a l.length c] w fun e w' => e = .returned (.bool true) ∧ Below w.heap.size w w' := by
  by_cases h : 1 ≤ most ∧ most ≤ 1024 ∧ l.length ≤ 100
  · exact (netPlays_main most a c l w h.1 h.2.1 h.2.2 ha).mono fun e w' hh => ⟨hh.1, hh.2.below⟩
  · exact (netPlays_skip most a l.length c w (by omega)).mono fun e w' hh => ⟨hh.1, hh.2.below⟩
end Go.Proofs.Ytklokcndhkhdmaa
