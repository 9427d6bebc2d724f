/- The net: New, none, Len, Send. -/
import Derived.Test.YtklokcndhkhdmaaNetC
namespace Go.Proofs.Ytklokcndhkhdmaa
open Go.RowKit
set_option linter.unusedVariables false
set_option linter.unusedSimpArgs false

/-- A net lies at p, holds these messages and this bound; o: the block of its list. -/
structure Net (w : World) (p : Nat) (o : Option Nat) (l : List Msg) (most : Int) : Prop where
  ex : ∃ v, w.heap[p]? = some (.cells #[v, .int .i64 most] 71 (0, 0)) ∧ Msgs w v l ∧ ownOf v = o
  most1 : 1 ≤ most
  most2 : most ≤ 1024
  len : (l.length : Int) ≤ most
theorem Net.keep {w w' : World} {S : Nat → Prop} {p : Nat} {o : Option Nat} {l : List Msg} {most : Int} (h : Net w p o l most) (hm : Mod S w w') (hp : ¬ S p) (ho : ∀ g, o = some g → ¬ S g) : Net w' p o l most := by
  obtain ⟨v, h1, h2, h3⟩ := h.ex
  exact ⟨⟨v, hm.at h1 hp, h2.keep hm (fun g hg => ho g (h3 ▸ hg)), h3⟩, h.most1, h.most2, h.len⟩
theorem Net.lt {w : World} {p : Nat} {o : Option Nat} {l : List Msg} {most : Int} (h : Net w p o l most) : p < w.heap.size ∧ ∀ g, o = some g → g < w.heap.size := by
  obtain ⟨v, h1, h2, rfl⟩ := h.ex
  exact ⟨lt_of_block h1, fun g hg => h2.row.lt hg⟩
/-- The list's block is not the net's own. -/
theorem Net.ne {w : World} {p : Nat} {o : Option Nat} {l : List Msg} {most : Int} (h : Net w p o l most) : o ≠ some p := by
  obtain ⟨v, h1, h2, rfl⟩ := h.ex
  intro hg
  obtain ⟨cap, cur, _, hb, _⟩ := h2.row.block hg
  rw [h1] at hb
  simp at hb

theorem new_ok (w : World) (most : Int) (h1 : 1 ≤ most) (h2 : most ≤ 1024) : Calls Try.prog 14 #[.int .i64 most] w fun e w' => ∃ p, e = .returned (.tuple #[.pointer (some ⟨p, 0, none⟩), .int .i64 0]) ∧ Net w' p none [] most ∧ w.heap.size ≤ p ∧ Mod (fun _ => False) w w' := by
  go_enter Try.func14, Try.ntmps14
  go_wp2
  go_ret2
  exact ⟨_, rfl, ⟨⟨_, blk_new _ _, Msgs.empty _, rfl⟩, h1, h2, by simp; omega⟩, Nat.le_refl _, (Mod.refl _ _).alloc _⟩
theorem new_bad (w : World) (most : Int) (h1 : most < 1 ∨ 1024 < most) : Calls Try.prog 14 #[.int .i64 most] w fun e w' => e = .returned (.tuple #[.pointer none, .int .i64 2]) ∧ w' = w := by
  go_enter Try.func14, Try.ntmps14
  rcases h1 with h1 | h1
  · go_wp2
    go_ret2
    exact ⟨rfl, rfl⟩
  · go_wp2
    go_ret2
    exact ⟨rfl, rfl⟩

theorem none_nil (w : World) : Calls Try.prog 30 #[.pointer none] w fun e w' => e = .returned (.bool true) ∧ w' = w := by
  go_enter Try.func30, Try.ntmps30
  go_wp2
  go_ret
  exact ⟨rfl, rfl⟩
theorem none_ok (w : World) (p : Nat) (o : Option Nat) (l : List Msg) (most : Int) (h : Net w p o l most) : Calls Try.prog 30 #[.pointer (some ⟨p, 0, none⟩)] w fun e w' => e = .returned (.bool false) ∧ w' = w := by
  obtain ⟨v, hb, _, _⟩ := h.ex
  have hm1 := h.most1
  have hc1 : w.cell? ⟨p, 1, none⟩ = some (.int .i64 most) := cell_of w hb 1
  have hm0 : (most == 0) = false := by simp; omega
  clear hb
  go_enter Try.func30, Try.ntmps30
  go_wp2
  go_ret
  exact ⟨rfl, rfl⟩

theorem len_nil (w : World) : Calls Try.prog 19 #[.pointer none] w fun e w' => e = .returned (.int .i64 0) ∧ w' = w := by
  go_enter Try.func19, Try.ntmps19
  go_wp2_with fail
  refine (none_nil _).mono ?_
  rintro e w1 ⟨rfl, rfl⟩
  go_wp2
  go_ret
  exact ⟨rfl, rfl⟩
theorem len_ok (w : World) (p : Nat) (o : Option Nat) (l : List Msg) (most : Int) (h : Net w p o l most) : Calls Try.prog 19 #[.pointer (some ⟨p, 0, none⟩)] w fun e w' => e = .returned (.int .i64 l.length) ∧ w' = w := by
  obtain ⟨v, hb, hms, _⟩ := h.ex
  obtain ⟨q, c, rfl, _⟩ := hms.row.form
  have hc0 : w.cell? ⟨p, 0, none⟩ = some (.slice q l.length c) := cell_of w hb 0
  go_enter Try.func19, Try.ntmps19
  go_wp2_with fail
  refine (none_ok _ p o l most h).mono ?_
  rintro e w1 ⟨rfl, rfl⟩
  go_wp2
  go_ret
  exact ⟨rfl, rfl⟩
end Go.Proofs.Ytklokcndhkhdmaa
