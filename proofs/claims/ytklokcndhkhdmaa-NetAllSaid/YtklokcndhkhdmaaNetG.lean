/- The net: Ready, Copy. -/
import Derived.Test.YtklokcndhkhdmaaNetF
import Derived.Lib.BufferMore
namespace Go.Proofs.Ytklokcndhkhdmaa
open Go.RowKit
set_option linter.unusedVariables false
set_option linter.unusedSimpArgs false

theorem run_eql_nil (w : World) (a : Addr) (n c : Nat) : (binOp .eql 38 (.slice (some a) n c) (.slice none 0 0)).run Try.prog w = .ok (.bool false) w :=
  Go.Lib.run_eql_slice_some_nil w a n c Try.underlying38
theorem run_eql_nil' (w : World) : (binOp .eql 38 (.slice none 0 0) (.slice none 0 0)).run Try.prog w = .ok (.bool true) w :=
  Go.Lib.run_eql_slice_nil_nil w 0 0 Try.underlying38
section
attribute [local go_sem] run_eql_nil run_eql_nil'
theorem clone_ok (w : World) (v : Value) (l : List Msg) (h : Msgs w v l) (hl : l.length ≤ 1000000) :
    Calls Try.prog 31 #[v] w fun e w' => ∃ v', e = .returned v' ∧ Msgs w' v' l ∧ Mod (fun _ => False) w w' ∧ ∀ g, ownOf v' = some g → w.heap.size ≤ g := by
  obtain ⟨q, c, rfl, hlc, hcm, hqn, hqs⟩ := h.row.form
  cases q with
  | none =>
    obtain ⟨hl0, rfl⟩ := hqn rfl
    rw [hl0] at h ⊢
    go_enter Try.func31, Try.ntmps31
    go_wp2
    go_ret
    exact ⟨_, rfl, h, Mod.refl _ _, by simp [ownOf]⟩
  | some a =>
    obtain ⟨g, rfl⟩ := hqs a rfl
    go_enter Try.func31, Try.ntmps31
    go_wp2_with (first
      | (at_builtin; refine wpL_msgs rfl _ _ rfl rfl (.slice (some ⟨w.heap.size, 0, none⟩) 0 0) (.slice (some ⟨g, 0, none⟩) l.length c) rfl rfl [] l ⟨⟨rfl, .inl ⟨rfl, .inr ⟨w.heap.size, rfl⟩⟩⟩, by simp⟩ h.fits (h.keep (S := fun _ => False) (by (repeat first | exact Mod.refl _ _ | assumption | apply Mod.drew | apply Mod.drewN | apply Mod.alloc | (refine Mod.setCell ?_ (Or.inr (by (first | (with_reducible exact Nat.le_refl _) | ((try simp only [World.size_alloc, World.size_setCell, World.size_drew] at *); omega)))) _) | (refine Mod.trans ?_ (by assumption)))) (fun _ _ x => x)).row.src (by simp; omega) ?_; intro v' w2 hms2 hmo2 hov2))
    go_ret
    refine ⟨_, rfl, by simpa using hms2, (((Mod.refl _ _).alloc _).trans (hmo2.mono (fun k _ hk => by simp [ownOf] at hk))), ?_⟩
    intro b hb
    rcases hov2 b hb with h1 | h1
    · simp [ownOf] at h1
    · simp only [World.size_alloc] at h1; omega

end

theorem ready_nil (w : World) : Calls Try.prog 17 #[.pointer none] w fun e w' => e = .returned (.slice none 0 0) ∧ w' = w := by
  go_enter Try.func17, Try.ntmps17
  go_wp2_with fail
  refine (none_nil _).mono ?_
  rintro e w1 ⟨rfl, rfl⟩
  go_wp2
  go_ret
  exact ⟨rfl, rfl⟩
theorem Net.small {w : World} {p : Nat} {o : Option Nat} {l : List Msg} {most : Int} (h : Net w p o l most) : l.length ≤ 1024 := by
  have h1 := h.most2
  have h2 := h.len
  omega
theorem ready_ok (w : World) (p : Nat) (o : Option Nat) (l : List Msg) (most : Int) (h : Net w p o l most) :
    Calls Try.prog 17 #[.pointer (some ⟨p, 0, none⟩)] w fun e w' => ∃ v', e = .returned v' ∧ Msgs w' v' l ∧ Mod (fun _ => False) w w' ∧ ∀ g, ownOf v' = some g → w.heap.size ≤ g := by
  obtain ⟨v, hb, hms, _⟩ := h.ex
  have hc0 : w.cell? ⟨p, 0, none⟩ = some v := cell_of w hb 0
  have hsm := h.small
  go_enter Try.func17, Try.ntmps17
  go_wp2_with fail
  refine (none_ok _ p o l most h).mono ?_
  rintro e w1 ⟨rfl, rfl⟩
  go_wp2_with fail
  refine (clone_ok _ v l hms (by omega)).mono ?_
  rintro e w2 ⟨v', rfl, h1, h2, h3⟩
  go_wp2
  go_ret
  exact ⟨_, rfl, h1, h2, h3⟩

theorem copy_nil (w : World) : Calls Try.prog 26 #[.pointer none] w fun e w' => e = .returned (.pointer none) ∧ w' = w := by
  go_enter Try.func26, Try.ntmps26
  go_wp2_with fail
  refine (none_nil _).mono ?_
  rintro e w1 ⟨rfl, rfl⟩
  go_wp2
  go_ret
  exact ⟨rfl, rfl⟩
section
attribute [local go_sem] heap_drew blk_past cell_past free_past
theorem copy_ok (w : World) (p : Nat) (o : Option Nat) (l : List Msg) (most : Int) (h : Net w p o l most) :
    Calls Try.prog 26 #[.pointer (some ⟨p, 0, none⟩)] w fun e w' => ∃ p' o', e = .returned (.pointer (some ⟨p', 0, none⟩)) ∧ Net w' p' o' l most ∧ Mod (fun _ => False) w w' ∧ w.heap.size ≤ p' ∧ ∀ g, o' = some g → w.heap.size ≤ g := by
  obtain ⟨v, hb, hms, _⟩ := h.ex
  have hc1 : w.cell? ⟨p, 1, none⟩ = some (.int .i64 most) := cell_of w hb 1
  go_enter Try.func26, Try.ntmps26
  go_wp2_with fail
  refine (none_ok _ p o l most h).mono ?_
  rintro e w1 ⟨rfl, rfl⟩
  go_upto_region 3 with fail
  go_cut [2] (fun v2 wx => ∃ p' o', v2 = .pointer (some ⟨p', 0, none⟩) ∧ Net wx p' o' l most ∧ Mod (fun _ => False) w1 wx ∧ w1.heap.size ≤ p' ∧ ∀ g, o' = some g → w1.heap.size ≤ g)
  case first =>
    go_region_held3 (fun w' => Mod (fun _ => False) w1 w' ∧ w'.cell? ⟨p, 1, none⟩ = some (.int .i64 most)) ((go_split_ands; refine keep1 hc1 ?_; (repeat first | exact Mod.refl _ _ | assumption | apply Mod.drew | apply Mod.drewN | apply Mod.alloc | (refine Mod.setCell ?_ (Or.inr (by (first | (with_reducible exact Nat.le_refl _) | ((try simp only [World.size_alloc, World.size_setCell, World.size_drew] at *); omega)))) _) | (refine Mod.trans ?_ (by assumption)))))
      ((go_at_call 17; refine (ready_ok _ p o l most (h.keep (S := fun _ => False) (by go_split_ands; (repeat first | exact Mod.refl _ _ | assumption | apply Mod.drew | apply Mod.drewN | apply Mod.alloc | (refine Mod.setCell ?_ (Or.inr (by (first | (with_reducible exact Nat.le_refl _) | ((try simp only [World.size_alloc, World.size_setCell, World.size_drew] at *); omega)))) _) | (refine Mod.trans ?_ (by assumption)))) (fun x => x) (fun _ _ x => x))).mono ?_; rintro e w2 ⟨v', rfl, hms2, hmo2, hov2⟩; obtain ⟨q', c', rfl, _⟩ := hms2.row.form))
    go_wp2_with fail
    go_split_ands
    go_meet
    case rel =>
      have hs2 := hmo2.size
      simp only [World.size_drew] at hs2 hov2
      exact ⟨_, _, rfl, ⟨⟨_, blk_new _ _, hms2.keep ((Mod.refl (fun _ => False) _).alloc _) (fun _ _ x => x), rfl⟩, h.most1, h.most2, h.len⟩, by assumption, hs2, hov2⟩
  case rest =>
    obtain ⟨p', o', rfl, h1, h2, h3, h4⟩ := hcut
    go_wp2
    go_ret
    exact ⟨p', o', rfl, h1, h2, h3, h4⟩
end
end Go.Proofs.Ytklokcndhkhdmaa
