/- is: a net has just these messages, in all its ways. -/
import Derived.Test.YtklokcndhkhdmaaNetO
namespace Go.Proofs.Ytklokcndhkhdmaa
open Go.RowKit
set_option linter.unusedVariables false
set_option linter.unusedSimpArgs false

theorem keep2 {w0 w' : World} {a b : Addr} {va vb : Value} (h1 : w0.cell? a = some va) (h2 : w0.cell? b = some vb) (h : Mod (fun _ => False) w0 w') :
    Mod (fun _ => False) w0 w' ∧ w'.cell? a = some va ∧ w'.cell? b = some vb := ⟨h, h.cell h1 (fun x => x), h.cell h2 (fun x => x)⟩
section
attribute [local go_sem] heap_drew blk_past cell_past free_past
set_option maxHeartbeats 4000000 in
theorem is_ok (w : World) (p : Nat) (o : Option Nat) (l : List Msg) (most mm : Int) (v : Value) (h : Net w p o l most) (hv : Msgs w v l) :
    Calls Try.prog 22 #[.pointer (some ⟨p, 0, none⟩), .agg #[.int .i64 mm, v]] w fun e w' => e = .returned (.bool true) ∧ Mod (fun _ => False) w w' := by
  have hsm := h.small
  obtain ⟨q, c, hvq, _⟩ := hv.len
  rw [hvq]
  go_enter Try.func22, Try.ntmps22
  go_wp2_with fail
  have hm0 : Mod (fun _ => False) w (w.alloc (Obj.cells #[Value.int IntKind.i64 mm, Value.slice q l.length c] 49)) := (Mod.refl _ _).alloc _
  have hb := blk_new w (Obj.cells #[Value.int IntKind.i64 mm, Value.slice q l.length c] 49)
  generalize w.alloc (Obj.cells #[Value.int IntKind.i64 mm, Value.slice q l.length c] 49) = w0 at hm0 hb ⊢
  generalize w.heap.size = N at hb ⊢
  replace h := h.keep hm0 (fun x => x) (fun _ _ x => x)
  replace hv := hv.keep hm0 (fun _ _ x => x)
  rw [hvq] at hv
  have c0 : w0.cell? ⟨N, 0, none⟩ = some (.int .i64 mm) := cell_of w0 hb 0
  have c1 : w0.cell? ⟨N, 1, none⟩ = some (.slice q l.length c) := cell_of w0 hb 1
  clear hb
  go_loopw [5] (fun i wr => ∃ j : Nat, j ≤ 7 ∧ i = .int .i64 ((j : Int) - 1) ∧ Mod (fun _ => False) w0 wr) (fun i _ => 7 - (intOf i + 1).toNat)
  case atStart => exact ⟨0, by omega, rfl, Mod.refl _ _⟩
  case round =>
    obtain ⟨j, hj, rfl, hmo⟩ := hrel
    by_cases hlt : j < 7
    · have hle : (j : Int) - 1 ≤ 5 := by omega
      have hr := h.keep hmo (fun x => x) (fun _ _ x => x)
      have hvr := hv.keep hmo (fun _ _ x => x)
      have d0 := hmo.cell c0 (fun x => x)
      have d1 := hmo.cell c1 (fun x => x)
      go_upto_region 4 with fail
      go_cut [17] (fun v17 wx => v17 = .bool false ∧ Mod (fun _ => False) wr wx)
      case first =>
        go_region_held3 (fun w' => Mod (fun _ => False) wr w' ∧ w'.cell? ⟨N, 0, none⟩ = some (.int .i64 mm) ∧ w'.cell? ⟨N, 1, none⟩ = some (.slice q l.length c)) ((go_split_ands; refine keep2 d0 d1 ?_; (repeat first | exact Mod.refl _ _ | assumption | apply Mod.drew | apply Mod.drewN | apply Mod.alloc | (refine Mod.setCell ?_ (Or.inr (by (first | (with_reducible exact Nat.le_refl _) | ((try simp only [World.size_alloc, World.size_setCell, World.size_drew] at *); omega)))) _) | (refine Mod.trans ?_ (by assumption)))))
          ((first
            | (go_at_call 25; refine (to_ok _ p o l most _ (hr.keep (S := fun _ => False) (by go_split_ands; (repeat first | exact Mod.refl _ _ | assumption | apply Mod.drew | apply Mod.drewN | apply Mod.alloc | (refine Mod.setCell ?_ (Or.inr (by (first | (with_reducible exact Nat.le_refl _) | ((try simp only [World.size_alloc, World.size_setCell, World.size_drew] at *); omega)))) _) | (refine Mod.trans ?_ (by assumption)))) (fun x => x) (fun _ _ x => x))).mono ?_; rintro e wa ⟨va, rfl, hmsa, hma, hova⟩)
            | (go_at_call 32; refine (refto_ok _ _ l mm _ (hvr.keep (S := fun _ => False) (by go_split_ands; (repeat first | exact Mod.refl _ _ | assumption | apply Mod.drew | apply Mod.drewN | apply Mod.alloc | (refine Mod.setCell ?_ (Or.inr (by (first | (with_reducible exact Nat.le_refl _) | ((try simp only [World.size_alloc, World.size_setCell, World.size_drew] at *); omega)))) _) | (refine Mod.trans ?_ (by assumption)))) (fun _ _ x => x)) (by omega)).mono ?_; rintro e wb ⟨vb, rfl, hmsb, hmb, hovb⟩)
            | (go_at_call 18; refine (refsame_ok _ _ _ (toNode l ((j : Int) - 1)) (toNode l ((j : Int) - 1)) (hmsa.keep (S := fun _ => False) (by go_split_ands; (repeat first | exact Mod.refl _ _ | assumption | apply Mod.drew | apply Mod.drewN | apply Mod.alloc | (refine Mod.setCell ?_ (Or.inr (by (first | (with_reducible exact Nat.le_refl _) | ((try simp only [World.size_alloc, World.size_setCell, World.size_drew] at *); omega)))) _) | (refine Mod.trans ?_ (by assumption)))) (fun _ _ x => x)) (hmsb.keep (S := fun _ => False) (by go_split_ands; (repeat first | exact Mod.refl _ _ | assumption | apply Mod.drew | apply Mod.drewN | apply Mod.alloc | (refine Mod.setCell ?_ (Or.inr (by (first | (with_reducible exact Nat.le_refl _) | ((try simp only [World.size_alloc, World.size_setCell, World.size_drew] at *); omega)))) _) | (refine Mod.trans ?_ (by assumption)))) (fun _ _ x => x)) (Nat.le_trans (List.length_filter_le _ _) (by omega)) (Nat.le_trans (List.length_filter_le _ _) (by omega))).mono ?_; rintro e wc2 ⟨rfl, hmc⟩)
            | fail))
        all_goals (go_wp2_with fail; go_split_ands; go_meet; case rel => exact ⟨rfl, by assumption⟩)
      case rest =>
        obtain ⟨rfl, hmx⟩ := hcut
        go_wp2_with fail
        go_roundw
        case rel => exact ⟨j + 1, by omega, by go_num, hmo.trans hmx⟩
        case measure => simp [intOf]; omega
    · obtain rfl : j = 7 := by omega
      have hr := h.keep hmo (fun x => x) (fun _ _ x => x)
      have hvr := hv.keep hmo (fun _ _ x => x)
      have d0 := hmo.cell c0 (fun x => x)
      have d1 := hmo.cell c1 (fun x => x)
      have hq : ((l.length : Int) == (l.length : Int)) = true := by simp
      go_upto_region 6 with fail
      go_cut [4] (fun v4 wx => v4 = .bool true ∧ Mod (fun _ => False) wr wx)
      case first =>
        go_region_held3 (fun w' => Mod (fun _ => False) wr w' ∧ w'.cell? ⟨N, 0, none⟩ = some (.int .i64 mm) ∧ w'.cell? ⟨N, 1, none⟩ = some (.slice q l.length c)) ((go_split_ands; refine keep2 d0 d1 ?_; (repeat first | exact Mod.refl _ _ | assumption | apply Mod.drew | apply Mod.drewN | apply Mod.alloc | (refine Mod.setCell ?_ (Or.inr (by (first | (with_reducible exact Nat.le_refl _) | ((try simp only [World.size_alloc, World.size_setCell, World.size_drew] at *); omega)))) _) | (refine Mod.trans ?_ (by assumption)))))
          ((first
            | (go_at_call 17; refine (ready_ok _ p o l most (hr.keep (S := fun _ => False) (by go_split_ands; (repeat first | exact Mod.refl _ _ | assumption | apply Mod.drew | apply Mod.drewN | apply Mod.alloc | (refine Mod.setCell ?_ (Or.inr (by (first | (with_reducible exact Nat.le_refl _) | ((try simp only [World.size_alloc, World.size_setCell, World.size_drew] at *); omega)))) _) | (refine Mod.trans ?_ (by assumption)))) (fun x => x) (fun _ _ x => x))).mono ?_; rintro e wa ⟨va, rfl, hmsa, hma, hova⟩)
            | (go_at_call 19; refine (len_ok _ p o l most (hr.keep (S := fun _ => False) (by go_split_ands; (repeat first | exact Mod.refl _ _ | assumption | apply Mod.drew | apply Mod.drewN | apply Mod.alloc | (refine Mod.setCell ?_ (Or.inr (by (first | (with_reducible exact Nat.le_refl _) | ((try simp only [World.size_alloc, World.size_setCell, World.size_drew] at *); omega)))) _) | (refine Mod.trans ?_ (by assumption)))) (fun x => x) (fun _ _ x => x))).mono ?_; rintro e wb ⟨rfl, rfl⟩)
            | (go_at_call 18; refine (refsame_ok _ _ _ l l (hmsa.keep (S := fun _ => False) (by go_split_ands; (repeat first | exact Mod.refl _ _ | assumption | apply Mod.drew | apply Mod.drewN | apply Mod.alloc | (refine Mod.setCell ?_ (Or.inr (by (first | (with_reducible exact Nat.le_refl _) | ((try simp only [World.size_alloc, World.size_setCell, World.size_drew] at *); omega)))) _) | (refine Mod.trans ?_ (by assumption)))) (fun _ _ x => x)) (hvr.keep (S := fun _ => False) (by go_split_ands; (repeat first | exact Mod.refl _ _ | assumption | apply Mod.drew | apply Mod.drewN | apply Mod.alloc | (refine Mod.setCell ?_ (Or.inr (by (first | (with_reducible exact Nat.le_refl _) | ((try simp only [World.size_alloc, World.size_setCell, World.size_drew] at *); omega)))) _) | (refine Mod.trans ?_ (by assumption)))) (fun _ _ x => x)) (by omega) (by omega)).mono ?_; rintro e wc2 ⟨rfl, hmc⟩)
            | fail))
        all_goals (go_wp2_with fail; go_split_ands; go_meet; case rel => exact ⟨rfl, by assumption⟩)
      case rest =>
        obtain ⟨rfl, hmx⟩ := hcut
        go_wp2
        go_ret
        exact ⟨rfl, (hm0.trans hmo).trans hmx⟩
end
end Go.Proofs.Ytklokcndhkhdmaa
