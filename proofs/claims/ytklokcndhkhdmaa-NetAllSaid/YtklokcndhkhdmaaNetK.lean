/- counted; the document's net: Send, Deliver. -/
import Derived.Test.YtklokcndhkhdmaaNetJ
import Derived.Test.YtklokcndhkhdmaaNetI
namespace Go.Proofs.Ytklokcndhkhdmaa
open Go.RowKit
set_option linter.unusedVariables false
set_option linter.unusedSimpArgs false

section
attribute [-go_sem] Instr.loadAt
attribute [local go_sem 500] run_loadAt_open
attribute [local go_sem] heap_drew
set_option maxHeartbeats 1000000 in
theorem counted_ok (w : World) (v : Value) (l : List Msg) (m : Msg) (h : Msgs w v l) (hm : m.Fits) (hl : l.length ≤ 1000000) :
    Calls Try.prog 20 #[v, .agg m.cells.toArray] w fun e w' => e = .returned (.int .i64 (l.count m)) ∧ Mod (fun _ => False) w w' := by
  obtain ⟨q, c, hv, hc⟩ := h.len
  rw [hv]
  go_enter Try.func20, Try.ntmps20
  go_wp2_with fail
  have hm0 : Mod (fun _ => False) w (w.alloc (Obj.cells m.cells.toArray 26)) := (Mod.refl _ _).alloc _
  have hb := blk_new w (Obj.cells m.cells.toArray 26)
  generalize hw0 : w.alloc (Obj.cells m.cells.toArray 26) = w0 at hm0 hb ⊢
  generalize w.heap.size = b at hb ⊢
  clear hw0
  have hb0 : w0.rangeAt b 0 m.cells := fun j v hv => by rw [Nat.zero_add, cell_of w0 hb]; simpa using hv
  replace h := h.keep hm0 (fun _ _ x => x)
  clear hb
  go_loopw [5, 6] (fun n i wr => ∃ j : Nat, j ≤ l.length ∧ n = .int .i64 ((l.take j).count m) ∧ i = .int .i64 j ∧ Mod (fun _ => False) w0 wr) (fun _ i _ => l.length - (intOf i).toNat)
  case atStart => exact ⟨0, by omega, rfl, rfl, Mod.refl _ _⟩
  case round =>
    obtain ⟨j, hj, rfl, rfl, hmo⟩ := hrel
    have hcn : (l.take j).count m ≤ j := Nat.le_trans List.count_le_length (by simp; omega)
    by_cases hlt : j < l.length
    · obtain ⟨g, cap, x, hv1, hx, hxf, hxr, -, hc1⟩ := (h.keep hmo (fun _ _ x => x)).at hlt
      rw [hv] at hv1
      simp only [Value.slice.injEq, true_and] at hv1
      obtain ⟨rfl, rfl⟩ := hv1
      have hj0 : (0 : Int) ≤ (j : Int) := by omega
      have hja : (j : Int) < (l.length : Int) := by omega
      have hl1 := load_msg_at x hxf g (j * 20)
      have hl2 := load_msg_at m hm b 0
      have hbr := hmo.range hb0 (fun x => x)
      have heq := eql_msg (x := x) (y := m) (hx := hxf) (hy := hm)
      obtain ⟨be, hbe⟩ : ∃ be, (decide (x = m)) = be := ⟨_, rfl⟩
      rw [hbe] at heq
      go_upto_region 5 with fail
      go_cut [18] (fun v18 wx => v18 = .bool be ∧ Mod (fun _ => False) wr wx)
      case first =>
        go_region_held3 (fun w' => Mod (fun _ => False) wr w' ∧ w'.rangeAt g (j * 20) x.cells ∧ w'.rangeAt b 0 m.cells) ((go_split_ands; refine keepRR hxr hbr ?_; (repeat first | exact Mod.refl _ _ | assumption | apply Mod.drew | apply Mod.drewN | apply Mod.alloc | (refine Mod.setCell ?_ (Or.inr (by (first | (with_reducible exact Nat.le_refl _) | ((try simp only [World.size_alloc, World.size_setCell, World.size_drew] at *); omega)))) _) | (refine Mod.trans ?_ (by assumption))))) (fail)
        go_wp2_with fail
        go_split_ands
        go_meet
        case rel => exact ⟨rfl, by assumption⟩
      case rest =>
        obtain ⟨rfl, hmx⟩ := hcut
        clear heq hl1 hl2
        have ht : (l.take (j + 1)).count m = (l.take j).count m + (if be then 1 else 0) := by
          rw [List.take_add_one, hx, List.count_append, ← hbe]
          simp [List.count_singleton]
        generalize (l.take j).count m = n at *
        cases be
        · go_wp2_with fail
          go_roundw
          case rel => exact ⟨j + 1, by omega, by rw [ht]; simp, by go_num, hmo.trans hmx⟩
          case measure => simp [intOf]; omega
        · go_wp2_with fail
          go_roundw
          case rel => exact ⟨j + 1, by omega, by rw [ht]; go_num, by go_num, hmo.trans hmx⟩
          case measure => simp [intOf]; omega
    · obtain rfl : j = l.length := by omega
      rw [List.take_of_length_le (by omega)]
      go_wp2
      go_ret
      exact ⟨rfl, hm0.trans hmo⟩
end
end Go.Proofs.Ytklokcndhkhdmaa
