/- The document's net: Deliver of none; To. -/
import Derived.Test.YtklokcndhkhdmaaNetM
namespace Go.Proofs.Ytklokcndhkhdmaa
open Go.RowKit
set_option linter.unusedVariables false
set_option linter.unusedSimpArgs false

section
attribute [-go_sem] Instr.loadAt Instr.buildSlice Instr.storeAt Instr.build
attribute [local go_sem 500] run_loadAt_open run_storeAt_open
attribute [local go_sem] heap_drew blk_past cell_past free_past cellsAt old_alloc
attribute [local go_sem 2000] load26 build_one build_none store26 build_Z
attribute [local go_sem ↓] Go.wp_at_zero Go.wp_at_succ
set_option maxHeartbeats 1000000 in
theorem refdel_none (w : World) (v : Value) (most pick : Int) (h : Msgs w v []) :
    Calls Try.prog 24 #[.agg #[.int .i64 most, v], .int .i64 pick] w fun e w' => e = .returned (.tuple #[.agg #[.int .i64 most, v], .agg zeroMsg.cells.toArray, .bool false]) ∧ Msgs w' v [] ∧ Mod (fun _ => False) w w' := by
  obtain ⟨q, c, hv, hc⟩ := h.len
  rw [hv]
  go_enter Try.func24, Try.ntmps24
  go_upto_region 1 with fail
  rw [← zeroMsg_cells]
  have hall := allocs3 w (Obj.cells #[Value.int IntKind.i64 most, Value.slice q ([] : List Msg).length c] 49) (Obj.cells #[Value.int IntKind.i64 0, Value.slice none 0 0] 49) (Obj.cells zeroMsg.cells.toArray 26)
  obtain ⟨N, hN⟩ : ∃ N, N = w.heap.size := ⟨_, rfl⟩
  rw [← hN] at hall ⊢
  simp only [List.length_nil] at hall hv ⊢
  generalize ((w.alloc (Obj.cells #[Value.int IntKind.i64 most, Value.slice q 0 c] 49)).alloc (Obj.cells #[Value.int IntKind.i64 0, Value.slice none 0 0] 49)).alloc (Obj.cells zeroMsg.cells.toArray 26) = w0 at *
  generalize hNR : N + 1 = R at *
  generalize hNK : R + 1 = K at *
  have hNw : w.heap.size ≤ N := by omega
  have hR1 : N < R := by omega
  have hK1 : R < K := by omega
  clear hN hNR hNK
  obtain ⟨hbN, hbR, hbK, hm0⟩ := hall
  have hms := h.keep hm0 (fun _ _ x => x)
  rw [hv] at hms
  have n0 : w0.cell? ⟨N, 0, none⟩ = some (.int .i64 most) := cell_of w0 hbN 0
  have n1 : w0.cell? ⟨N, 1, none⟩ = some (.slice q 0 c) := cell_of w0 hbN 1
  have r0 : w0.cell? ⟨R, 0, none⟩ = some (.int .i64 0) := cell_of w0 hbR 0
  have r1 : w0.cell? ⟨R, 1, none⟩ = some (.slice none 0 0) := cell_of w0 hbR 1
  have rf0 : w0.frozen? ⟨R, 0, none⟩ = false := free_of w0 hbR 0
  have rf1 : w0.frozen? ⟨R, 1, none⟩ = false := free_of w0 hbR 1
  have hrK : rowOf w0 K = some 20 := rowOf_of hbK
  have hrK2 : ∀ x y, rowOf ((w0.setCell ⟨R, 0, none⟩ x).setCell ⟨R, 1, none⟩ y) K = some 20 := fun x y => rowOf_setCell (show K ≠ R by omega) (rowOf_setCell (show K ≠ R by omega) hrK)
  have hall2 : zeroMsg.cells.all (·.oneCell') = true := List.all_eq_true.2 (fun v hv => cells_one zeroMsg v hv)
  have hzl : zeroMsg.cells.length = 20 := rfl
  go_wp2
  have hR2 : (((w0.setCell ⟨R, 0, none⟩ (.int .i64 most)).setCell ⟨R, 1, none⟩ (.slice q 0 c)).setRow K zeroMsg.cells.toArray).heap[R]? = some (.cells #[.int .i64 most, .slice q 0 c] 49 (0, 0)) := by
    rw [setRow_other _ K R _ (by omega)]
    exact two_set hbR
  have hK3 : ((w0.setCell ⟨R, 0, none⟩ (.int .i64 most)).setCell ⟨R, 1, none⟩ (.slice q 0 c)).heap[K]? = some (.cells zeroMsg.cells.toArray 26 (0, 0)) := by
    rw [Below.heap_setCell _ _ _ _ (show K ≠ R by omega), Below.heap_setCell _ _ _ _ (show K ≠ R by omega)]
    exact hbK
  have hm2 : Mod (fun k => k = R ∨ k = K) w0 (((w0.setCell ⟨R, 0, none⟩ (.int .i64 most)).setCell ⟨R, 1, none⟩ (.slice q 0 c)).setRow K zeroMsg.cells.toArray) := (((Mod.refl _ _).setCell (.inl (.inl rfl)) _).setCell (.inl (.inl rfl)) _).setRow (.inl (.inr rfl)) _
  have hown : ∀ b, ownOf (.slice q 0 c) = some b → ¬ (b = R ∨ b = K) := by
    intro b hb hh
    have := h.row.lt (hv ▸ hb)
    omega
  exact refdel_ret zeroMsg_fits rfl rfl rfl rfl hR2 (setRow_heap _ K _ _ _ _ hK3) ⟨rfl, hms.keep hm2 hown, hm0.trans' hm2 (by rintro i hi (rfl | rfl) <;> omega)⟩

/-- The messages to a node. -/
def toNode (l : List Msg) (n : Int) : List Msg := l.filter (fun m => m.to == n)
theorem toNode_fits {l : List Msg} (h : ∀ m ∈ l, m.Fits) (n : Int) : ∀ m ∈ toNode l n, m.Fits := fun m hm => h m (List.mem_filter.1 hm).1
set_option maxHeartbeats 1000000 in
theorem refto_ok (w : World) (v : Value) (l : List Msg) (most n : Int) (h : Msgs w v l) (hl : l.length ≤ 1000000) :
    Calls Try.prog 32 #[.agg #[.int .i64 most, v], .int .i64 n] w fun e w' => ∃ v', e = .returned v' ∧ Msgs w' v' (toNode l n) ∧ Mod (fun _ => False) w w' ∧ ∀ g, ownOf v' = some g → w.heap.size ≤ g := by
  obtain ⟨q, c, hv, hc⟩ := h.len
  rw [hv]
  go_enter Try.func32, Try.ntmps32
  go_wp2_with fail
  have hm0 : Mod (fun _ => False) w (w.alloc (Obj.cells #[Value.int IntKind.i64 most, Value.slice q l.length c] 49)) := (Mod.refl _ _).alloc _
  have hb := blk_new w (Obj.cells #[Value.int IntKind.i64 most, Value.slice q l.length c] 49)
  generalize hw0 : w.alloc (Obj.cells #[Value.int IntKind.i64 most, Value.slice q l.length c] 49) = w0 at hm0 hb ⊢
  obtain ⟨N, hN⟩ : ∃ N, N = w.heap.size := ⟨_, rfl⟩
  rw [← hN] at hb ⊢
  have hNw : w.heap.size ≤ N := by omega
  clear hw0 hN
  replace h := h.keep hm0 (fun _ _ x => x)
  rw [hv] at h
  have hN0 : N < w0.heap.size := lt_of_block hb
  go_loopw [5, 6] (fun out i wr => ∃ j : Nat, j ≤ l.length ∧ i = .int .i64 j ∧ Msgs wr out (toNode (l.take j) n) ∧ Mod (fun _ => False) w0 wr ∧ ∀ g, ownOf out = some g → w0.heap.size ≤ g) (fun _ i _ => l.length - (intOf i).toNat)
  case atStart => exact ⟨0, by omega, rfl, Msgs.empty _, Mod.refl _ _, by simp [ownOf]⟩
  case round =>
    obtain ⟨j, hj, rfl, hout, hmo, hown⟩ := hrel
    obtain ⟨qo, co, hvo, _⟩ := hout.len
    subst hvo
    have hbr := hmo.at hb (fun x => x)
    have n1 : wr.cell? ⟨N, 1, none⟩ = some (.slice q l.length c) := cell_of wr hbr 1
    have hNo : Old wr N := lt_of_block hbr
    have hmr := h.keep hmo (fun _ _ x => x)
    have htn : (toNode (l.take j) n).length ≤ j := by
      have h1 := List.length_filter_le (fun m => m.to == n) (l.take j)
      have h2 := List.length_take_le j l
      unfold toNode; omega
    by_cases hlt : j < l.length
    · obtain ⟨g, cap, x, hv1, hx, hxf, hxr, -, hc1⟩ := hmr.at hlt
      simp only [Value.slice.injEq, true_and] at hv1
      obtain ⟨rfl, rfl⟩ := hv1
      have hj0 : (0 : Int) ≤ (j : Int) := by omega
      have hja : (j : Int) < (l.length : Int) := by omega
      have hx2 : wr.cell? ⟨g, j * 20 + 2, none⟩ = some (.int .i64 x.to) := by
        have := hxr 2 _ (cells_2 x)
        exact this
      have hxc := cells_length x hxf
      have hlx := load_msg_at x hxf g (j * 20) wr hxr
      have ht : toNode (l.take (j + 1)) n = toNode (l.take j) n ++ (if x.to == n then [x] else []) := by
        unfold toNode
        rw [List.take_add_one, hx]
        simp [List.filter_append, List.filter_cons]
      cases hxn : (x.to == n) with
      | false =>
        rw [hxn] at ht
        go_wp2_with fail
        go_roundw
        case rel => exact ⟨j + 1, by omega, by go_num, by rw [ht]; simpa using hout, hmo, hown⟩
        case measure => simp [intOf]; omega
      | true =>
        rw [hxn] at ht
        have hs0 := hmo.size
        go_wp2_with (first
          | (at_builtin; refine wpL_msgs rfl _ _ rfl rfl (.slice qo (toNode (l.take j) n).length co) (.slice (some ⟨wr.heap.size, 0, none⟩) 1 1) rfl rfl (toNode (l.take j) n) [x] (hout.keep (S := fun _ => False) (by (repeat first | exact Mod.refl _ _ | assumption | apply Mod.drew | apply Mod.drewN | apply Mod.alloc | (refine Mod.setCell ?_ (Or.inr (by (first | (with_reducible exact Nat.le_refl _) | ((try simp only [World.size_alloc, World.size_setCell, World.size_drew] at *); omega)))) _) | (refine Mod.trans ?_ (by assumption)))) (fun _ _ x => x)) (by simpa using hxf) (Src.msg (blk_new _ _) hxf) (by simp; omega) ?_; intro v' w4 hms4 hmo4 hov4))
        go_roundw
        case rel =>
          have hm4 : Mod (fun _ => False) w0 w4 := Mod.trans' (by (repeat first | exact Mod.refl _ _ | assumption | apply Mod.drew | apply Mod.drewN | apply Mod.alloc | (refine Mod.setCell ?_ (Or.inr (by (first | (with_reducible exact Nat.le_refl _) | ((try simp only [World.size_alloc, World.size_setCell, World.size_drew] at *); omega)))) _) | (refine Mod.trans ?_ (by assumption)))) hmo4 (by intro i hi1 hi; have := hown i hi; omega)
          refine ⟨j + 1, by omega, by go_num, by rw [ht]; exact hms4, hm4, ?_⟩
          intro b hb'
          rcases hov4 b hb' with h1 | h1
          · exact hown b h1
          · simp only [World.size_alloc] at h1; omega
        case measure => simp [intOf]; omega
    · obtain rfl : j = l.length := by omega
      rw [List.take_of_length_le (by omega)] at hout
      go_wp2
      go_ret
      exact ⟨_, rfl, by simpa using hout, hm0.trans hmo, fun g hg => Nat.le_trans hm0.size (hown g hg)⟩
end
end Go.Proofs.Ytklokcndhkhdmaa
