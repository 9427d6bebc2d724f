/- To of no net. -/
import Derived.RangeFuncNested
import Derived.RangeFuncBound
import Derived.RangeFuncCalls
import Derived.RangeFuncLeaves
import Derived.Shelf.Abstract
import Derived.Shelf.RegionOpen
import Derived.WalkKit
import Derived.OwnWalkIn
import Derived.TacticsInMore
import Derived.LoopNIn
import Derived.LoopIn
import Derived.Test.YtklokcndhkhdmaaNetO
namespace Go.Proofs.Ytklokcndhkhdmaa
open Go.RowKit Go.Shelf
set_option linter.unusedVariables false
set_option linter.unusedSimpArgs false

section
attribute [local go_sem] Oper.semAt_some
attribute [-go_sem] Instr.loadAt Instr.buildSlice Instr.storeAt
attribute [local go_sem 500] run_loadAt_open run_storeAt_open
attribute [local go_sem] heap_drew blk_past cell_past free_past cellsAt old_alloc rowOf
attribute [local go_sem ↓] blk_new
attribute [local go_sem] World.setRow_alloc_new cells_0 cells_1 cells_2 cells_3 cells_g2
attribute [local go_sem 2000] load26 build_one build_none store26

set_option maxRecDepth 100000 in
set_option maxHeartbeats 4000000 in
theorem all1_nil (N : Nat) (hN : 1 ≤ N) (l0 bp bn : Nat) (J Jx : List FMsg → World → Prop) (W : World)
    (hP : W.heap[bp]? = some (.cells #[.pointer none] 35 (0, 0))) (h0 : J [] W) :
    CallsIn Fence.wide N Try.prog 35 #[.func (.yield l0) #[] #[], .pointer (some ⟨bp, 0, none⟩), .pointer (some ⟨bn, 0, none⟩)] W fun e W' => (∃ v, e = .returned v) ∧
      ((∃ ys : List FMsg, ys = [] ∧ J ys W') ∨ (∃ pre, True ∧ Jx pre W')) := by
  have hP0 : W.cell? ⟨bp, 0, none⟩ = some (.pointer none) := cell_of W hP 0
  refine callsIn_of_wp Try.func35 rfl trivial ?_ rfl
  simp only [Try.ntmps35, List.size_toArray, List.length_cons, List.length_nil, Nat.reduceAdd, Nat.reduceSub, Array.replicate_succ, Array.replicate_zero, List.push_toArray, List.append_toArray, List.nil_append, List.cons_append]
  refine wpIn_scope_straight ?_
  gi_wp2_with (first
    | (refine ⟨trivial, ?_⟩; gi_at_call 30; refine (callsIn_wide.2 (none_nil _)).mono ?_; rintro e w1 ⟨rfl, rfl⟩)
    | refine wpIn_label ?_)
  rw [Exit.noGoto_ret]
  exact bodyPost_ret (results_none rfl _ _ _) rfl ⟨⟨_, rfl⟩, .inl ⟨[], rfl, h0⟩⟩

set_option maxRecDepth 100000 in
set_option maxHeartbeats 4000000 in
theorem to_nil (w : World) (n : Int) :
    Calls Try.prog 25 #[.pointer none, .int .i64 n] w fun e w' => ∃ v', e = .returned v' ∧ Msgs w' v' [] ∧ Mod (fun _ => False) w w' := by
  refine (callsIn_wide (n := 3)).1 ?_
  refine callsIn_of_wp_marks Try.func25 rfl trivial ?_ rfl
  simp only [Try.ntmps25, List.size_toArray, List.length_cons, List.length_nil, Nat.reduceAdd, Nat.reduceSub, Array.replicate_succ, Array.replicate_zero, List.push_toArray, List.append_toArray, List.nil_append, List.cons_append]
  gi_wp2_with (refine ⟨trivial, ?_⟩; gi_at_call 33; refine (callsIn_wide.2 (all_ok _ _ _)).mono ?_; rintro e w' ⟨rfl, rfl⟩)
  have hall := allocs3 w (Obj.cells #[Value.slice none 0 0] 38) (Obj.cells #[Value.pointer none] 35) (Obj.cells #[Value.int IntKind.i64 n] 3)
  have hsz : (((w.alloc (Obj.cells #[Value.slice none 0 0] 38)).alloc (Obj.cells #[Value.pointer none] 35)).alloc (Obj.cells #[Value.int IntKind.i64 n] 3)).heap.size = w.heap.size + 3 := by simp
  obtain ⟨ob, hob⟩ : ∃ ob, ob = w.heap.size := ⟨_, rfl⟩
  rw [← hob] at hall hsz ⊢
  generalize ((w.alloc (Obj.cells #[Value.slice none 0 0] 38)).alloc (Obj.cells #[Value.pointer none] 35)).alloc (Obj.cells #[Value.int IntKind.i64 n] 3) = W0 at hall hsz ⊢
  obtain ⟨hO, hP, hQ, hm0⟩ := hall
  have hB0 : Below ob w W0 := by rw [hob]; exact hm0.below
  have hob1 : ob ≤ w.heap.size := by omega
  have hob2 : w.heap.size ≤ ob := by omega
  clear hob
  have hseq : SeqStopsK Fence.wide 2 Try.prog 35 #[.pointer (some ⟨ob + 1, 0, none⟩), .pointer (some ⟨ob + 1 + 1, 0, none⟩)] (fun x : FMsg => #[Value.agg x.1.cells.toArray]) (Kept W0.heap.size ob) (fun ys => ys = []) (fun _ => True) 0 W0 := by
    intro l0 J Jx W hW hJ hJx hY h0
    have hmW : Mod (fun _ => False) W0 W := Mod.of_below hW
    exact all1_nil 2 (by omega) l0 (ob + 1) (ob + 1 + 1) J Jx W (hmW.at hP (fun x => x)) h0
  refine wpIn_rangeFunc_ownH (w0 := W0) rfl (by omega) (gf := 35) rfl trivial (enters_of Try.func35 (by kernel_rfl) rfl) hseq Kept.trans (fun W l o o' hl _ _ _ => Kept.put W l o' hl) (Below.refl _ _) (fun _ => rfl)
    (fun pre W => (∃ v, W.heap[ob]? = some (.cells #[v] 38 (0, 0)) ∧ Msgs W v (pre.map (·.1)) ∧ (∀ g, ownOf v = some g → W0.heap.size ≤ g) ∧ W0.heap.size ≤ W.heap.size) ∧ Below ob w W)
    (fun _ _ _ => False) (OwnFrom.and ?hI (ownFrom_below (by omega) (by omega))) (fun _ _ _ _ _ hs _ _ => hs.elim) ⟨⟨_, hO, Msgs.empty _, by simp [ownOf], Nat.le_refl _⟩, hB0⟩
    (fun x a' W => ∃ Bx, ob < Bx ∧ W.heap[Bx]? = some (.cells x.1.cells.toArray 26 (0, 0)) ∧ a' = { tmps := #[.pointer none, .int .i64 n, undef, undef, .slice none 0 0, .pointer (some ⟨ob, 0, none⟩), .pointer (some ⟨Bx, 0, none⟩), .pointer none, .int .i64 n, .func (.func 35) #[] #[.pointer (some ⟨ob + 1, 0, none⟩), .pointer (some ⟨ob + 1 + 1, 0, none⟩)], .agg x.1.cells.toArray, undef, undef, undef, undef, undef], defers := [] })
    ?hAx ?assign ?body ?done ?stop
  case hI =>
    intro s A B row hs hg hr
    obtain ⟨v, h1, h2, h3, h4⟩ := hs
    have hm : Mod (fun k => row = some k) A B := Mod.of_grown hg
    have hnc : ∀ k cs t fr, A.heap[k]? = some (.cells cs t fr) → ¬ row = some k := by
      intro k cs t fr hk hrow
      obtain ⟨_, o', ho1, ho2⟩ := hr k hrow
      rw [hk] at ho1
      cases ho1
      cases ho2
    refine ⟨v, hm.at h1 (hnc _ _ _ _ h1), h2.keep hm (fun g hg' => ?_), h3, Nat.le_trans h4 hm.size⟩
    obtain ⟨cap, cur, _, hb, _⟩ := h2.row.block hg'
    exact hnc _ _ _ _ hb
  case hAx =>
    intro x a' s A B row hs hg hr
    obtain ⟨Bx, h1, h2, h3⟩ := hs
    have hm : Mod (fun k => row = some k) A B := Mod.of_grown hg
    refine ⟨Bx, h1, hm.at h2 ?_, h3⟩
    intro hrow
    obtain ⟨_, o', ho1, ho2⟩ := hr _ hrow
    rw [h2] at ho1
    cases ho1
    cases ho2
  case assign =>
    rintro l1 pre x W K ⟨⟨v, h1, h2, h3, h4⟩, hB⟩ hK
    have hcl := cells_length x.1 x.2
    have hone : x.1.cells.all (·.oneCell') = true := List.all_eq_true.2 (fun v hv => cells_one x.1 v hv)
    have hW : ob ≤ W.heap.size := by have := hB.size; omega
    have hobW : ob < W.heap.size := lt_of_block h1
    have hmA : Mod (fun _ => False) W (W.alloc (Obj.cells x.1.cells.toArray 26)) := (Mod.refl _ _).alloc _
    have hx1 := Lib.hid h1
    clear h1
    gi_wp2
    exact hK _ _ ((KeepsOthers.alloc _ _).from _) (Kept.of_mod hmA h4 (fun _ _ f => f.elim)) ⟨⟨v, blk_old _ _ hx1.out, h2.keep hmA (fun _ _ f => f), h3, Nat.le_trans h4 hmA.size⟩, hB.alloc hW _⟩ ⟨W.heap.size, hobW, blk_new _ _, rfl⟩
  case body =>
    rintro l1 pre x a' W hl1 ⟨rr, hrr⟩ ⟨⟨v, h1, h2, h3, h4⟩, hB⟩ ⟨Bx, hBx, hbx, rfl⟩ hpl
    exact absurd hpl (Nat.not_lt_zero _)
  case done =>
    rintro D ys W hD hys ⟨⟨v, h1, h2, h3, h4⟩, hB⟩ hK
    have hc0 : W.cell? ⟨ob, 0, none⟩ = some v := cell_of W h1 0
    obtain ⟨q, c, hvq, _⟩ := h2.len
    subst hys
    simp only [List.map_nil, List.length_nil] at h2 hvq
    subst hvq
    gi_wp2
    have hg := grownBy_putObj' W D (.deferred none)
    have hmD : Mod (fun k => some D = some k) W (W.putObj D (.deferred none)) := Mod.of_grown hg
    have hobe : ob = w.heap.size := by omega
    have hmz : Mod (fun _ => False) w W := Mod.of_below (by rw [← hobe]; exact hB)
    have hmsf := h2.keep hmD (fun g hg2 hh => by
      obtain ⟨cap, cur, _, hb, _⟩ := h2.row.block hg2
      cases hh
      rw [hK] at hb
      cases hb)
    have hmf := hmz.trans' hmD (fun i hi hh => by cases hh; omega)
    refine ⟨by simp, .inl ⟨_, _, rfl, run_takeDeferred hK, ?_⟩⟩
    exact ⟨_, results_tmp rfl _ _ _, .slice q 0 c, rfl, hmsf, hmf⟩
  case stop =>
    rintro D c pre W _ _ h _
    exact h.elim
end
end Go.Proofs.Ytklokcndhkhdmaa
