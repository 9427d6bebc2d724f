/- The net's To: a range over a function. -/
import Derived.RangeFuncNested
import Derived.RangeFuncBound
import Derived.RangeFuncCalls
import Derived.RangeFuncLeaves
import Derived.Shelf.Abstract
import Derived.Shelf.RegionOpen
import Derived.WalkKit
import Derived.OwnWalkIn
import Derived.TacticsInMore
import Derived.LoopNIn
import Derived.LoopIn
import Derived.Test.YtklokcndhkhdmaaNetN
import Derived.Test.YtklokcndhkhdmaaScopeIn
namespace Go.Proofs.Ytklokcndhkhdmaa
open Go.RowKit Go.Shelf
set_option linter.unusedVariables false
set_option linter.unusedSimpArgs false

/-- What a round keeps: of the blocks below n₀ all but one. -/
structure Kept (n₀ ob : Nat) (w w' : World) : Prop where
  size : w.heap.size ≤ w'.heap.size
  block : ∀ k, k < n₀ → k ≠ ob → w'.heap[k]? = w.heap[k]?
theorem Kept.refl (n₀ ob : Nat) (w : World) : Kept n₀ ob w w := ⟨Nat.le_refl _, fun _ _ _ => rfl⟩
theorem Kept.trans {n₀ ob : Nat} {a b c : World} (h : Kept n₀ ob a b) (k : Kept n₀ ob b c) : Kept n₀ ob a c := ⟨Nat.le_trans h.size k.size, fun i h1 h2 => (k.block i h1 h2).trans (h.block i h1 h2)⟩
theorem Kept.put {n₀ ob : Nat} (W : World) (l : Nat) (o' : Obj) (h : n₀ ≤ l) : Kept n₀ ob W (W.putObj l o') :=
  ⟨by simp, fun k hk _ => World.putObj_heap_other (by omega)⟩
theorem Kept.at {n₀ ob : Nat} {w w' : World} (h : Kept n₀ ob w w') {k : Nat} {o : Obj} (hk : w.heap[k]? = some o) (h1 : k < n₀) (h2 : k ≠ ob) : w'.heap[k]? = some o := by rw [h.block k h1 h2]; exact hk
theorem Kept.of_mod {n₀ ob : Nat} {S : Nat → Prop} {w w' : World} (h : Mod S w w') (hn : n₀ ≤ w.heap.size) (hs : ∀ k, k < n₀ → S k → k = ob) : Kept n₀ ob w w' :=
  ⟨h.size, fun k h1 h2 => h.block k (by omega) (fun s => h2 (hs k h1 s))⟩
theorem Net.kept {n₀ ob : Nat} {w w' : World} {p : Nat} {o : Option Nat} {l : List Msg} {most : Int} (h : Net w p o l most) (hk : Kept n₀ ob w w') (h1 : p < n₀ ∧ p ≠ ob) (h2 : ∀ g, o = some g → g < n₀ ∧ g ≠ ob) : Net w' p o l most := by
  obtain ⟨v, e1, e2, e3⟩ := h.ex
  refine ⟨⟨v, hk.at e1 h1.1 h1.2, ⟨⟨e2.row.1, ?_⟩, e2.fits⟩, e3⟩, h.most1, h.most2, h.len⟩
  rcases e2.row.2 with h0 | ⟨g', cap, cur, rfl, hg', rest⟩
  · exact .inl h0
  · have := h2 g' (e3 ▸ rfl)
    exact .inr ⟨g', cap, cur, rfl, hk.at hg' this.1 this.2, rest⟩

theorem cells_g2 (m : Msg) (h : 2 < m.cells.length) : m.cells[2] = .int .i64 m.to := rfl
/-- Messages are appended, in a plain region inside a fence. -/
theorem wpLIn_msgs {F : Fence} {nf : Nat} {ops : Array Oper} {rest : List Oper} {o : Oper} {a : Act} {w : World} {Q : Exit → Act → World → Prop} (hgd : o.guard = none) (s x : Operand)
    (ho : o.op = .call { callee := .builtin .append, args := #[s, x], argTypes := #[38, 38] }) (hty : o.type = 38) (v xv : Value) (hs : a.eval s = v) (hx : a.eval x = xv)
    (l k : List Msg) (hv : Msgs w v l) (hk : ∀ m ∈ k, m.Fits) (hsrc : Src w 20 xv k.length (flat k)) (hn : l.length + k.length ≤ 1000000000)
    (h : ∀ v' w', Msgs w' v' (l ++ k) → Mod (fun b => ownOf v = some b) w w' → (∀ b, ownOf v' = some b → ownOf v = some b ∨ w.heap.size ≤ b) → wpListIn F nf Try.prog ops Q rest (a.put o.dst v') w') :
    wpListIn F nf Try.prog ops Q (o :: rest) a w := by
  refine wpListIn_plain hgd fun K hK' => ?_
  obtain ⟨v', w', hrun, r1, r2, r3⟩ := msgs_append w v xv l k hv hk hsrc hn
  unfold Oper.wpIn
  refine ⟨?_, ?_⟩
  · simp [Oper.about, ho, resolve, Target.leads, Sem.run_pure]
  · rw [Oper.semAt_plain F _ _ (by rw [ho]; intro c hc'; cases hc')]
    simp only [execOp, ho, resolve, invoke, builtin, Sem.run_bind, Sem.run_pure, Result.andThen_ok, List.map_toArray, List.map_cons, List.map_nil, hs, hx, hty, hrun]
    exact hK' _ _ (h v' w' r1 r2 r3)

/-- A message whose numbers fit. -/
abbrev FMsg := { m : Msg // m.Fits }

section
attribute [local go_sem] Oper.semAt_some
attribute [-go_sem] Instr.loadAt Instr.buildSlice Instr.storeAt
attribute [local go_sem 500] run_loadAt_open run_storeAt_open
attribute [local go_sem] heap_drew blk_past cell_past free_past cellsAt old_alloc rowOf
attribute [local go_sem ↓] blk_new
attribute [local go_sem] World.setRow_alloc_new cells_0 cells_1 cells_2 cells_3 cells_g2
attribute [local go_sem 2000] load26 build_one build_none store26

/-- n.all(node): the receiver and the node are boxed. -/
theorem all_ok (w : World) (v : Option Addr) (n : Int) : Calls Try.prog 33 #[.pointer v, .int .i64 n] w fun e w' => e = .returned (.func (.func 35) #[] #[.pointer (some ⟨w.heap.size, 0, none⟩), .pointer (some ⟨w.heap.size + 1, 0, none⟩)]) ∧
    w' = (w.alloc (.cells #[.pointer v] 35)).alloc (.cells #[.int .i64 n] 3) := by
  go_enter Try.func33, Try.ntmps33
  go_wp2
  go_ret
  exact ⟨rfl, rfl⟩

set_option maxRecDepth 100000 in
set_option maxHeartbeats 4000000 in
theorem all1_ok (N : Nat) (hN : 1 ≤ N) (l0 bp bn n₀ ob p : Nat) (o : Option Nat) (l : List Msg) (most n : Int) (J Jx : List FMsg → World → Prop)
    (hp : p < n₀ ∧ p ≠ ob) (ho : ∀ g, o = some g → g < n₀ ∧ g ≠ ob) (hbp : bp < n₀ ∧ bp ≠ ob) (hbn : bn < n₀ ∧ bn ≠ ob) (W : World) (hnW : n₀ ≤ W.heap.size)
    (hJ : AbidesFrom W.heap.size J)
    (hY : ∀ pre x W1, J pre W1 → pre.length < l.length → YieldAt Fence.wide (N - 1) Try.prog l0 #[.agg x.1.cells.toArray] W1 fun e W' =>
      (e = .returned (.bool true) ∧ J (pre ++ [x]) W' ∧ Kept n₀ ob W1 W') ∨ (e = .returned (.bool false) ∧ Jx (pre ++ [x]) W'))
    (h : Net W p o l most) (hP : W.heap[bp]? = some (.cells #[.pointer (some ⟨p, 0, none⟩)] 35 (0, 0))) (hQ : W.heap[bn]? = some (.cells #[.int .i64 n] 3 (0, 0))) (h0 : J [] W) :
    CallsIn Fence.wide N Try.prog 35 #[.func (.yield l0) #[] #[], .pointer (some ⟨bp, 0, none⟩), .pointer (some ⟨bn, 0, none⟩)] W fun e W' => (∃ v, e = .returned v) ∧
      ((∃ ys : List FMsg, ys.map (·.1) = toNode l n ∧ J ys W') ∨ (∃ pre, True ∧ Jx pre W')) := by
  have hsm := h.small
  have hP0 : W.cell? ⟨bp, 0, none⟩ = some (.pointer (some ⟨p, 0, none⟩)) := cell_of W hP 0
  obtain ⟨v, hv, hms, hov⟩ := h.ex
  obtain ⟨q, c, hvq, hlc⟩ := hms.len
  have hv0 : W.cell? ⟨p, 0, none⟩ = some (.slice q l.length c) := by rw [cell_of W hv]; simp [hvq]
  refine callsIn_of_wp Try.func35 rfl trivial ?_ rfl
  simp only [Try.ntmps35, List.size_toArray, List.length_cons, List.length_nil, Nat.reduceAdd, Nat.reduceSub, Array.replicate_succ, Array.replicate_zero, List.push_toArray, List.append_toArray, List.nil_append, List.cons_append]
  refine wpIn_scope_straight ?_
  gi_wp2_with (first
    | (refine ⟨trivial, ?_⟩; gi_at_call 30; refine (callsIn_wide.2 (none_ok _ p o l most h)).mono ?_; rintro e w1 ⟨rfl, rfl⟩)
    | refine wpIn_label ?_)
  gi_loopw [13] (fun i wr => ∃ (j : Nat) (pre : List FMsg), j ≤ l.length ∧ i = .int .i64 j ∧ pre.map (·.1) = toNode (l.take j) n ∧ J pre wr ∧ Kept n₀ ob w1 wr) (fun i _ => l.length - (intOf i).toNat)
  case atStart => exact ⟨0, [], by omega, rfl, rfl, h0, Kept.refl _ _ _⟩
  case round =>
    obtain ⟨j, pre, hj, rfl, hpre, hJ1, hk⟩ := hrel
    have hnet := h.kept hk hp ho
    obtain ⟨v', hv', hms', hov'⟩ := hnet.ex
    have hQ' := hk.at hQ hbn.1 hbn.2
    have hvv := hk.at hv hp.1 hp.2
    rw [hv'] at hvv
    simp only [Option.some.injEq, Obj.cells.injEq, Array.mk.injEq, List.cons.injEq, and_true] at hvv
    have hvv : v' = v := by simpa using hvv
    rw [hvv, hvq] at hms'
    have htn : (toNode (l.take j) n).length ≤ j := by
      have h1 := List.length_filter_le (fun m => m.to == n) (l.take j)
      have h2 := List.length_take_le j l
      unfold toNode; omega
    have hpl : pre.length ≤ j := by have := congrArg List.length hpre; simp only [List.length_map] at this; omega
    have hsw := hk.size
    by_cases hlt : j < l.length
    · obtain ⟨g, cap, x, hv1, hx, hxf, hxr, -, hc1⟩ := hms'.at hlt
      simp only [Value.slice.injEq, true_and] at hv1
      obtain ⟨rfl, rfl⟩ := hv1
      have hj0 : (0 : Int) ≤ (j : Int) := by omega
      have hja : (j : Int) < (l.length : Int) := by omega
      have hcl := cells_length x hxf
      have hlx := load_msg_at x hxf g (j * 20) wr hxr
      have hone : x.cells.all (·.oneCell') = true := List.all_eq_true.2 (fun v hv => cells_one x v hv)
      have hb0 : wr.cell? ⟨bn, 0, none⟩ = some (.int .i64 n) := cell_of wr hQ' 0
      have hbo : Old wr bn := lt_of_block hQ'
      have ht : toNode (l.take (j + 1)) n = toNode (l.take j) n ++ (if x.to == n then [x] else []) := by
        unfold toNode
        rw [List.take_add_one, hx]
        simp [List.filter_append, List.filter_cons]
      have hJ5 : J pre (wr.alloc (Obj.cells x.cells.toArray 26)) := hJ pre wr _ none hJ1 (World.grownBy_alloc wr _ none) (fun r e => by cases e)
      have hk5 : Kept n₀ ob w1 (wr.alloc (Obj.cells x.cells.toArray 26)) := hk.trans (Kept.of_mod ((Mod.refl (fun _ => False) wr).alloc _) (by omega) (fun _ _ f => f.elim))
      cases hxn : (x.to == n) with
      | false =>
        rw [hxn] at ht
        clear hJ1 hY
        gi_wp2
        all_goals (refine ⟨fun _ h => (by cases h), ?_⟩; gi_wp2)
        all_goals (
          go_roundw
          case rel => exact ⟨j + 1, pre, by omega, by go_num, by rw [ht, hpre]; simp, hJ5, hk5⟩
          case measure => simp [intOf]; omega)
      | true =>
        rw [hxn] at ht
        obtain ⟨fn, tmps, assign, body, hy, hR⟩ := hY pre ⟨x, hxf⟩ _ hJ5 (by omega)
        dsimp only at hy
        clear hJ1 hY
        gi_wp2
        refine hR.mono ?_
        rintro e W3 (⟨rfl, hJ3, hk3⟩ | ⟨rfl, hJx3⟩)
        · gi_wp2
          go_roundw
          case rel => exact ⟨j + 1, pre ++ [⟨x, hxf⟩], by omega, by go_num, by rw [List.map_append, hpre, ht]; simp, hJ3, hk5.trans hk3⟩
          case measure => simp [intOf]; omega
        · gi_wp2
          simp only [Exit.noGoto]
          go_end0
          exact ⟨⟨_, rfl⟩, .inr ⟨_, trivial, hJx3⟩⟩
    · obtain rfl : j = l.length := by omega
      rw [List.take_of_length_le (by omega)] at hpre
      gi_wp2
      simp only [Exit.noGoto]
      go_end0
      exact ⟨⟨_, rfl⟩, .inl ⟨pre, hpre, hJ1⟩⟩

set_option maxRecDepth 100000 in
set_option maxHeartbeats 4000000 in
theorem to_ok (w : World) (p : Nat) (o : Option Nat) (l : List Msg) (most n : Int) (h : Net w p o l most) :
    Calls Try.prog 25 #[.pointer (some ⟨p, 0, none⟩), .int .i64 n] w fun e w' => ∃ v', e = .returned v' ∧ Msgs w' v' (toNode l n) ∧ Mod (fun _ => False) w w' ∧ ∀ g, ownOf v' = some g → w.heap.size ≤ g := by
  have hlt := h.lt
  have hsm := h.small
  refine (callsIn_wide (n := 3)).1 ?_
  refine callsIn_of_wp_marks Try.func25 rfl trivial ?_ rfl
  simp only [Try.ntmps25, List.size_toArray, List.length_cons, List.length_nil, Nat.reduceAdd, Nat.reduceSub, Array.replicate_succ, Array.replicate_zero, List.push_toArray, List.append_toArray, List.nil_append, List.cons_append]
  gi_wp2_with (refine ⟨trivial, ?_⟩; gi_at_call 33; refine (callsIn_wide.2 (all_ok _ _ _)).mono ?_; rintro e w' ⟨rfl, rfl⟩)
  have hall := allocs3 w (Obj.cells #[Value.slice none 0 0] 38) (Obj.cells #[Value.pointer (some { block := p, off := 0 })] 35) (Obj.cells #[Value.int IntKind.i64 n] 3)
  have hsz : (((w.alloc (Obj.cells #[Value.slice none 0 0] 38)).alloc (Obj.cells #[Value.pointer (some { block := p, off := 0 })] 35)).alloc (Obj.cells #[Value.int IntKind.i64 n] 3)).heap.size = w.heap.size + 3 := by simp
  obtain ⟨ob, hob⟩ : ∃ ob, ob = w.heap.size := ⟨_, rfl⟩
  rw [← hob] at hall hsz ⊢
  generalize ((w.alloc (Obj.cells #[Value.slice none 0 0] 38)).alloc (Obj.cells #[Value.pointer (some { block := p, off := 0 })] 35)).alloc (Obj.cells #[Value.int IntKind.i64 n] 3) = W0 at hall hsz ⊢
  obtain ⟨hO, hP, hQ, hm0⟩ := hall
  have hnet := h.keep hm0 (fun x => x) (fun _ _ x => x)
  have hp1 : p < ob := by omega
  have ho1 : ∀ g, o = some g → g < ob := fun g hg => by have := hlt.2 g hg; omega
  have hB0 : Below ob w W0 := by rw [hob]; exact hm0.below
  have hob1 : ob ≤ w.heap.size := by omega
  have hob2 : w.heap.size ≤ ob := by omega
  clear hob
  have hseq : SeqStopsK Fence.wide 2 Try.prog 35 #[.pointer (some ⟨ob + 1, 0, none⟩), .pointer (some ⟨ob + 1 + 1, 0, none⟩)] (fun x : FMsg => #[Value.agg x.1.cells.toArray]) (Kept W0.heap.size ob) (fun ys => ys.map (·.1) = toNode l n) (fun _ => True) l.length W0 := by
    intro l0 J Jx W hW hJ hJx hY h0
    have hmW : Mod (fun _ => False) W0 W := Mod.of_below hW
    exact all1_ok 2 (by omega) l0 (ob + 1) (ob + 1 + 1) W0.heap.size ob p o l most n J Jx ⟨by omega, by omega⟩ (fun g hg => by have := ho1 g hg; exact ⟨by omega, by omega⟩) ⟨by omega, by omega⟩ ⟨by omega, by omega⟩ W hW.size hJ hY
      (hnet.keep hmW (fun x => x) (fun _ _ x => x)) (hmW.at hP (fun x => x)) (hmW.at hQ (fun x => x)) h0
  refine wpIn_rangeFunc_ownH (w0 := W0) rfl (by omega) (gf := 35) rfl trivial (enters_of Try.func35 (by kernel_rfl) rfl) hseq Kept.trans (fun W l o o' hl _ _ _ => Kept.put W l o' hl) (Below.refl _ _) (fun _ => rfl)
    (fun pre W => (∃ v, W.heap[ob]? = some (.cells #[v] 38 (0, 0)) ∧ Msgs W v (pre.map (·.1)) ∧ (∀ g, ownOf v = some g → W0.heap.size ≤ g) ∧ W0.heap.size ≤ W.heap.size) ∧ Below ob w W)
    (fun _ _ _ => False) (OwnFrom.and ?hI (ownFrom_below (by omega) (by omega))) (fun _ _ _ _ _ hs _ _ => hs.elim) ⟨⟨_, hO, Msgs.empty _, by simp [ownOf], Nat.le_refl _⟩, hB0⟩
    (fun x a' W => ∃ Bx, ob < Bx ∧ W.heap[Bx]? = some (.cells x.1.cells.toArray 26 (0, 0)) ∧ a' = { tmps := #[.pointer (some ⟨p, 0, none⟩), .int .i64 n, undef, undef, .slice none 0 0, .pointer (some ⟨ob, 0, none⟩), .pointer (some ⟨Bx, 0, none⟩), .pointer (some ⟨p, 0, none⟩), .int .i64 n, .func (.func 35) #[] #[.pointer (some ⟨ob + 1, 0, none⟩), .pointer (some ⟨ob + 1 + 1, 0, none⟩)], .agg x.1.cells.toArray, undef, undef, undef, undef, undef], defers := [] })
    ?hAx ?assign ?body ?done ?stop
  case hI =>
    intro s A B row hs hg hr
    obtain ⟨v, h1, h2, h3, h4⟩ := hs
    have hm : Mod (fun k => row = some k) A B := Mod.of_grown hg
    have hnc : ∀ k cs t fr, A.heap[k]? = some (.cells cs t fr) → ¬ row = some k := by
      intro k cs t fr hk hrow
      obtain ⟨_, o', ho1, ho2⟩ := hr k hrow
      rw [hk] at ho1
      cases ho1
      cases ho2
    refine ⟨v, hm.at h1 (hnc _ _ _ _ h1), h2.keep hm (fun g hg' => ?_), h3, Nat.le_trans h4 hm.size⟩
    obtain ⟨cap, cur, _, hb, _⟩ := h2.row.block hg'
    exact hnc _ _ _ _ hb
  case hAx =>
    intro x a' s A B row hs hg hr
    obtain ⟨Bx, h1, h2, h3⟩ := hs
    have hm : Mod (fun k => row = some k) A B := Mod.of_grown hg
    refine ⟨Bx, h1, hm.at h2 ?_, h3⟩
    intro hrow
    obtain ⟨_, o', ho1, ho2⟩ := hr _ hrow
    rw [h2] at ho1
    cases ho1
    cases ho2
  case assign =>
    rintro l1 pre x W K ⟨⟨v, h1, h2, h3, h4⟩, hB⟩ hK
    have hcl := cells_length x.1 x.2
    have hone : x.1.cells.all (·.oneCell') = true := List.all_eq_true.2 (fun v hv => cells_one x.1 v hv)
    have hW : ob ≤ W.heap.size := by have := hB.size; omega
    have hobW : ob < W.heap.size := lt_of_block h1
    have hmA : Mod (fun _ => False) W (W.alloc (Obj.cells x.1.cells.toArray 26)) := (Mod.refl _ _).alloc _
    have hx1 := Lib.hid h1
    clear h1
    gi_wp2
    exact hK _ _ ((KeepsOthers.alloc _ _).from _) (Kept.of_mod hmA h4 (fun _ _ f => f.elim)) ⟨⟨v, blk_old _ _ hx1.out, h2.keep hmA (fun _ _ f => f), h3, Nat.le_trans h4 hmA.size⟩, hB.alloc hW _⟩ ⟨W.heap.size, hobW, blk_new _ _, rfl⟩
  case body =>
    rintro l1 pre x a' W hl1 ⟨rr, hrr⟩ ⟨⟨v, h1, h2, h3, h4⟩, hB⟩ ⟨Bx, hBx, hbx, rfl⟩ hpl
    obtain ⟨q, c, hvq, _⟩ := h2.len
    have hc0 : W.cell? ⟨ob, 0, none⟩ = some v := cell_of W h1 0
    have hcl := cells_length x.1 x.2
    have hobW : ob < W.heap.size := lt_of_block h1
    have hx1 := Lib.hid h1
    have hvo : ∀ g, ownOf v = some g → ∃ cur, W.heap[g]? = some (.cells cur 26 (0, 0)) := fun g hg => by
      obtain ⟨cap, cur, _, hb, _⟩ := h2.row.block hg
      exact ⟨cur, hb⟩
    have HV := Lib.hid hvo
    subst hvq
    clear h1 hvo
    gi_wp2_with (gi_at_builtin; refine wpLIn_msgs rfl _ _ rfl rfl (.slice q (pre.map (·.1)).length c) (.slice (some ⟨W.heap.size, 0, none⟩) 1 1) (by simp [Act.eval]) rfl (pre.map (·.1)) [x.1] (h2.keep (S := fun _ => False) ((Mod.refl _ _).alloc _) (fun _ _ f => f)) (by simpa using x.2) (Src.msg (blk_new _ _) x.2) (by simp; omega) ?_; intro v' w4 hms4 hmo4 hov4; obtain ⟨q', c', hv', _⟩ := hms4.len; subst hv'; have hp4 := hmo4.at (blk_old _ _ hx1.out) (fun hh => by have := h3 _ hh; omega); have hpc := cell_of w4 hp4 0; have hpf := free_of w4 hp4 0)
    have hW : ob ≤ W.heap.size := by omega
    have hmW : Mod (fun k => ownOf (.slice q (pre.map (·.1)).length c) = some k ∨ k = ob) W w4 := (((Mod.refl _ W).alloc _).trans hmo4).mono (fun k _ hk => .inl hk)
    have hm5 := hmW.setCell (p := ⟨ob, 0, none⟩) (.inl (.inr rfl)) (.slice q' (pre.length + 1) c')
    simp only [List.length_append, List.length_map, List.length_cons, List.length_nil, Nat.zero_add] at hms4 hov4
    have hov5 : ∀ g, ownOf (.slice q' (pre.length + 1) c') = some g → ob + 3 ≤ g := by
      intro g hg
      rcases hov4 g hg with hh | hh
      · have := h3 g (by simpa using hh); omega
      · simp only [World.size_alloc] at hh; omega
    refine ⟨⟨hm5.size, fun k o hk1 hk2 ho => hm5.at hk2 ?_⟩, Kept.of_mod hm5 (by omega) ?_, ⟨⟨_, heap_setCell_same w4 ob 0 _ _ _ hp4, ?_, hov5, ?_⟩, hB.trans (hm5.belowAt hW ?_)⟩⟩
    · rintro (hh | rfl)
      · obtain ⟨cur, hc⟩ := HV.out _ hh
        rw [hk2] at hc
        cases hc
        cases ho
      · omega
    · rintro k hk (hh | rfl)
      · have := h3 k hh; omega
      · rfl
    · have := hms4.keep ((Mod.refl (fun k => k = ob) w4).setCell (p := ⟨ob, 0, none⟩) (.inl rfl) (.slice q' (pre.length + 1) c')) (fun g hg hh => by have := hov5 g hg; omega)
      simpa using this
    · have := hm5.size; omega
    · rintro k (hh | rfl)
      · have := h3 k hh; omega
      · omega
  case done =>
    rintro D ys W hD hys ⟨⟨v, h1, h2, h3, h4⟩, hB⟩ hK
    have hc0 : W.cell? ⟨ob, 0, none⟩ = some v := cell_of W h1 0
    obtain ⟨q, c, hvq, _⟩ := h2.len
    rw [hys] at h2 hvq
    subst hvq
    gi_wp2
    have hg := grownBy_putObj' W D (.deferred none)
    have hmD : Mod (fun k => some D = some k) W (W.putObj D (.deferred none)) := Mod.of_grown hg
    have hobe : ob = w.heap.size := by omega
    have hmz : Mod (fun _ => False) w W := Mod.of_below (by rw [← hobe]; exact hB)
    have hmsf := h2.keep hmD (fun g hg2 hh => by
      obtain ⟨cap, cur, _, hb, _⟩ := h2.row.block hg2
      cases hh
      rw [hK] at hb
      cases hb)
    have hmf := hmz.trans' hmD (fun i hi hh => by cases hh; omega)
    have hof : ∀ g, ownOf (.slice q (toNode l n).length c) = some g → w.heap.size ≤ g := fun g hg2 => by
      have := h3 g hg2
      omega
    refine ⟨by simp, .inl ⟨_, _, rfl, run_takeDeferred hK, ?_⟩⟩
    exact ⟨_, results_tmp rfl _ _ _, .slice q (toNode l n).length c, rfl, hmsf, hmf, hof⟩
  case stop =>
    rintro D c pre W _ _ h _
    exact h.elim
end
end Go.Proofs.Ytklokcndhkhdmaa
