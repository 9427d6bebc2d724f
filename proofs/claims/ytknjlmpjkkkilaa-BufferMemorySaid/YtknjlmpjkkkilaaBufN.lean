/- The buffer's All: a range over its back, turned. -/
import Derived.Test.YtknjlmpjkkkilaaBufM
namespace Go.Proofs.Ytknjlmpjkkkilaa
open Go.RowKit Go.Shelf
set_option linter.unusedVariables false
set_option linter.unusedSimpArgs false

/-- Stores are appended, in a plain region inside a fence. -/
theorem wpLIn_stores {F : Fence} {nf : Nat} {ops : Array Oper} {rest : List Oper} {o : Oper} {a : Act} {w : World} {Q : Exit → Act → World → Prop} (hgd : o.guard = none) (s x : Operand)
    (ho : o.op = .call { callee := .builtin .append, args := #[s, x], argTypes := #[32, 32] }) (hty : o.type = 32) (v xv : Value) (hs : a.eval s = v) (hx : a.eval x = xv)
    (l k : List Store) (hv : Stores w v l) (hk : ∀ m ∈ k, m.Fits) (hsrc : Src w 3 xv k.length (flat k)) (hn : l.length + k.length ≤ 1000000000)
    (h : ∀ v' w', Stores w' v' (l ++ k) → Mod (fun b => ownOf v = some b) w w' → (∀ b, ownOf v' = some b → ownOf v = some b ∨ w.heap.size ≤ b) → wpListIn F nf Try.prog ops Q rest (a.put o.dst v') w') :
    wpListIn F nf Try.prog ops Q (o :: rest) a w := by
  refine wpListIn_plain hgd fun K hK' => ?_
  obtain ⟨v', w', hrun, r1, r2, r3⟩ := stores_append w v xv l k hv hk hsrc hn
  unfold Oper.wpIn
  refine ⟨?_, ?_⟩
  · simp [Oper.about, ho, resolve, Target.leads, Sem.run_pure]
  · rw [Oper.semAt_plain F _ _ (by rw [ho]; intro c hc'; cases hc')]
    simp only [execOp, ho, resolve, invoke, builtin, Sem.run_bind, Sem.run_pure, Result.andThen_ok, List.map_toArray, List.map_cons, List.map_nil, hs, hx, hty, hrun]
    exact hK' _ _ (h v' w' r1 r2 r3)

section
attribute [local go_sem] Oper.semAt_some
attribute [-go_sem] Instr.buildSlice
attribute [local go_sem] heap_drew blk_past cell_past free_past
attribute [local go_sem ↓] blk_new
attribute [local go_sem 2000] build_one build_none

set_option maxRecDepth 100000 in
set_option maxHeartbeats 4000000 in
theorem all_ok (w : World) (v : Option Addr) (l : List Store) (h : BufP w v l) (hg : ∀ s ∈ l, Good s) :
    Calls Try.prog 19 #[.pointer v] w fun e w' => ∃ v', e = .returned v' ∧ Stores w' v' l ∧ Mod (fun _ => False) w w' ∧ ∀ g, ownOf v' = some g → w.heap.size ≤ g := by
  have hl4 := h.four
  refine (callsIn_wide (n := 3)).1 ?_
  refine callsIn_of_wp_marks Try.func19 rfl trivial ?_ rfl
  simp only [Try.ntmps19, List.size_toArray, List.length_cons, List.length_nil, Nat.reduceAdd, Nat.reduceSub, Array.replicate_succ, Array.replicate_zero, List.push_toArray, List.append_toArray, List.nil_append, List.cons_append]
  gi_wp2_with (refine ⟨trivial, ?_⟩; gi_at_call 28; refine (callsIn_wide.2 (back_ok _ _)).mono ?_; rintro e w' ⟨rfl, rfl⟩)
  have hall := allocs2 w (Obj.cells #[Value.slice none 0 0] 32) (Obj.cells #[Value.pointer v] 25)
  have hsz : ((w.alloc (Obj.cells #[Value.slice none 0 0] 32)).alloc (Obj.cells #[Value.pointer v] 25)).heap.size = w.heap.size + 2 := by simp
  obtain ⟨ob, hob⟩ : ∃ ob, ob = w.heap.size := ⟨_, rfl⟩
  rw [← hob] at hall hsz ⊢
  generalize (w.alloc (Obj.cells #[Value.slice none 0 0] 32)).alloc (Obj.cells #[Value.pointer v] 25) = W0 at hall hsz ⊢
  obtain ⟨hO, hP, hm0⟩ := hall
  have hbuf := h.keep0 hm0
  have hpb : ∀ p, v = some ⟨p, 0, none⟩ → p < ob := by
    rintro p rfl
    rcases h with ⟨h1, _⟩ | ⟨p', h1, h2⟩
    · cases h1
    · cases h1
      have := h2.lt
      omega
  have hB0 : Below ob w W0 := by rw [hob]; exact hm0.below
  have hob1 : ob ≤ w.heap.size := by omega
  have hob2 : w.heap.size ≤ ob := by omega
  clear hob
  have hseq : SeqStopsK Fence.wide 2 Try.prog 37 #[.pointer (some ⟨ob + 1, 0, none⟩)] (fun x : FStore => #[Value.agg x.1.cells.toArray]) (Kept W0.heap.size ob) (fun ys => ys.map (·.1) = l.reverse) (fun pre => ∃ r, pre.map (·.1) ++ r = l.reverse) l.length W0 := by
    intro l0 J Jx W hW hJ hJx hY h0
    have hmW : Mod (fun _ => False) W0 W := Mod.of_below hW
    exact back1_ok 2 (by omega) l0 (ob + 1) W0.heap.size ob v l J Jx hg (fun p hp => by have := hpb p hp; exact ⟨by omega, by omega⟩) ⟨by omega, by omega⟩ W hW.size hJ hY (hbuf.keep0 hmW) (hmW.at hP (fun x => x)) h0
  refine wpIn_rangeFunc_ownH (w0 := W0) rfl (by omega) (gf := 37) rfl trivial (enters_of Try.func37 (by kernel_rfl) rfl) hseq Kept.trans (fun W l o o' hl _ _ _ => Kept.put W l o' hl) (Below.refl _ _) (fun _ => rfl)
    (fun pre W => (∃ v, W.heap[ob]? = some (.cells #[v] 32 (0, 0)) ∧ Stores W v (pre.map (·.1)) ∧ (∀ g, ownOf v = some g → W0.heap.size ≤ g) ∧ W0.heap.size ≤ W.heap.size) ∧ Below ob w W)
    (fun _ _ _ => False) (OwnFrom.and ?hI (ownFrom_below (by omega) (by omega))) (fun _ _ _ _ _ hs _ _ => hs.elim) ⟨⟨_, hO, Stores.empty _, by simp [ownOf], Nat.le_refl _⟩, hB0⟩
    (fun x a' W => ∃ Bx, ob < Bx ∧ W.heap[Bx]? = some (.cells x.1.cells.toArray 60 (0, 0)) ∧ a' = { tmps := #[.pointer v, undef, .slice none 0 0, .pointer (some ⟨ob, 0, none⟩), .pointer (some ⟨Bx, 0, none⟩), .pointer v, .func (.func 37) #[] #[.pointer (some ⟨ob + 1, 0, none⟩)], .agg x.1.cells.toArray, undef, undef, undef, undef, undef, undef, undef, undef], defers := [] })
    ?hAx ?assign ?body ?done ?stop
  case hI =>
    intro s A B row hs hg hr
    obtain ⟨v, h1, h2, h3, h4⟩ := hs
    have hm : Mod (fun k => row = some k) A B := Mod.of_grown hg
    have hnc : ∀ k cs t fr, A.heap[k]? = some (.cells cs t fr) → ¬ row = some k := by
      intro k cs t fr hk hrow
      obtain ⟨_, o', ho1, ho2⟩ := hr k hrow
      rw [hk] at ho1
      cases ho1
      cases ho2
    refine ⟨v, hm.at h1 (hnc _ _ _ _ h1), h2.keep hm (fun g hg' => ?_), h3, Nat.le_trans h4 hm.size⟩
    obtain ⟨cap, cur, _, hb, _⟩ := h2.row.block hg'
    exact hnc _ _ _ _ hb
  case hAx =>
    intro x a' s A B row hs hg hr
    obtain ⟨Bx, h1, h2, h3⟩ := hs
    have hm : Mod (fun k => row = some k) A B := Mod.of_grown hg
    refine ⟨Bx, h1, hm.at h2 ?_, h3⟩
    intro hrow
    obtain ⟨_, o', ho1, ho2⟩ := hr _ hrow
    rw [h2] at ho1
    cases ho1
    cases ho2
  case assign =>
    rintro l1 pre x W K ⟨⟨v, h1, h2, h3, h4⟩, hB⟩ hK
    have hW : ob ≤ W.heap.size := by have := hB.size; omega
    have hobW : ob < W.heap.size := lt_of_block h1
    have hmA : Mod (fun _ => False) W (W.alloc (Obj.cells x.1.cells.toArray 60)) := (Mod.refl _ _).alloc _
    have hx1 := Lib.hid h1
    clear h1
    simp only [Store.cells] at hmA ⊢
    gi_wp2
    exact hK _ _ ((KeepsOthers.alloc _ _).from _) (Kept.of_mod hmA h4 (fun _ _ f => f.elim)) ⟨⟨v, blk_old _ _ hx1.out, h2.keep hmA (fun _ _ f => f), h3, Nat.le_trans h4 hmA.size⟩, hB.alloc hW _⟩ ⟨W.heap.size, hobW, blk_new _ _, rfl⟩
  case body =>
    rintro l1 pre x a' W hl1 ⟨rr, hrr⟩ ⟨⟨v, h1, h2, h3, h4⟩, hB⟩ ⟨Bx, hBx, hbx, rfl⟩ hpl
    obtain ⟨q, c, hvq, _⟩ := h2.len
    have hc0 : W.cell? ⟨ob, 0, none⟩ = some v := cell_of W h1 0
    have hobW : ob < W.heap.size := lt_of_block h1
    have hx1 := Lib.hid h1
    have hvo : ∀ g, ownOf v = some g → ∃ cur, W.heap[g]? = some (.cells cur 24 (0, 0)) := fun g hg => by
      obtain ⟨cap, cur, _, hb, _⟩ := h2.row.block hg
      exact ⟨cur, hb⟩
    have HV := Lib.hid hvo
    subst hvq
    clear h1 hvo
    have cx0 : W.cell? ⟨Bx, 0, none⟩ = some (.int .u32 x.1.addr) := cell_of W hbx 0
    have cx1 : W.cell? ⟨Bx, 1, none⟩ = some (.int .i64 x.1.width) := cell_of W hbx 1
    have cx2 : W.cell? ⟨Bx, 2, none⟩ = some (.int .u32 x.1.value) := cell_of W hbx 2
    gi_wp2_with (gi_at_builtin; refine wpLIn_stores rfl _ _ rfl rfl (.slice q (pre.map (·.1)).length c) (.slice (some ⟨W.heap.size, 0, none⟩) 1 1) (by simp [Act.eval]) rfl (pre.map (·.1)) [x.1] (h2.keep (S := fun _ => False) ((Mod.refl _ _).alloc _) (fun _ _ f => f)) (by simpa using x.2.1) (Src.store (m := x.1) (blk_new _ _)) (by simp; omega) ?_; intro v' w4 hms4 hmo4 hov4; obtain ⟨q', c', hv', _⟩ := hms4.len; subst hv'; have hp4 := hmo4.at (blk_old _ _ hx1.out) (fun hh => by have := h3 _ hh; omega); have hpc := cell_of w4 hp4 0; have hpf := free_of w4 hp4 0)
    have hW : ob ≤ W.heap.size := by omega
    have hmW : Mod (fun k => ownOf (.slice q (pre.map (·.1)).length c) = some k ∨ k = ob) W w4 := (((Mod.refl _ W).alloc _).trans hmo4).mono (fun k _ hk => .inl hk)
    have hm5 := hmW.setCell (p := ⟨ob, 0, none⟩) (.inl (.inr rfl)) (.slice q' (pre.length + 1) c')
    simp only [List.length_append, List.length_map, List.length_cons, List.length_nil, Nat.zero_add] at hms4 hov4
    have hov5 : ∀ g, ownOf (.slice q' (pre.length + 1) c') = some g → ob + 2 ≤ g := by
      intro g hg
      rcases hov4 g hg with hh | hh
      · have := h3 g (by simpa using hh); omega
      · simp only [World.size_alloc] at hh; omega
    refine ⟨⟨hm5.size, fun k o hk1 hk2 ho => hm5.at hk2 ?_⟩, Kept.of_mod hm5 (by omega) ?_, ⟨⟨_, heap_setCell_same w4 ob 0 _ _ _ hp4, ?_, hov5, ?_⟩, hB.trans (hm5.belowAt hW ?_)⟩⟩
    · rintro (hh | rfl)
      · obtain ⟨cur, hc⟩ := HV.out _ hh
        rw [hk2] at hc
        cases hc
        cases ho
      · omega
    · rintro k hk (hh | rfl)
      · have := h3 k hh; omega
      · rfl
    · have := hms4.keep ((Mod.refl (fun k => k = ob) w4).setCell (p := ⟨ob, 0, none⟩) (.inl rfl) (.slice q' (pre.length + 1) c')) (fun g hg hh => by have := hov5 g hg; omega)
      simpa using this
    · have := hm5.size; omega
    · rintro k (hh | rfl)
      · have := h3 k hh; omega
      · omega
  case done =>
    rintro D ys W hD hys ⟨⟨v, h1, h2, h3, h4⟩, hB⟩ hK
    have hc0 : W.cell? ⟨ob, 0, none⟩ = some v := cell_of W h1 0
    obtain ⟨q, c, hvq, _⟩ := h2.len
    have hrv : ys.map (·.1) = l.reverse := hys
    rw [hrv] at h2 hvq
    rw [List.length_reverse] at hvq
    subst hvq
    have hx1 := Lib.hid h1
    clear h1
    gi_wp2_with (refine ⟨trivial, ?_⟩; gi_at_call 35; refine (callsIn_wide.2 (reverse_ok _ _ _ h2 (by rw [List.length_reverse]; omega))).mono ?_; rintro e W2 ⟨⟨u, rfl⟩, hst2, hm2⟩; have hob2' := hm2.at hx1.out (fun hh => by have := h3 _ hh; omega); have hco := cell_of W2 hob2' 0)
    have hK2 : W2.heap[D]? = some (.deferred (some [])) := hm2.at hK (fun hh => by
      obtain ⟨cap, cur, _, hb, _⟩ := h2.row.block hh
      rw [hK] at hb
      cases hb)
    rw [List.reverse_reverse] at hst2
    have hg2 := grownBy_putObj' W2 D (.deferred none)
    have hmD : Mod (fun k => some D = some k) W2 (W2.putObj D (.deferred none)) := Mod.of_grown hg2
    have hobe : ob = w.heap.size := by omega
    have hmz : Mod (fun _ => False) w W := Mod.of_below (by rw [← hobe]; exact hB)
    have hmsf := hst2.keep hmD (fun g hg3 hh => by
      obtain ⟨cap, cur, _, hb, _⟩ := hst2.row.block hg3
      cases hh
      rw [hK2] at hb
      cases hb)
    have hmf := (hmz.trans' hm2 (fun i hi hh => by have := h3 i hh; omega)).trans' hmD (fun i hi hh => by cases hh; omega)
    have hof : ∀ g, ownOf (.slice q l.length c) = some g → w.heap.size ≤ g := fun g hg3 => by
      have := h3 g hg3
      omega
    refine ⟨by simp, .inl ⟨_, _, rfl, run_takeDeferred hK2, ?_⟩⟩
    exact ⟨_, results_tmp rfl _ _ _, .slice q l.length c, rfl, hmsf, hmf, hof⟩
  case stop =>
    rintro D c pre W _ _ h _
    exact h.elim
end
end Go.Proofs.Ytknjlmpjkkkilaa
