/- The document's net: Send. -/
import Derived.Test.YtklokcndhkhdmaaNetK
namespace Go.Proofs.Ytklokcndhkhdmaa
open Go.RowKit
set_option linter.unusedVariables false
set_option linter.unusedSimpArgs false

theorem Msgs.none_of (w : World) (g : Nat) : Msgs w (.slice (some ⟨g, 0, none⟩) 0 0) [] := ⟨⟨rfl, .inl ⟨rfl, .inr ⟨g, rfl⟩⟩⟩, by simp⟩

theorem old_alloc {w : World} {k : Nat} (o : Obj) (h : Old w k) : Old (w.alloc o) k := by unfold Old at *; rw [World.size_alloc]; omega
theorem two_set {w : World} {R : Nat} {a b x y : Value} {t : TypeId} (h : w.heap[R]? = some (.cells #[a, b] t (0, 0))) : ((w.setCell ⟨R, 0, none⟩ x).setCell ⟨R, 1, none⟩ y).heap[R]? = some (.cells #[x, y] t (0, 0)) := by
  have h1 := heap_setCell_same w R 0 _ _ x h
  have h2 := heap_setCell_same _ R 1 _ _ y h1
  simpa using h2
theorem Msgs.ne {w : World} {v : Value} {l : List Msg} (h : Msgs w v l) {R : Nat} {cs : Array Value} {t : TypeId} {fr : Nat × Nat} (hb : w.heap[R]? = some (.cells cs t fr)) (ht : t ≠ 26) : ∀ g, ownOf v = some g → ¬ g = R := by
  rintro g hg rfl
  obtain ⟨cap, cur, _, h1, _⟩ := h.row.block hg
  rw [hb] at h1
  simp at h1
  exact ht h1.2.1
theorem info49 : (Try.prog.info? 49).map (·.size) = some 2 := by kernel_rfl
/-- Send's answer: the net lies in a cell of the frame's. -/
theorem refsend_ret {a : Act} {w : World} {R : Nat} {x y : Value} {n : Int} {Q : Ending → World → Prop} (h4 : a.tmps[4]? = some (.pointer (some ⟨R, 0, none⟩))) (h5 : a.tmps[5]? = some (.int .i64 n)) (hd : a.defers = [])
    (hb : w.heap[R]? = some (.cells #[x, y] 49 (0, 0))) (h : Q (.returned (.tuple #[.agg #[x, y], .int .i64 n])) w) : bodyPost Try.prog Try.f23 Q .ret a w := by
  have hlo := run_loadVar_row (P := Try.prog) w R 49 49 _ _ _ hb Try.underlying49 rfl (by rw [info49]; rfl)
  exact bodyPost_ret (v := .tuple #[.agg #[x, y], .int .i64 n]) (by simp [results, Try.results23, asAddr, hlo, h4, h5]) hd h

section
attribute [-go_sem] Instr.loadAt Instr.buildSlice
attribute [local go_sem 500] run_loadAt_open
attribute [local go_sem] heap_drew blk_past cell_past free_past cellsAt old_alloc
attribute [local go_sem 2000] load26 build_one
attribute [local go_sem ↓] Go.wp_at_zero Go.wp_at_succ
theorem build_none (w : World) : (Instr.buildSlice 38 0 #[]).run Try.prog w = .ok (.slice (some ⟨w.heap.size, 0, none⟩) 0 0) (w.alloc (.cells #[] 26)) := by
  have hs : (sizeOf 26).run Try.prog w = .ok 20 w := Try.sizeOf26 w
  unfold Instr.buildSlice
  simp only [Sem.run_bind, run_underlying Try.underlying38, Result.andThen_ok, hs]
  simp [Instr.fill, newRow]
  rw [Array.eq_empty_of_size_eq_zero (xs := Array.map _ (Array.range 0)) (by simp)]
attribute [local go_sem 2000] build_none
set_option maxHeartbeats 4000000 in
theorem refsend_ok (w : World) (v : Value) (l : List Msg) (most : Int) (m : Msg) (h : Msgs w v l) (hm : m.Fits) (hl : l.length ≤ 1000000) :
    Calls Try.prog 23 #[.agg #[.int .i64 most, v], .agg m.cells.toArray] w fun e w' => ∃ v', e = .returned (.tuple #[.agg #[.int .i64 most, v'], .int .i64 (sendNum l most m)]) ∧ Msgs w' v' (sendList l most m) ∧
      Mod (fun _ => False) w w' ∧ ∀ g, ownOf v' = some g → ownOf v = some g ∨ w.heap.size ≤ g := by
  obtain ⟨q, c, hv, hc⟩ := h.len
  rw [hv]
  go_enter Try.func23, Try.ntmps23
  go_upto_region 1 with fail
  have hm0 : Mod (fun _ => False) w (((w.alloc (Obj.cells #[Value.int IntKind.i64 most, Value.slice q l.length c] 49)).alloc (Obj.cells m.cells.toArray 26)).alloc (Obj.cells #[Value.int IntKind.i64 0, Value.slice none 0 0] 49)) :=
    (((Mod.refl _ _).alloc _).alloc _).alloc _
  obtain ⟨N, hN⟩ : ∃ N, N = w.heap.size := ⟨_, rfl⟩
  have hbN : (((w.alloc (Obj.cells #[Value.int IntKind.i64 most, Value.slice q l.length c] 49)).alloc (Obj.cells m.cells.toArray 26)).alloc (Obj.cells #[Value.int IntKind.i64 0, Value.slice none 0 0] 49)).heap[N]? = some (.cells #[.int .i64 most, .slice q l.length c] 49 (0, 0)) := by
    rw [hN]; exact blk_old _ _ (blk_old _ _ (blk_new _ _))
  have hbB : (((w.alloc (Obj.cells #[Value.int IntKind.i64 most, Value.slice q l.length c] 49)).alloc (Obj.cells m.cells.toArray 26)).alloc (Obj.cells #[Value.int IntKind.i64 0, Value.slice none 0 0] 49)).heap[N + 1]? = some (.cells m.cells.toArray 26 (0, 0)) := by
    have := blk_new (w.alloc (Obj.cells #[Value.int IntKind.i64 most, Value.slice q l.length c] 49)) (Obj.cells m.cells.toArray 26)
    rw [World.size_alloc, ← hN] at this
    exact blk_old _ _ this
  have hbR : (((w.alloc (Obj.cells #[Value.int IntKind.i64 most, Value.slice q l.length c] 49)).alloc (Obj.cells m.cells.toArray 26)).alloc (Obj.cells #[Value.int IntKind.i64 0, Value.slice none 0 0] 49)).heap[N + 1 + 1]? = some (.cells #[.int .i64 0, .slice none 0 0] 49 (0, 0)) := by
    have := blk_new ((w.alloc (Obj.cells #[Value.int IntKind.i64 most, Value.slice q l.length c] 49)).alloc (Obj.cells m.cells.toArray 26)) (Obj.cells #[Value.int IntKind.i64 0, Value.slice none 0 0] 49)
    rw [World.size_alloc, World.size_alloc, ← hN] at this
    exact this
  have hms := h.keep hm0 (fun _ _ x => x)
  rw [hv] at hms
  rw [← hN]
  generalize ((w.alloc (Obj.cells #[Value.int IntKind.i64 most, Value.slice q l.length c] 49)).alloc (Obj.cells m.cells.toArray 26)).alloc (Obj.cells #[Value.int IntKind.i64 0, Value.slice none 0 0] 49) = w0 at *
  have hcl := cells_length m hm
  generalize hNB : N + 1 = B at *
  generalize hNR : B + 1 = R at *
  have hNw : w.heap.size ≤ N := by omega
  have hB1 : N < B := by omega
  have hR1 : B < R := by omega
  clear hN hNB hNR
  go_wp2_with fail
  refine (refcheck_ok _ m hm).mono ?_
  rintro e w1 ⟨rfl, hm1⟩
  replace hm0 := hm0.trans hm1
  replace hbN := hm1.at hbN (fun x => x)
  replace hbB := hm1.at hbB (fun x => x)
  replace hbR := hm1.at hbR (fun x => x)
  replace hms := hms.keep hm1 (fun _ _ x => x)
  clear hm1
  have n0 : w1.cell? ⟨N, 0, none⟩ = some (.int .i64 most) := cell_of w1 hbN 0
  have n1 : w1.cell? ⟨N, 1, none⟩ = some (.slice q l.length c) := cell_of w1 hbN 1
  have nf : w1.frozen? ⟨N, 1, none⟩ = false := free_of w1 hbN 1
  have r0 : w1.cell? ⟨R, 0, none⟩ = some (.int .i64 0) := cell_of w1 hbR 0
  have r1 : w1.cell? ⟨R, 1, none⟩ = some (.slice none 0 0) := cell_of w1 hbR 1
  have rf0 : w1.frozen? ⟨R, 0, none⟩ = false := free_of w1 hbR 0
  have rf1 : w1.frozen? ⟨R, 1, none⟩ = false := free_of w1 hbR 1
  rcases checkNum_cases m with hck | hck
  · by_cases hfull : most ≤ (l.length : Int)
    · have hres : sendNum l most m = 210 := by simp only [sendNum, hck]; simp; omega
      have hres2 : sendList l most m = l := by simp [sendList, hres]
      have hd : decide (most ≤ (l.length : Int)) = true := by simpa using hfull
      go_wp2
      refine refsend_ret rfl rfl rfl (two_set hbR) ⟨_, by rw [hres], by rw [hres2]; exact hms.keep (((Mod.refl (fun k => k = R) w1).setCell (.inl rfl) _).setCell (.inl rfl) _) (hms.ne hbR (by decide)), (hm0.setCell (.inr (show w.heap.size ≤ R by omega)) _).setCell (.inr (show w.heap.size ≤ R by omega)) _, fun g hg => .inl hg⟩
    · have hres : sendNum l most m = 0 := by simp only [sendNum, hck]; simp; omega
      have hres2 : sendList l most m = l ++ [m] := by simp [sendList, hres]
      have hd : decide (most ≤ (l.length : Int)) = false := by simpa using hfull
      go_upto_region 5 with fail
      have hNo : Old w1 N := lt_of_block hbN
      have hBo : Old w1 B := lt_of_block hbB
      go_cut [] (fun wx => ∃ v', wx.heap[N]? = some (.cells #[.int .i64 most, v'] 49 (0, 0)) ∧ wx.heap[R]? = some (.cells #[.int .i64 0, .slice none 0 0] 49 (0, 0)) ∧ Msgs wx v' (l ++ [m]) ∧ Mod (fun k => k = N) w1 wx ∧ ∀ g, ownOf v' = some g → w1.heap.size ≤ g)
      case first =>
        clear hm0 h
        go_region_law (first
          | (refine step_msgs (by rfl) (.tmp 17) (.tmp 19) (by rfl) (by rfl) (.slice (some ⟨_, 0, none⟩) 0 0) (.slice q l.length c) (by rfl) (by rfl) [] l (Msgs.none_of _ _) hms.fits (hms.keep (S := fun _ => False) (by (repeat first | exact Mod.refl _ _ | assumption | apply Mod.drew | apply Mod.drewN | apply Mod.alloc | (refine Mod.setCell ?_ (Or.inr (by (first | (with_reducible exact Nat.le_refl _) | ((try simp only [World.size_alloc, World.size_setCell, World.size_drew] at *); omega)))) _) | (refine Mod.trans ?_ (by assumption)))) (fun _ _ x => x)).row.src (by simp; omega) ?_
             intro v20 w4 hms4 hmo4 hov4
             have hmz4 : Mod (fun _ => False) w1 w4 := Mod.trans' (by (repeat first | exact Mod.refl _ _ | assumption | apply Mod.drew | apply Mod.drewN | apply Mod.alloc | (refine Mod.setCell ?_ (Or.inr (by (first | (with_reducible exact Nat.le_refl _) | ((try simp only [World.size_alloc, World.size_setCell, World.size_drew] at *); omega)))) _) | (refine Mod.trans ?_ (by assumption)))) hmo4 (by intro i _ hi; simp [ownOf] at hi)
             have hov20 : ∀ b, ownOf v20 = some b → w1.heap.size ≤ b := by intro b hb; rcases hov4 b hb with h1 | h1; (simp [ownOf] at h1); ((try simp only [World.size_alloc, World.size_drew] at h1); omega)
             have n1_4 := hmz4.cell n1 (fun x => x)
             have hbN4 := hmz4.at hbN (fun x => x)
             have hbB4 := hmz4.at hbB (fun x => x)
             have hNo4 : Old w4 N := hNo.mod hmz4
             have hBo4 : Old w4 B := hBo.mod hmz4
             have hnf4 := free_of w4 hbN4 1
             try have hnew4 := hmo4.at (o := .cells m.cells.toArray 26 (0, 0)) (by first | exact blk_new _ _ | exact blk_old _ _ (blk_new _ _) | fail) (by simp [ownOf])
             try simp only [World.size_alloc, World.size_drew] at hnew4
             obtain ⟨q20, c20, hv20, _⟩ := hms4.len
             subst hv20)
          | (refine step_msgs (by rfl) (.tmp 20) (.tmp 22) (by rfl) (by rfl) _ _ (by rfl) (by rfl) l [m] (hms4.keep (S := fun _ => False) (by (repeat first | exact Mod.refl _ _ | assumption | apply Mod.drew | apply Mod.drewN | apply Mod.alloc | (refine Mod.setCell ?_ (Or.inr (by (first | (with_reducible exact Nat.le_refl _) | ((try simp only [World.size_alloc, World.size_setCell, World.size_drew] at *); omega)))) _) | (refine Mod.trans ?_ (by assumption)))) (fun _ _ x => x)) (by simpa using hm) (Src.msg (by first | exact blk_new _ _ | assumption | exact blk_old _ _ (blk_new _ _)) hm) (by simp; omega) ?_
             intro v23 w6 hms6 hmo6 hov6
             have hmz6 : Mod (fun _ => False) w1 w6 := Mod.trans' (by (repeat first | exact Mod.refl _ _ | assumption | apply Mod.drew | apply Mod.drewN | apply Mod.alloc | (refine Mod.setCell ?_ (Or.inr (by (first | (with_reducible exact Nat.le_refl _) | ((try simp only [World.size_alloc, World.size_setCell, World.size_drew] at *); omega)))) _) | (refine Mod.trans ?_ (by assumption)))) hmo6 (by intro i hi1 hi; have := hov20 i hi; omega)
             have hov23 : ∀ b, ownOf v23 = some b → w1.heap.size ≤ b := by
               intro b hb
               rcases hov6 b hb with h1 | h1
               · exact hov20 b h1
               · have := hmz4.size
                 try simp only [World.size_alloc, World.size_drew] at h1
                 omega
             have n1_6 := hmz6.cell n1 (fun x => x)
             have hbN6 := hmz6.at hbN (fun x => x)
             have hbR6 := hmz6.at hbR (fun x => x)
             have hnf6 := free_of w6 hbN6 1
             obtain ⟨q23, c23, hv23, _⟩ := hms6.len
             subst hv23)
          | fail)
        all_goals go_wp2_with fail
        all_goals (
          go_meet
          case rel =>
            simp only [List.length_append, List.length_cons, List.length_nil, Nat.zero_add] at hms6 hov23
            have hN6 := heap_setCell_same w6 N 1 _ _ (.slice q23 (l.length + 1) c23) hbN6
            refine ⟨_, hN6, ?_, hms6.keep ((Mod.refl (fun k => k = N) w6).setCell (.inl rfl) _) (hms6.ne hbN6 (by decide)), (hmz6.mono (T := fun k => k = N) (fun _ _ x => x.elim)).setCell (.inl rfl) _, hov23⟩
            rw [Below.heap_setCell _ _ _ _ (show R ≠ N by omega)]
            exact hbR6)
      case rest =>
        obtain ⟨v', hbN', hbR', hms', hmo', hov'⟩ := hcut
        have n0' : wc.cell? ⟨N, 0, none⟩ = some (.int .i64 most) := cell_of wc hbN' 0
        have n1' : wc.cell? ⟨N, 1, none⟩ = some v' := cell_of wc hbN' 1
        have r0' : wc.cell? ⟨R, 0, none⟩ = some (.int .i64 0) := cell_of wc hbR' 0
        have r1' : wc.cell? ⟨R, 1, none⟩ = some (.slice none 0 0) := cell_of wc hbR' 1
        have rf0' : wc.frozen? ⟨R, 0, none⟩ = false := free_of wc hbR' 0
        have rf1' : wc.frozen? ⟨R, 1, none⟩ = false := free_of wc hbR' 1
        have hmf : Mod (fun _ => False) w wc := hm0.trans' hmo' (by rintro i hi rfl; omega)
        have hsz := hm0.size
        clear hm0 hmo'
        obtain ⟨q', c', hv', _⟩ := hms'.len
        subst hv'
        go_wp2
        refine refsend_ret rfl rfl rfl (two_set hbR') ⟨_, by rw [hres]; simp, by rw [hres2]; exact hms'.keep (((Mod.refl (fun k => k = R) wc).setCell (.inl rfl) _).setCell (.inl rfl) _) (hms'.ne hbR' (by decide)), (hmf.setCell (.inr (show w.heap.size ≤ R by omega)) _).setCell (.inr (show w.heap.size ≤ R by omega)) _, fun g hg => .inr (Nat.le_trans hsz (hov' g hg))⟩
  · have hres : sendNum l most m = 2 := by simp [sendNum, hck]
    have hres2 : sendList l most m = l := by simp [sendList, hres]
    go_wp2
    refine refsend_ret rfl rfl rfl (two_set hbR) ⟨_, by rw [hres], by rw [hres2]; exact hms.keep (((Mod.refl (fun k => k = R) w1).setCell (.inl rfl) _).setCell (.inl rfl) _) (hms.ne hbR (by decide)), (hm0.setCell (.inr (show w.heap.size ≤ R by omega)) _).setCell (.inr (show w.heap.size ≤ R by omega)) _, fun g hg => .inl hg⟩
end
end Go.Proofs.Ytklokcndhkhdmaa
