/- The document's net: Deliver. -/
import Derived.Test.YtklokcndhkhdmaaNetL
import Derived.Test.YtklokcndhkhdmaaRowC
namespace Go.Proofs.Ytklokcndhkhdmaa
open Go.RowKit
set_option linter.unusedVariables false
set_option linter.unusedSimpArgs false

theorem store26 (b : Nat) (w : World) (cells : Array Value) (h : rowOf w b = some 20) (hn : cells.size = 20) (h1 : cells.all (·.oneCell') = true) : (Instr.storeAt 26 (.pointer (some ⟨b, 0, none⟩)) (.agg cells)).run Try.prog w = .ok () (w.setRow b cells) :=
  store_whole _ 20 info26 b w cells h hn h1
theorem pick_steps (pick : Int) (n : Nat) (h : 0 < n) : pick.tmod n = (pickAt pick n : Int) ∨ (pick.tmod n < 0 ∧ pick.tmod n + n = (pickAt pick n : Int)) := by
  obtain ⟨hpk, hpk1, hpk2⟩ := pick_tmod pick n h
  generalize pick.tmod n = t at *
  rcases Int.lt_or_le t 0 with h1 | h1
  · right
    refine ⟨h1, ?_⟩
    rw [← hpk, Int.tmod_eq_of_lt (by omega) (by omega)]
  · left
    rw [Int.tmod_eq_emod_of_nonneg (by omega), Int.add_emod_right, Int.emod_eq_of_lt h1 hpk2] at hpk
    exact hpk
/-- Deliver's answer. -/
theorem refdel_ret {a : Act} {w : World} {R K : Nat} {x y : Value} {m : Msg} {b : Bool} {Q : Ending → World → Prop} (hm : m.Fits) (h4 : a.tmps[4]? = some (.pointer (some ⟨R, 0, none⟩))) (h5 : a.tmps[5]? = some (.pointer (some ⟨K, 0, none⟩))) (h6 : a.tmps[6]? = some (.bool b)) (hd : a.defers = [])
    (hb : w.heap[R]? = some (.cells #[x, y] 49 (0, 0))) (hk : w.heap[K]? = some (.cells m.cells.toArray 26 (0, 0))) (h : Q (.returned (.tuple #[.agg #[x, y], .agg m.cells.toArray, .bool b])) w) : bodyPost Try.prog Try.f24 Q .ret a w := by
  have hlo := run_loadVar_row (P := Try.prog) w R 49 49 _ _ _ hb Try.underlying49 rfl (by rw [info49]; rfl)
  have hlk := run_loadVar_row (P := Try.prog) w K 26 26 _ _ _ hk Try.underlying26 rfl (by rw [info26]; simp [cells_length m hm])
  exact bodyPost_ret (v := .tuple #[.agg #[x, y], .agg m.cells.toArray, .bool b]) (by simp [results, Try.results24, asAddr, hlo, hlk, h4, h5, h6]) hd h

/-- The first ones of a list, to be copied. -/
theorem Msgs.front {w : World} {g n cap : Nat} {l : List Msg} (h : Msgs w (.slice (some ⟨g, 0, none⟩) n (cap + 1)) l) (k : Nat) (hk : k ≤ l.length) (c : Nat) : Src w 20 (.slice (some ⟨g, 0, none⟩) k c) (l.take k).length (flat (l.take k)) := by
  have hl : (l.take k).length = k := by simp; omega
  refine ⟨flat_length _ (fun m hm => h.fits m (List.mem_of_mem_take hm)), _, _, by rw [hl], by simp, ?_⟩
  rintro a ⟨⟩ j u hu
  have hr := h.row.range rfl 0 (flat l) (by intro j u hu; simpa using hu)
  rw [← flat_take l h.fits, List.getElem?_take] at hu
  split at hu
  · rw [addr_add0]
    have := hr j u hu
    simpa using this
  · cases hu

theorem rowOf_drew (w : World) (b : Nat) : rowOf w.drew b = rowOf w b := rfl
theorem rowOf_setCell {w : World} {a : Addr} {u : Value} {b n : Nat} (hb : b ≠ a.block) (h : rowOf w b = some n) : rowOf (w.setCell a u) b = some n := by
  unfold rowOf at *
  rw [Below.heap_setCell _ _ _ _ hb]
  exact h
theorem rowOf_setRow {w : World} {b n : Nat} {cells : Array Value} (hc : cells.size = n) (h : rowOf w b = some n) : rowOf (w.setRow b cells) b = some n := by
  unfold rowOf at *
  split at h
  · rename_i cs t hb
    rw [setRow_heap w b _ cells _ _ hb]
    simpa using hc
  · cases h
theorem rowOf_of {w : World} {b : Nat} {cs : Array Value} {t : TypeId} (h : w.heap[b]? = some (.cells cs t (0, 0))) : rowOf w b = some cs.size := by
  unfold rowOf
  rw [h]
  rfl
theorem keepDel {wc w' : World} {N R K C : Nat} {x y : Value} {o : Obj} (h1 : wc.cell? ⟨N, 0, none⟩ = some x) (h2 : wc.cell? ⟨N, 1, none⟩ = some y) (h3 : wc.heap[C]? = some o) (hR : N < R) (hK : R < K) (hC : K < C)
    (hm : Mod (fun k => k = R ∨ k = K) wc w') (hr : rowOf w' K = some 20) : Mod (fun k => k = R ∨ k = K) wc w' ∧ rowOf w' K = some 20 ∧ w'.cell? ⟨N, 0, none⟩ = some x ∧ w'.cell? ⟨N, 1, none⟩ = some y ∧ w'.heap[C]? = some o :=
  ⟨hm, hr, hm.cell h1 (show ¬ (N = R ∨ N = K) by omega), hm.cell h2 (show ¬ (N = R ∨ N = K) by omega), hm.at h3 (by omega)⟩

section
attribute [-go_sem] Instr.loadAt Instr.buildSlice Instr.storeAt
attribute [local go_sem 500] run_loadAt_open run_storeAt_open
attribute [local go_sem] heap_drew blk_past cell_past free_past cellsAt old_alloc
attribute [local go_sem 2000] load26 build_one build_none store26
attribute [local go_sem ↓] Go.wp_at_zero Go.wp_at_succ
set_option maxHeartbeats 4000000 in
theorem refdel_ok (w : World) (v : Value) (l : List Msg) (most pick : Int) (h : Msgs w v l) (hl : l.length ≤ 1000000) (h0 : 0 < l.length) :
    Calls Try.prog 24 #[.agg #[.int .i64 most, v], .int .i64 pick] w fun e w' => ∃ v' m, l[pickAt pick l.length]? = some m ∧ e = .returned (.tuple #[.agg #[.int .i64 most, v'], .agg m.cells.toArray, .bool true]) ∧ Msgs w' v' (l.eraseIdx (pickAt pick l.length)) ∧
      Mod (fun _ => False) w w' ∧ ∀ g, ownOf v' = some g → w.heap.size ≤ g := by
  obtain ⟨q, c, hv, hc⟩ := h.len
  rw [hv]
  go_enter Try.func24, Try.ntmps24
  go_upto_region 1 with fail
  rw [← zeroMsg_cells]
  have hall := allocs3 w (Obj.cells #[Value.int IntKind.i64 most, Value.slice q l.length c] 49) (Obj.cells #[Value.int IntKind.i64 0, Value.slice none 0 0] 49) (Obj.cells zeroMsg.cells.toArray 26)
  obtain ⟨N, hN⟩ : ∃ N, N = w.heap.size := ⟨_, rfl⟩
  rw [← hN] at hall ⊢
  generalize ((w.alloc (Obj.cells #[Value.int IntKind.i64 most, Value.slice q l.length c] 49)).alloc (Obj.cells #[Value.int IntKind.i64 0, Value.slice none 0 0] 49)).alloc (Obj.cells zeroMsg.cells.toArray 26) = w0 at *
  generalize hNR : N + 1 = R at *
  generalize hNK : R + 1 = K at *
  have hNw : w.heap.size ≤ N := by omega
  have hR1 : N < R := by omega
  have hK1 : R < K := by omega
  clear hN hNR hNK
  obtain ⟨hbN, hbR, hbK, hm0⟩ := hall
  have hms := h.keep hm0 (fun _ _ x => x)
  rw [hv] at hms
  obtain ⟨hpk, hpk1, hpk2⟩ := pick_tmod pick l.length h0
  have hlt := pickAt_lt pick l.length h0
  have hpick := pick_steps pick l.length h0
  obtain ⟨m, hm⟩ : ∃ m, l[pickAt pick l.length]? = some m := ⟨_, List.getElem?_eq_getElem hlt⟩
  have hl0 : ((l.length : Int) == 0) = false := beq_eq_false_iff_ne.2 (by omega)
  generalize hkp : pickAt pick l.length = k at *
  have n0 : w0.cell? ⟨N, 0, none⟩ = some (.int .i64 most) := cell_of w0 hbN 0
  have n1 : w0.cell? ⟨N, 1, none⟩ = some (.slice q l.length c) := cell_of w0 hbN 1
  go_upto_if 21 with fail
  go_cut [7] (fun v7 wx => v7 = .int .i64 k ∧ wx = w0)
  case first =>
    rcases hpick with hp | ⟨hp1, hp2⟩
    · have hp3 : (0 : Int) ≤ pick.tmod l.length := by omega
      go_wp2_with fail
      go_meet
      case rel => exact ⟨by first | rfl | rw [hp], rfl⟩
    · go_wp2_with fail
      go_meet
      case rel => exact ⟨by first | rfl | rw [hp2], rfl⟩
  case rest =>
    obtain ⟨rfl, rfl⟩ := hcut
    have hmf := hms.fits m (List.mem_of_getElem? hm)
    have hcl := cells_length m hmf
    obtain ⟨g, cap, hvq, hvg, hnc, hcm⟩ := hms.row.full h0
    have hrg := hms.row.range hvg (k * 20) m.cells (flat_at l hms.fits k m hm)
    simp only [Value.slice.injEq, true_and] at hvq
    obtain ⟨rfl, rfl⟩ := hvq
    have hk1 : (0 : Int) ≤ (k : Int) := by omega
    have hk2 : (k : Int) < (l.length : Int) := by omega
    have hk5 : (k : Int) ≤ (cap : Int) + 1 := by omega
    have hk3 : (k : Int) + 1 ≤ (l.length : Int) := by omega
    have hk4 : (0 : Int) ≤ (k : Int) + 1 := by omega
    have hwk : IntKind.i64.wrap ((k : Int) + 1) = (k : Int) + 1 := by rw [IntKind.wrap_i64]; omega
    clear hpick hpk hpk1 hpk2 hl0
    have hlm := load_msg_at m hmf g (k * 20) wc hrg
    go_upto_region 7 with (refine wpL_storeNew rfl 26 _ _ rfl rfl m.cells.toArray rfl _ _ 20 info26 (by simp [hcl]) rfl (cells_one m) ?_)
    clear hlm hrg
    have hCm := blk_new wc (Obj.cells m.cells.toArray 26)
    have hm3 : Mod (fun _ => False) wc (wc.alloc (Obj.cells m.cells.toArray 26)) := (Mod.refl _ _).alloc _
    have hKC : K < wc.heap.size := lt_of_block hbK
    have hsz := hm0.size
    generalize wc.heap.size = C at hCm hKC hsz ⊢
    generalize wc.alloc (Obj.cells m.cells.toArray 26) = w3 at hm3 hCm ⊢
    replace hbN := hm3.at hbN (fun x => x)
    replace hbR := hm3.at hbR (fun x => x)
    replace hbK := hm3.at hbK (fun x => x)
    replace n0 := hm3.cell n0 (fun x => x)
    replace n1 := hm3.cell n1 (fun x => x)
    replace hms := hms.keep hm3 (fun _ _ x => x)
    replace hm0 := hm0.trans hm3
    clear hm3
    have nf := free_of w3 hbN 1
    have hNo : Old w3 N := lt_of_block hbN
    have hC3 : C < w3.heap.size := lt_of_block hCm
    have hle : l.take k ++ l.drop (k + 1) = l.eraseIdx k := (List.eraseIdx_eq_take_drop_succ ..).symm
    have hll : (l.eraseIdx k).length = l.length - 1 := by rw [List.length_eraseIdx, if_pos hlt]
    have hltk : (l.take k).length = k := by simp; omega
    simp only [Act.put]
    go_cut [] (fun wx => ∃ v', wx.heap[N]? = some (.cells #[.int .i64 most, v'] 49 (0, 0)) ∧ Msgs wx v' (l.eraseIdx k) ∧ Mod (fun k => k = N) w3 wx ∧ ∀ g, ownOf v' = some g → w3.heap.size ≤ g)
    case first =>
      clear hm0 h
      generalize hle2 : l.eraseIdx k = le at hle hll
      obtain ⟨ptr, hptr⟩ : ∃ ptr : Option Addr, (if cap = k then some ⟨g, 0, none⟩ else some ⟨g, (k + 1) * 20, none⟩) = ptr := ⟨_, rfl⟩
      go_region_law (first
        | (refine step_msgs (by rfl) (.tmp 32) (.tmp 36) (by rfl) (by rfl) (.slice (some ⟨_, 0, none⟩) 0 0) _ (by rfl) (by rfl) [] (l.take k) (Msgs.none_of _ _) (fun m hm => hms.fits m (List.mem_of_mem_take hm)) ((hms.keep (S := fun _ => False) (by (repeat first | exact Mod.refl _ _ | assumption | apply Mod.drew | apply Mod.drewN | apply Mod.alloc | (refine Mod.setCell ?_ (Or.inr (by (first | (with_reducible exact Nat.le_refl _) | ((try simp only [World.size_alloc, World.size_setCell, World.size_drew] at *); omega)))) _) | (refine Mod.trans ?_ (by assumption)))) (fun _ _ x => x)).front k (by omega) _) (by simp; omega) ?_
           intro v20 w4 hms4 hmo4 hov4
           have hmz4 : Mod (fun _ => False) w3 w4 := Mod.trans' (by (repeat first | exact Mod.refl _ _ | assumption | apply Mod.drew | apply Mod.drewN | apply Mod.alloc | (refine Mod.setCell ?_ (Or.inr (by (first | (with_reducible exact Nat.le_refl _) | ((try simp only [World.size_alloc, World.size_setCell, World.size_drew] at *); omega)))) _) | (refine Mod.trans ?_ (by assumption)))) hmo4 (by intro i _ hi; simp [ownOf] at hi)
           have hov20 : ∀ b, ownOf v20 = some b → w3.heap.size ≤ b := by intro b hb; rcases hov4 b hb with h1 | h1; (simp [ownOf] at h1); ((try simp only [World.size_alloc, World.size_drew] at h1); omega)
           have n1_4 := hmz4.cell n1 (fun x => x)
           have hbN4 := hmz4.at hbN (fun x => x)
           have hNo4 : Old w4 N := hNo.mod hmz4
           rw [List.nil_append] at hms4
           obtain ⟨q20, c20, hv20, _⟩ := hms4.len
           rw [hltk] at hv20
           subst hv20)
        | (refine step_msgs (by rfl) (.tmp 37) (.tmp 42) (by rfl) (by rfl) _ _ (by rfl) (by rfl) (l.take k) (l.drop (k + 1)) (hms4.keep (S := fun _ => False) (by (repeat first | exact Mod.refl _ _ | assumption | apply Mod.drew | apply Mod.drewN | apply Mod.alloc | (refine Mod.setCell ?_ (Or.inr (by (first | (with_reducible exact Nat.le_refl _) | ((try simp only [World.size_alloc, World.size_setCell, World.size_drew] at *); omega)))) _) | (refine Mod.trans ?_ (by assumption)))) (fun _ _ x => x)) (fun m hm => hms.fits m (List.mem_of_mem_drop hm)) (by rw [← hptr]; exact (hms.keep (S := fun _ => False) (by (repeat first | exact Mod.refl _ _ | assumption | apply Mod.drew | apply Mod.drewN | apply Mod.alloc | (refine Mod.setCell ?_ (Or.inr (by (first | (with_reducible exact Nat.le_refl _) | ((try simp only [World.size_alloc, World.size_setCell, World.size_drew] at *); omega)))) _) | (refine Mod.trans ?_ (by assumption)))) (fun _ _ x => x)).tail' k hlt hnc _) (by simp; omega) ?_
           intro v23 w6 hms6 hmo6 hov6
           have hmz6 : Mod (fun _ => False) w3 w6 := Mod.trans' (by (repeat first | exact Mod.refl _ _ | assumption | apply Mod.drew | apply Mod.drewN | apply Mod.alloc | (refine Mod.setCell ?_ (Or.inr (by (first | (with_reducible exact Nat.le_refl _) | ((try simp only [World.size_alloc, World.size_setCell, World.size_drew] at *); omega)))) _) | (refine Mod.trans ?_ (by assumption)))) hmo6 (by intro i hi1 hi; have := hov20 i hi; omega)
           have hov23 : ∀ b, ownOf v23 = some b → w3.heap.size ≤ b := by
             intro b hb
             rcases hov6 b hb with h1 | h1
             · exact hov20 b h1
             · have := hmz4.size
               try simp only [World.size_alloc, World.size_drew] at h1
               omega
           have hbN6 := hmz6.at hbN (fun x => x)
           have n1_6 := hmz6.cell n1 (fun x => x)
           have hnf6 := free_of w6 hbN6 1
           rw [hle] at hms6
           obtain ⟨q23, c23, hv23, _⟩ := hms6.len
           subst hv23)
        | fail)
      all_goals go_wp2_with fail
      all_goals (
        go_meet
        case rel =>
          rw [hll] at hms6 hov23
          have hN6 := heap_setCell_same w6 N 1 _ _ (.slice q23 (l.length - 1) c23) hbN6
          rw [hle2]
          exact ⟨_, hN6, hms6.keep ((Mod.refl (fun k => k = N) w6).setCell (.inl rfl) _) (hms6.ne hbN6 (by decide)), (hmz6.mono (T := fun k => k = N) (fun _ _ x => x.elim)).setCell (.inl rfl) _, hov23⟩)
    case rest =>
      obtain ⟨v', hbN', hms', hmo', hov'⟩ := hcut
      have hbR' := hmo'.at hbR (by omega)
      have hbK' := hmo'.at hbK (by omega)
      have hCm' := hmo'.at hCm (by omega)
      have n0' : wc.cell? ⟨N, 0, none⟩ = some (.int .i64 most) := cell_of wc hbN' 0
      have n1' : wc.cell? ⟨N, 1, none⟩ = some v' := cell_of wc hbN' 1
      have r0' : wc.cell? ⟨R, 0, none⟩ = some (.int .i64 0) := cell_of wc hbR' 0
      have r1' : wc.cell? ⟨R, 1, none⟩ = some (.slice none 0 0) := cell_of wc hbR' 1
      have rf0' : wc.frozen? ⟨R, 0, none⟩ = false := free_of wc hbR' 0
      have rf1' : wc.frozen? ⟨R, 1, none⟩ = false := free_of wc hbR' 1
      have hmf' : Mod (fun _ => False) w wc := hm0.trans' hmo' (by rintro i hi rfl; omega)
      have hsz' := hm0.size
      obtain ⟨q', c', hv', _⟩ := hms'.len
      clear hbN hbR hbK hCm n0 n1 nf hms hmo' hm0 h
      subst hv'
      go_upto_region 8 with fail
      have hrK : rowOf wc K = some 20 := rowOf_of hbK'
      have hall : m.cells.all (·.oneCell') = true := List.all_eq_true.2 (fun v hv => cells_one m v hv)
      go_cut [6] (fun v6 wx => v6 = .bool true ∧ wx.heap[R]? = some (.cells #[.int .i64 most, .slice q' (l.eraseIdx k).length c'] 49 (0, 0)) ∧ wx.heap[K]? = some (.cells m.cells.toArray 26 (0, 0)) ∧ Mod (fun k => k = R ∨ k = K) wc wx)
      case first =>
        go_region_held3 (fun w' => Mod (fun k => k = R ∨ k = K) wc w' ∧ rowOf w' K = some 20 ∧ w'.cell? ⟨N, 0, none⟩ = some (.int .i64 most) ∧ w'.cell? ⟨N, 1, none⟩ = some (.slice q' (l.eraseIdx k).length c') ∧ w'.heap[C]? = some (.cells m.cells.toArray 26 (0, 0)))
          ((go_split_ands; refine keepDel n0' n1' hCm' hR1 hK1 hKC ?_ ?_; (· repeat first | exact Mod.refl _ _ | assumption | apply Mod.drew | refine Mod.setCell ?_ (.inl (.inl rfl)) _ | refine Mod.setRow ?_ (.inl (.inr rfl)) _); (· repeat first | exact hrK | assumption | rw [rowOf_drew] | refine rowOf_setCell (show K ≠ R by omega) ?_ | refine rowOf_setRow (by simp [hcl]) ?_))) (fail)
        go_wp2_with fail
        go_split_ands
        go_meet
        case rel =>
          rw [hll]
          refine ⟨rfl, ?_, ?_, by assumption⟩
          · rw [setRow_other _ K R _ (by omega)]
            exact two_set hbR'
          · have hK3 : ((wc.setCell ⟨R, 0, none⟩ (.int .i64 most)).setCell ⟨R, 1, none⟩ (.slice q' (l.length - 1) c')).drew.heap[K]? = some (.cells zeroMsg.cells.toArray 26 (0, 0)) := by
              rw [heap_drew, Below.heap_setCell _ _ _ _ (show K ≠ R by omega), Below.heap_setCell _ _ _ _ (show K ≠ R by omega)]
              exact hbK'
            exact setRow_heap _ K _ _ _ _ hK3
      case rest =>
        obtain ⟨rfl, hR2, hK2, hm2⟩ := hcut
        go_wp2
        have hown : ∀ b, ownOf (.slice q' (l.eraseIdx k).length c') = some b → ¬ (b = R ∨ b = K) := by
          rintro b hb (rfl | rfl)
          · have := hov' _ hb; omega
          · have := hov' _ hb; omega
        exact refdel_ret hmf rfl rfl rfl rfl hR2 hK2 ⟨_, m, by rw [hkp]; exact hm, rfl, by rw [hkp]; exact hms'.keep hm2 hown, hmf'.trans' hm2 (by rintro i hi (rfl | rfl) <;> omega), fun g hg => Nat.le_trans hsz' (hov' g hg)⟩
end
end Go.Proofs.Ytklokcndhkhdmaa
