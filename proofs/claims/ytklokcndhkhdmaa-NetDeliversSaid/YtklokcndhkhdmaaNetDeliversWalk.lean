/- NetDelivers returns true: the walk. -/
import Derived.Test.YtklokcndhkhdmaaNetR
namespace Go.Proofs.Ytklokcndhkhdmaa
open Go.RowKit
set_option linter.unusedVariables false
set_option linter.unusedSimpArgs false

theorem netDelivers_skip (a : Option Addr) (n c : Nat) (pick : Int) (w : World) (h : 100 < (n : Int)) :
    Calls Try.prog 7 #[.slice a n c, .int .i64 pick] w fun e w' => e = .returned (.bool true) ∧ Mod (fun _ => False) w w' := by
  go_enter Try.func7, Try.ntmps7
  go_wp2_with fail
  refine (works_ok _).mono ?_
  rintro e w1 ⟨rfl, hm⟩
  go_wp2
  go_ret
  exact ⟨rfl, hm⟩
section
attribute [-go_sem] Instr.loadAt Instr.storeAt
attribute [local go_sem 500] run_loadAt_open run_storeAt_open
attribute [local go_sem] heap_drew blk_past cell_past free_past cellsAt old_alloc
attribute [local go_sem 2000] load26 store26
set_option maxHeartbeats 4000000 in
theorem netDelivers_main (a : Option Addr) (c : Nat) (l : List Msg) (pick : Int) (w : World) (h3 : l.length ≤ 100) (ha : ArgList Msg.cells Msg.Fits 20 w a l) :
    Calls Try.prog 7 #[.slice a l.length c, .int .i64 pick] w fun e w' => e = .returned (.bool true) ∧ Mod (fun _ => False) w w' := by
  have h3' : (l.length : Int) ≤ 100 := by omega
  go_enter Try.func7, Try.ntmps7
  go_wp2_with fail
  refine (new_ok _ 200 (by omega) (by omega)).mono ?_
  rintro e w1 ⟨p, rfl, hn, hp, hm1⟩
  go_wp2_with fail
  obtain ⟨b, hb⟩ : ∃ b, b = w1.heap.size := ⟨_, rfl⟩
  rw [← hb]
  have hbox := blk_new w1 (Obj.cells #[.int .i64 200, .slice none 0 0] 49)
  rw [← hb] at hbox
  have hmA : Mod (fun _ => False) w1 (w1.alloc (Obj.cells #[.int .i64 200, .slice none 0 0] 49)) := (Mod.refl _ _).alloc _
  have hNb : w.heap.size ≤ b := by have := hm1.size; omega
  clear hb
  generalize w1.alloc (Obj.cells #[.int .i64 200, .slice none 0 0] 49) = w2 at hbox hmA ⊢
  have hm2 := hm1.trans hmA
  have hpair : Pair w.heap.size w2 p b [] 200 (.slice none 0 0) none := ⟨hn.keep hmA (fun x => x) (fun _ _ x => x), Msgs.empty _, hbox, by simp [ownOf], by simp, hp, hNb⟩
  clear hn hmA hbox hm1
  go_loopw [8] (fun i wr => ∃ (j : Nat) (L : List Msg) (v : Value) (o : Option Nat), j ≤ l.length ∧ i = .int .i64 j ∧ Pair w.heap.size wr p b L 200 v o ∧ Mod (fun _ => False) w wr) (fun i _ => l.length - (intOf i).toNat)
  case atStart => exact ⟨0, [], _, _, by omega, rfl, hpair, hm2⟩
  case round =>
    obtain ⟨j, L, v, o, hj, rfl, hP, hmo⟩ := hrel
    obtain ⟨q, cv, hvq, _⟩ := hP.msgs.len
    have hbx := hP.box
    rw [hvq] at hbx
    have d0 : wr.cell? ⟨b, 0, none⟩ = some (.int .i64 200) := cell_of wr hbx 0
    have d1 : wr.cell? ⟨b, 1, none⟩ = some (.slice q L.length cv) := cell_of wr hbx 1
    have f0 := free_of wr hbx 0
    have f1 := free_of wr hbx 1
    have hLs := hP.net.small
    by_cases hlt : j < l.length
    · obtain ⟨x, hx⟩ : ∃ x, l[j]? = some x := ⟨_, List.getElem?_eq_getElem hlt⟩
      have hxf := ha.fits x (List.mem_of_getElem? hx)
      obtain ⟨ba, oa, rfl, hxr⟩ := (ha.keep hmo).at_ j x hx
      have hj0 : (0 : Int) ≤ (j : Int) := by omega
      have hja : (j : Int) < (l.length : Int) := by omega
      have hlx := load_msg_at x hxf ba (oa + j * 20)
      have hwr : w.heap.size ≤ wr.heap.size := hmo.size
      have hba : ba < w.heap.size := by
        obtain ⟨b', o', e', hr'⟩ := ha.at_ j x hx
        cases e'
        exact w.block_lt_of_cell? _ (hr' 0 _ (cells_0 x))
      have hbN := hP.bN
      go_upto_region 8 with fail
      go_cut [] (fun wx => ∃ (v' : Value), wx.heap[b]? = some (.cells #[.int .i64 200, v'] 49 (0, 0)) ∧
        Msgs wx v' (sendList L 200 x) ∧ Mod (fun k => k = b) wr wx ∧ (∀ g, ownOf v' = some g → ownOf v = some g ∨ wr.heap.size ≤ g))
      case first =>
        go_region_with (go_at_call 23; refine (refsend_ok _ _ L 200 x ((hvq ▸ hP.msgs).keep (S := fun _ => False) (by go_split_ands; (repeat first | exact Mod.refl _ _ | assumption | apply Mod.drew | apply Mod.drewN | apply Mod.alloc | (refine Mod.setCell ?_ (Or.inr (by (first | (with_reducible exact Nat.le_refl _) | ((try simp only [World.size_alloc, World.size_setCell, World.size_drew] at *); omega)))) _) | (refine Mod.trans ?_ (by assumption)))) (fun _ _ x => x)) hxf (by omega)).mono ?_; rintro e wb ⟨vb, rfl, hmsb, hmb, hovb⟩; obtain ⟨qb, cb, hvb, _⟩ := hmsb.len; subst hvb; have e0 := hmb.cell (show (World.drew _).cell? _ = _ from d0) (fun x => x); have e1 := hmb.cell (show (World.drew _).cell? _ = _ from d1) (fun x => x); have hbb := hmb.at (show (World.drew _).heap[b]? = _ from hbx) (fun x => x); have g0 := free_of wb hbb 0; have g1 := free_of wb hbb 1)
        all_goals (
          go_wp2_with fail
          go_meet
          case rel =>
            have hq : Mod (fun k => k = b) wr wb := ((Mod.refl (fun _ => False) wr).drew.trans hmb).mono (fun _ _ x => x.elim)
            exact ⟨_, two_set hbb, hmsb.keep (((Mod.refl (fun k => k = b) wb).setCell (.inl rfl) _).setCell (.inl rfl) _) (hmsb.ne hbb (by decide)), (hq.setCell (.inl rfl) _).setCell (.inl rfl) _, fun g hg => by rcases hovb g hg with hh | hh; exact .inl (by rw [hvq]; exact hh); exact .inr hh⟩)
      case rest =>
        obtain ⟨v', hb5, hms5, hm5, hov5⟩ := hcut
        have hxr5 := hm5.range hxr (by omega)
        obtain ⟨hn5, hmo5, hend⟩ := hP.mid hmo hm5 hb5 hms5 hov5
        clear hmo hm5 hms5 hov5 d0 d1 f0 f1 hbx hP hxr hb5
        go_wp2_with fail
        refine (send_ok _ p o L 200 hn5 x hxf).mono ?_
        rintro e w6 ⟨rfl, o6, hn6, hm6, ho6⟩
        obtain ⟨hP6, hmo6⟩ := hend w6 o6 hn6 hm6 ho6
        clear hn5 hmo5 hend hn6 hm6 ho6 hxr5
        go_wp2_with fail
        go_roundw
        case rel => exact ⟨j + 1, _, _, _, by omega, by go_num, hP6, hmo6⟩
        case measure => simp [intOf]; omega
    · obtain rfl : j = l.length := by omega
      have hdf := delMsg_fits hP.msgs.fits pick
      have hdc := cells_length _ hdf
      have hall : (delMsg L pick).cells.all (·.oneCell') = true := List.all_eq_true.2 (fun v hv => cells_one _ v hv)
      go_upto_region 10 with fail
      go_wp2_with fail
      refine (refdel_any _ _ L 200 pick (hvq ▸ hP.msgs) (by omega)).mono ?_
      rintro e w3 ⟨v', rfl, hms3, hm3, hov3⟩
      obtain ⟨q', c', hv', _⟩ := hms3.len
      subst hv'
      have hn3 := hP.net.keep hm3 (fun x => x) (fun _ _ x => x)
      have hap : ∀ g, ownOf (.slice q' (delList L pick).length c') = some g → ¬ (g = p ∨ o = some g) := by
        intro g hg hh
        have hl := hP.net.lt
        rcases hov3 g hg with h1 | h1
        · rcases hh with hh | hh
          · exact hP.pv g (hvq ▸ h1) hh
          · exact (hP.apart g (hvq ▸ h1)).1 hh
        · rcases hh with hh | hh
          · omega
          · have := hl.2 g hh; omega
      have hwo : ∀ i, i < w.heap.size → i = p ∨ o = some i → False := by
        rintro i hi (rfl | hh)
        · have := hP.pN; omega
        · have := hP.own i hh; omega
      replace hm3 := hmo.trans hm3
      clear hP hmo d0 d1 f0 f1 hbx hov3
      go_upto_region 11 with (refine wpL_storeNew' rfl 26 _ _ rfl _ rfl (by simp) (delMsg L pick).cells.toArray rfl _ _ 20 info26 (by simp [hdc]) rfl (cells_one _) ?_)
      obtain ⟨hb9, hb10, hmA⟩ := allocs2 w3 (Obj.cells #[Value.int IntKind.i64 200, Value.slice q' (delList L pick).length c'] 49) (Obj.cells (delMsg L pick).cells.toArray 26)
      have hsA : w3.heap.size < w3.heap.size + 1 := by omega
      generalize w3.heap.size + 1 = b10 at *
      have hp3 := hn3.lt
      generalize w3.heap.size = b9 at *
      generalize (w3.alloc (Obj.cells #[Value.int IntKind.i64 200, Value.slice q' (delList L pick).length c'] 49)).alloc (Obj.cells (delMsg L pick).cells.toArray 26) = w4 at *
      replace hn3 := hn3.keep hmA (fun x => x) (fun _ _ x => x)
      replace hms3 := hms3.keep hmA (fun _ _ x => x)
      replace hm3 := hm3.trans hmA
      clear hmA
      try simp only [Act.put]
      go_wp2_with fail
      refine (deliver_any _ p o L 200 hn3 pick).mono ?_
      rintro e w5 ⟨rfl, o5, hn5, hm5, -⟩
      have hb9' := hm5.at hb9 (by rintro (hh | hh); omega; have := hp3.2 _ hh; omega)
      have hb10' := hm5.at hb10 (by rintro (hh | hh); omega; have := hp3.2 _ hh; omega)
      have hms5 := hms3.keep hm5 hap
      have hmo5 := hm3.trans' hm5 hwo
      clear hn3 hm5 hb9 hb10 hms3 hm3 hap hwo hp3
      have hcc9 : w5.cell? ⟨b9, 0, none⟩ = some (.int .i64 200) := cell_of w5 hb9' 0
      have hcc9' : w5.cell? ⟨b9, 1, none⟩ = some (.slice q' (delList L pick).length c') := cell_of w5 hb9' 1
      go_upto_region 12 with (refine wpL_storeNew rfl 26 _ _ rfl rfl (delMsg L pick).cells.toArray rfl _ _ 20 info26 (by simp [hdc]) rfl (cells_one _) ?_)
      have hb12 := blk_new w5 (Obj.cells (delMsg L pick).cells.toArray 26)
      have hmB : Mod (fun _ => False) w5 (w5.alloc (Obj.cells (delMsg L pick).cells.toArray 26)) := (Mod.refl _ _).alloc _
      generalize w5.heap.size = b12 at *
      generalize w5.alloc (Obj.cells (delMsg L pick).cells.toArray 26) = w6 at *
      replace hb9 := hmB.at hb9' (fun x => x)
      replace hb10 := hmB.at hb10' (fun x => x)
      replace hcc9 := hmB.cell hcc9 (fun x => x)
      replace hcc9' := hmB.cell hcc9' (fun x => x)
      have hn6 := hn5.keep hmB (fun x => x) (fun _ _ x => x)
      have hms6 := hms5.keep hmB (fun _ _ x => x)
      have hmo6 := hmo5.trans hmB
      clear hn5 hms5 hmo5 hmB hb9' hb10'
      try simp only [Act.put]
      have hq : ∀ w, (binOp .eql 26 (.agg (delMsg L pick).cells.toArray) (.agg (delMsg L pick).cells.toArray)).run Try.prog w = .ok (.bool true) w := fun w => by
        rw [eql_msg w _ _ hdf hdf]; simp
      have hqb : (delOk L == delOk L) = true := by simp
      go_wp2_with (first
        | (go_at_call 10; refine (num_ok _ _).mono ?_; rintro e w7 ⟨rfl, rfl⟩)
        | (refine wpL_load rfl 26 _ rfl b12 rfl _ hb12 Try.underlying26 rfl 20 info26 (by simp [hdc]) ?_)
        | (refine wpL_load rfl 26 _ rfl b10 rfl _ hb10 Try.underlying26 rfl 20 info26 (by simp [hdc]) ?_)
        | (go_at_call 22; refine (is_ok _ p o5 _ 200 200 _ hn6 hms6).mono ?_; rintro e w7 ⟨rfl, hm7⟩)
        | (go_at_call 13; refine (works_ok _).mono ?_; rintro e w8 ⟨rfl, hm8⟩))
      go_ret
      exact ⟨rfl, (hmo6.trans hm7).trans hm8⟩
end
theorem netDelivers_walk (a : Option Addr) (c : Nat) (l : List Msg) (pick : Int) (w : World) (ha : ArgList Msg.cells Msg.Fits 20 w a l) :
    Calls Try.prog 7 #[.slice a l.length c, .int .i64 pick] w fun e w' => e = .returned (.bool true) ∧ Below w.heap.size w w' := by
  by_cases h : l.length ≤ 100
  · exact (netDelivers_main a c l pick w h ha).mono fun e w' hh => ⟨hh.1, hh.2.below⟩
  · exact (netDelivers_skip a l.length c pick w (by omega)).mono fun e w' hh => ⟨hh.1, hh.2.below⟩
end Go.Proofs.Ytklokcndhkhdmaa
