/- NetSends returns true: the walk. -/
import Derived.Test.YtklokcndhkhdmaaNetQ
import Derived.Test.YtklokcndhkhdmaaRowsLaw
namespace Go.Proofs.Ytklokcndhkhdmaa
open Go.RowKit
set_option linter.unusedVariables false
set_option linter.unusedSimpArgs false

theorem keep2R {w0 w' : World} {a b : Addr} {va vb : Value} {g o : Nat} {cs : List Value} (h1 : w0.cell? a = some va) (h2 : w0.cell? b = some vb) (h3 : w0.rangeAt g o cs) (h : Mod (fun _ => False) w0 w') :
    Mod (fun _ => False) w0 w' ∧ w'.cell? a = some va ∧ w'.cell? b = some vb ∧ w'.rangeAt g o cs := ⟨h, h.cell h1 (fun x => x), h.cell h2 (fun x => x), h.range h3 (fun x => x)⟩

theorem netSends_skip (most : Int) (a : Option Addr) (n c : Nat) (w : World) (h : most < 1 ∨ 1024 < most ∨ 100 < (n : Int)) :
    Calls Try.prog 6 #[.int .i64 most, .slice a n c] w fun e w' => e = .returned (.bool true) ∧ Mod (fun _ => False) w w' := by
  go_enter Try.func6, Try.ntmps6
  rcases (by omega : most < 1 ∨ (1 ≤ most ∧ 1024 < most) ∨ (1 ≤ most ∧ most ≤ 1024 ∧ 100 < (n : Int))) with h1 | ⟨h0, h1⟩ | ⟨h0, h2, h1⟩
  · go_wp2_with fail
    refine (works_ok _).mono ?_
    rintro e w1 ⟨rfl, hm⟩
    go_wp2
    go_ret
    exact ⟨rfl, hm⟩
  · go_wp2_with fail
    refine (works_ok _).mono ?_
    rintro e w1 ⟨rfl, hm⟩
    go_wp2
    go_ret
    exact ⟨rfl, hm⟩
  · go_wp2_with fail
    refine (works_ok _).mono ?_
    rintro e w1 ⟨rfl, hm⟩
    go_wp2
    go_ret
    exact ⟨rfl, hm⟩
section
attribute [-go_sem] Instr.loadAt Instr.storeAt
attribute [local go_sem 500] run_loadAt_open run_storeAt_open
attribute [local go_sem] heap_drew blk_past cell_past free_past cellsAt old_alloc
attribute [local go_sem 2000] load26
set_option maxHeartbeats 4000000 in
theorem netSends_main (most : Int) (a : Option Addr) (c : Nat) (l : List Msg) (w : World) (h1 : 1 ≤ most) (h2 : most ≤ 1024) (h3 : l.length ≤ 100) (ha : ArgList Msg.cells Msg.Fits 20 w a l) :
    Calls Try.prog 6 #[.int .i64 most, .slice a l.length c] w fun e w' => e = .returned (.bool true) ∧ Mod (fun _ => False) w w' := by
  have h3' : (l.length : Int) ≤ 100 := by omega
  go_enter Try.func6, Try.ntmps6
  go_wp2_with fail
  refine (new_ok _ most h1 h2).mono ?_
  rintro e w1 ⟨p, rfl, hn, hp, hm1⟩
  go_wp2_with fail
  obtain ⟨b, hb⟩ : ∃ b, b = w1.heap.size := ⟨_, rfl⟩
  rw [← hb]
  have hbox := blk_new w1 (Obj.cells #[.int .i64 most, .slice none 0 0] 49)
  rw [← hb] at hbox
  have hmA : Mod (fun _ => False) w1 (w1.alloc (Obj.cells #[.int .i64 most, .slice none 0 0] 49)) := (Mod.refl _ _).alloc _
  have hNb : w.heap.size ≤ b := by have := hm1.size; omega
  clear hb
  generalize w1.alloc (Obj.cells #[.int .i64 most, .slice none 0 0] 49) = w2 at hbox hmA ⊢
  have hm2 := hm1.trans hmA
  have hpair : Pair w.heap.size w2 p b [] most (.slice none 0 0) none := ⟨hn.keep hmA (fun x => x) (fun _ _ x => x), Msgs.empty _, hbox, by simp [ownOf], by simp, hp, hNb⟩
  clear hn hmA hbox hm1
  go_loopw [8] (fun i wr => ∃ (j : Nat) (L : List Msg) (v : Value) (o : Option Nat), j ≤ l.length ∧ i = .int .i64 j ∧ Pair w.heap.size wr p b L most v o ∧ Mod (fun _ => False) w wr) (fun i _ => l.length - (intOf i).toNat)
  case atStart => exact ⟨0, [], _, _, by omega, rfl, hpair, hm2⟩
  case round =>
    obtain ⟨j, L, v, o, hj, rfl, hP, hmo⟩ := hrel
    obtain ⟨q, cv, hvq, _⟩ := hP.msgs.len
    have hbx := hP.box
    rw [hvq] at hbx
    have d0 : wr.cell? ⟨b, 0, none⟩ = some (.int .i64 most) := cell_of wr hbx 0
    have d1 : wr.cell? ⟨b, 1, none⟩ = some (.slice q L.length cv) := cell_of wr hbx 1
    have hLs := hP.net.small
    by_cases hlt : j < l.length
    · obtain ⟨x, hx⟩ : ∃ x, l[j]? = some x := ⟨_, List.getElem?_eq_getElem hlt⟩
      have hxf := ha.fits x (List.mem_of_getElem? hx)
      obtain ⟨ba, oa, rfl, hxr⟩ := (ha.keep hmo).at_ j x hx
      have hj0 : (0 : Int) ≤ (j : Int) := by omega
      have hja : (j : Int) < (l.length : Int) := by omega
      have hlx := load_msg_at x hxf ba (oa + j * 20)
      have hwr : w.heap.size ≤ wr.heap.size := hmo.size
      go_upto_region 8 with fail
      go_cut [9, 10] (fun v9 v10 wx => ∃ (b9 : Nat) (v' : Value), v9 = .pointer (some ⟨b9, 0, none⟩) ∧ v10 = .int .i64 (sendNum L most x) ∧ wx.heap[b9]? = some (.cells #[.int .i64 most, v'] 49 (0, 0)) ∧
        Msgs wx v' (sendList L most x) ∧ Mod (fun _ => False) wr wx ∧ (∀ g, ownOf v' = some g → ownOf v = some g ∨ wr.heap.size ≤ g) ∧ wr.heap.size ≤ b9)
      case first =>
        go_region_held3 (fun w' => Mod (fun _ => False) wr w' ∧ w'.cell? ⟨b, 0, none⟩ = some (.int .i64 most) ∧ w'.cell? ⟨b, 1, none⟩ = some (.slice q L.length cv) ∧ w'.rangeAt ba (oa + j * 20) x.cells) ((go_split_ands; refine keep2R d0 d1 hxr ?_; (repeat first | exact Mod.refl _ _ | assumption | apply Mod.drew | apply Mod.drewN | apply Mod.alloc | (refine Mod.setCell ?_ (Or.inr (by (first | (with_reducible exact Nat.le_refl _) | ((try simp only [World.size_alloc, World.size_setCell, World.size_drew] at *); omega)))) _) | (refine Mod.trans ?_ (by assumption)))))
          ((first
            | (go_at_call 23; refine (refsend_ok _ _ L most x ((hvq ▸ hP.msgs).keep (S := fun _ => False) (by go_split_ands; (repeat first | exact Mod.refl _ _ | assumption | apply Mod.drew | apply Mod.drewN | apply Mod.alloc | (refine Mod.setCell ?_ (Or.inr (by (first | (with_reducible exact Nat.le_refl _) | ((try simp only [World.size_alloc, World.size_setCell, World.size_drew] at *); omega)))) _) | (refine Mod.trans ?_ (by assumption)))) (fun _ _ x => x)) hxf (by omega)).mono ?_; rintro e wb ⟨vb, rfl, hmsb, hmb, hovb⟩; obtain ⟨qb, cb, hvb, _⟩ := hmsb.len; subst hvb; have hszb := hmb.size; try (have hnew := hmb.at (show (World.drew _).heap[_]? = _ from blk_new _ _) (fun x => x); have e0 := cell_of wb hnew 0; have e1 := cell_of wb hnew 1; have f0 := free_of wb hnew 0; have f1 := free_of wb hnew 1; simp only [List.getElem?_toArray, List.getElem?_cons_zero, List.getElem?_cons_succ] at e0 e1))
            | fail))
        all_goals (
          go_wp2_with fail
          go_split_ands
          go_meet
          case rel =>
            simp only [World.size_drew, World.size_alloc] at hszb hovb
            first
              | exact ⟨_, _, rfl, rfl, blk_new _ _, hmsb.keep ((Mod.refl (fun _ => False) _).alloc _) (fun _ _ x => x), by assumption, fun g hg => by rcases hovb g hg with hh | hh; exact .inl (by rw [hvq]; exact hh); exact .inr (by omega), hszb⟩
              | exact ⟨_, _, rfl, rfl, two_set hnew, hmsb.keep (((Mod.refl (fun k => k = wr.heap.size) wb).setCell (.inl rfl) _).setCell (.inl rfl) _) (hmsb.ne hnew (by decide)), by assumption, fun g hg => by rcases hovb g hg with hh | hh; exact .inl (by rw [hvq]; exact hh); exact .inr (by omega), Nat.le_refl _⟩)
      case rest =>
        obtain ⟨b9, v', rfl, rfl, hb9, hms9, hm9, hov9, hs9⟩ := hcut
        have hbw : wc.heap[b]? = _ := hm9.at hbx (fun x => x)
        have hxr2 := hm9.range hxr (fun x => x)
        obtain ⟨q', c', hv', _⟩ := hms9.len
        have k0 : wc.cell? ⟨b9, 0, none⟩ = some (.int .i64 most) := cell_of wc hb9 0
        have k1 : wc.cell? ⟨b9, 1, none⟩ = some v' := cell_of wc hb9 1
        have j0 : wc.cell? ⟨b, 0, none⟩ = some (.int .i64 most) := cell_of wc hbw 0
        have j1 : wc.cell? ⟨b, 1, none⟩ = some (.slice q L.length cv) := cell_of wc hbw 1
        have jf0 := free_of wc hbw 0
        have jf1 := free_of wc hbw 1
        rw [hv'] at k1
        go_upto_region 10 with fail
        have hba : ba < w.heap.size := by
          obtain ⟨b', o', e', hr'⟩ := ha.at_ j x hx
          cases e'
          exact w.block_lt_of_cell? _ (hr' 0 _ (cells_0 x))
        have hbN := hP.bN
        have hb5 := two_set (x := .int .i64 most) (y := .slice q' (sendList L most x).length c') hbw
        have hm5 : Mod (fun k => k = b) wc ((wc.setCell ⟨b, 0, none⟩ (.int .i64 most)).setCell ⟨b, 1, none⟩ (.slice q' (sendList L most x).length c')) := ((Mod.refl (fun k => k = b) wc).setCell (.inl rfl) _).setCell (.inl rfl) _
        subst hv'
        have hms5 := hms9.keep hm5 (fun g hg => hms9.ne hbw (by decide) g hg)
        have hxr5 := hm5.range hxr2 (by omega)
        have hm95 := (hm9.mono (T := fun k => k = b) (fun _ _ x => x.elim)).trans hm5
        obtain ⟨hn5, hmo5, hend⟩ := hP.mid hmo hm95 hb5 hms5 hov9
        generalize (wc.setCell ⟨b, 0, none⟩ (.int .i64 most)).setCell ⟨b, 1, none⟩ (.slice q' (sendList L most x).length c') = w5 at *
        clear hmo hm9 hm95 hm5 hbw hb9 k0 k1 j0 j1 jf0 jf1 hxr2 hxr hms9 hov9 hs9 d0 d1 hbx hP
        have hbe : (sendNum L most x != sendNum L most x) = false := by simp
        go_wp2_with fail
        refine (send_ok _ p o L most hn5 x hxf).mono ?_
        rintro e w6 ⟨rfl, o6, hn6, hm6, ho6⟩
        obtain ⟨hP6, hmo6⟩ := hend w6 o6 hn6 hm6 ho6
        clear hn5 hmo5 hend hn6 hm6 ho6 hms5 hxr5 hb5
        go_wp2_with (go_at_call 10; refine (num_ok _ _).mono ?_; rintro e w7 ⟨rfl, rfl⟩)
        go_roundw
        case rel => exact ⟨j + 1, _, _, _, by omega, by go_num, hP6, hmo6⟩
        case measure => simp [intOf]; omega
    · obtain rfl : j = l.length := by omega
      go_wp2_with (first
        | (go_at_call 10; refine (num_ok _ _).mono ?_; rintro e w7 ⟨rfl, rfl⟩)
        | (go_at_call 22; refine (is_ok _ p o L most most _ hP.net (hvq ▸ hP.msgs)).mono ?_; rintro e w7 ⟨rfl, hm7⟩)
        | (go_at_call 13; refine (works_ok _).mono ?_; rintro e w8 ⟨rfl, hm8⟩))
      go_ret
      exact ⟨rfl, (hmo.trans hm7).trans hm8⟩
end
theorem netSends_walk (most : Int) (a : Option Addr) (c : Nat) (l : List Msg) (w : World) (ha : ArgList Msg.cells Msg.Fits 20 w a l) :
    Calls Try.prog 6 #[.int .i64 most, .slice a l.length c] w fun e w' => e = .returned (.bool true) ∧ Below w.heap.size w w' := by
  by_cases h : 1 ≤ most ∧ most ≤ 1024 ∧ l.length ≤ 100
  · exact (netSends_main most a c l w h.1 h.2.1 h.2.2 ha).mono fun e w' hh => ⟨hh.1, hh.2.below⟩
  · exact (netSends_skip most a l.length c w (by omega)).mono fun e w' hh => ⟨hh.1, hh.2.below⟩
end Go.Proofs.Ytklokcndhkhdmaa
