/- played: the walk. -/
import Derived.Test.YtklokcndhkhdmaaNetS
namespace Go.Proofs.Ytklokcndhkhdmaa
open Go.RowKit
set_option linter.unusedVariables false
set_option linter.unusedSimpArgs false

section
attribute [-go_sem] Instr.loadAt Instr.storeAt
attribute [local go_sem 500] run_loadAt_open run_storeAt_open
attribute [local go_sem] heap_drew blk_past cell_past free_past cellsAt old_alloc
attribute [local go_sem 2000] load26 store26
set_option maxHeartbeats 4000000 in
theorem played_ok (most : Int) (a : Option Addr) (c : Nat) (l : List Deed) (w : World) (h1 : 1 ≤ most) (h2 : most ≤ 1024) (h3 : l.length ≤ 100) (ha : ArgList Deed.cells Deed.Fits 22 w a l) :
    Calls Try.prog 21 #[.int .i64 most, .slice a l.length c] w fun e w' => ∃ p L v o, e = .returned (.tuple #[.pointer (some ⟨p, 0, none⟩), .agg #[.int .i64 most, v], .bool true]) ∧ Twin w.heap.size w' p L most v o ∧ Mod (fun _ => False) w w' := by
  have h3' : (l.length : Int) ≤ 100 := by omega
  go_enter Try.func21, Try.ntmps21
  go_wp2_with fail
  have hR := blk_new w (Obj.cells #[.int .i64 0, .slice none 0 0] 49)
  have hmR : Mod (fun _ => False) w (w.alloc (Obj.cells #[.int .i64 0, .slice none 0 0] 49)) := (Mod.refl _ _).alloc _
  obtain ⟨R, hRe⟩ : ∃ R, R = w.heap.size := ⟨_, rfl⟩
  rw [← hRe] at hR ⊢
  have hwR : w.heap.size ≤ R := by omega
  clear hRe
  generalize w.alloc (Obj.cells #[.int .i64 0, .slice none 0 0] 49) = w0 at *
  refine (new_ok _ most h1 h2).mono ?_
  rintro e w1 ⟨p, rfl, hn, hp, hm1⟩
  have hRp : R < p := by have := lt_of_block hR; omega
  replace hR := hm1.at hR (fun x => x)
  replace hm1 := hmR.trans hm1
  clear hmR
  go_wp2_with fail
  obtain ⟨b, hb⟩ : ∃ b, b = w1.heap.size := ⟨_, rfl⟩
  rw [← hb]
  have hbox := blk_new w1 (Obj.cells #[.int .i64 most, .slice none 0 0] 49)
  rw [← hb] at hbox
  have hmA : Mod (fun _ => False) w1 (w1.alloc (Obj.cells #[.int .i64 most, .slice none 0 0] 49)) := (Mod.refl _ _).alloc _
  have hNb : w.heap.size ≤ b := by have := hm1.size; omega
  have hRb : R < b := by have := lt_of_block hR; omega
  clear hb
  generalize w1.alloc (Obj.cells #[.int .i64 most, .slice none 0 0] 49) = w2 at hbox hmA ⊢
  have hm2 := hm1.trans hmA
  have hR2 := hmA.at hR (fun x => x)
  have hpair : Pair w.heap.size w2 p b [] most (.slice none 0 0) none := ⟨hn.keep hmA (fun x => x) (fun _ _ x => x), Msgs.empty _, hbox, by simp [ownOf], by simp, by omega, hNb⟩
  clear hn hmA hbox hm1 hR
  go_loopw [10] (fun i wr => ∃ (j : Nat) (L : List Msg) (v : Value) (o : Option Nat), j ≤ l.length ∧ i = .int .i64 j ∧ Pair w.heap.size wr p b L most v o ∧ Mod (fun _ => False) w wr ∧ wr.heap[R]? = some (.cells #[.int .i64 0, .slice none 0 0] 49 (0, 0))) (fun i _ => l.length - (intOf i).toNat)
  case atStart => exact ⟨0, [], _, _, by omega, rfl, hpair, hm2, hR2⟩
  case round =>
    obtain ⟨j, L, v, o, hj, rfl, hP, hmo, hR⟩ := hrel
    obtain ⟨q, cv, hvq, _⟩ := hP.msgs.len
    have hbx := hP.box
    rw [hvq] at hbx
    have hLs := hP.net.small
    by_cases hlt : j < l.length
    · obtain ⟨x, hx⟩ : ∃ x, l[j]? = some x := ⟨_, List.getElem?_eq_getElem hlt⟩
      have hxf := ha.fits x (List.mem_of_getElem? hx)
      have hxl := x.cells_length hxf
      obtain ⟨ba, oa, rfl, hxr⟩ := (ha.keep hmo).at_ j x hx
      have hj0 : (0 : Int) ≤ (j : Int) := by omega
      have hja : (j : Int) < (l.length : Int) := by omega
      have hwr : w.heap.size ≤ wr.heap.size := hmo.size
      go_upto_region 7 with (first
        | (refine wpL_loadMid rfl 40 _ rfl ba (oa + j * 22) rfl _ hxr Try.underlying40 rfl (by rw [info40, hxl]) ?_)
        | (refine wpL_storeNew rfl 40 _ _ rfl rfl x.cells.toArray rfl _ _ 22 info40 (by simp [hxl]) rfl x.cells_one ?_))
      have hbX := blk_new wr (Obj.cells x.cells.toArray 40)
      have hmX : Mod (fun _ => False) wr (wr.alloc (Obj.cells x.cells.toArray 40)) := (Mod.refl _ _).alloc _
      generalize wr.heap.size = bx at *
      generalize wr.alloc (Obj.cells x.cells.toArray 40) = wx at *
      replace hP := hP.keep hmX
      replace hmo := hmo.trans hmX
      replace hR := hmX.at hR (fun x => x)
      replace hbx := hmX.at hbx (fun x => x)
      clear hmX hxr hwr
      have hwx : w.heap.size ≤ wx.heap.size := hmo.size
      have d0 : wx.cell? ⟨b, 0, none⟩ = some (.int .i64 most) := cell_of wx hbx 0
      have d1 : wx.cell? ⟨b, 1, none⟩ = some (.slice q L.length cv) := cell_of wx hbx 1
      have x0 : wx.cell? ⟨bx, 0, none⟩ = some (.int .i64 x.what) := by rw [cell_of wx hbX]; exact x.at0
      have x21 : wx.cell? ⟨bx, 21, none⟩ = some (.int .i64 x.pick) := by rw [cell_of wx hbX]; exact x.at21 hxf
      try simp only [Act.put]
      by_cases hw : x.what = 0
      · have hw' : (x.what != 0) = false := by simpa using hw
        clear hw x21
        have hmf : x.msg.Fits := hxf
        have hmc := cells_length _ hmf
        have hxm : ∀ {w' : World}, w'.heap[bx]? = some (.cells x.cells.toArray 40 (0, 0)) → w'.rangeAt bx 1 x.msg.cells := fun {w'} hh j v hj => by rw [cell_of w' hh]; exact x.at1 hxf j v hj
        have hlx := load_msg_at x.msg hmf bx 1
        have hxr := hxm hbX
        go_upto_region 13 with fail
        go_wp2_with fail
        refine (refsend_ok _ _ L most x.msg (hvq ▸ hP.msgs) hmf (by omega)).mono ?_
        rintro e w3 ⟨v', rfl, hms3, hm3, hov3⟩
        obtain ⟨q', c', hv', _⟩ := hms3.len
        subst hv'
        go_upto_region 14 with fail
        have hb12 := blk_new w3 (Obj.cells #[Value.int IntKind.i64 most, Value.slice q' (sendList L most x.msg).length c'] 49)
        have hmA : Mod (fun _ => False) w3 (w3.alloc (Obj.cells #[Value.int IntKind.i64 most, Value.slice q' (sendList L most x.msg).length c'] 49)) := (Mod.refl _ _).alloc _
        generalize w3.heap.size = b12 at *
        generalize (w3.alloc (Obj.cells #[Value.int IntKind.i64 most, Value.slice q' (sendList L most x.msg).length c'] 49)) = w4 at *
        have hm4 := hm3.trans hmA
        replace hms3 := hms3.keep hmA (fun _ _ x => x)
        have hbx4 := hm4.at hbx (fun x => x)
        have hR4 := hm4.at hR (fun x => x)
        have hX4 := hm4.at hbX (fun x => x)
        clear hm3 hmA d0 d1 hbx hR hbX x0 hxr
        have k0 : w4.cell? ⟨b12, 0, none⟩ = some (.int .i64 most) := cell_of w4 hb12 0
        have k1 : w4.cell? ⟨b12, 1, none⟩ = some (.slice q' (sendList L most x.msg).length c') := cell_of w4 hb12 1
        have j0 : w4.cell? ⟨b, 0, none⟩ = some (.int .i64 most) := cell_of w4 hbx4 0
        have j1 : w4.cell? ⟨b, 1, none⟩ = some (.slice q L.length cv) := cell_of w4 hbx4 1
        have jf0 := free_of w4 hbx4 0
        have jf1 := free_of w4 hbx4 1
        try simp only [Act.put]
        go_upto_region 15 with fail
        have hm5 : Mod (fun k => k = b) w4 ((w4.setCell ⟨b, 0, none⟩ (.int .i64 most)).setCell ⟨b, 1, none⟩ (.slice q' (sendList L most x.msg).length c')) := ((Mod.refl (fun k => k = b) w4).setCell (.inl rfl) _).setCell (.inl rfl) _
        have hb5 := two_set (x := .int .i64 most) (y := .slice q' (sendList L most x.msg).length c') hbx4
        have hms5 := hms3.keep hm5 (fun g hg => hms3.ne hbx4 (by decide) g hg)
        have hm95 := (hm4.mono (T := fun k => k = b) (fun _ _ x => x.elim)).trans hm5
        obtain ⟨hn5, hmo5, hend⟩ := hP.mid hmo hm95 hb5 hms5 (by rw [hvq]; exact hov3)
        have hX5 := hm5.at hX4 (by rintro rfl; rw [hbx4] at hX4; simp at hX4)
        have hR5 := hm5.at hR4 (by omega)
        generalize (w4.setCell ⟨b, 0, none⟩ (.int .i64 most)).setCell ⟨b, 1, none⟩ (.slice q' (sendList L most x.msg).length c') = w5 at *
        clear hmo hm4 hm95 hm5 hbx4 hR4 hX4 k0 k1 j0 j1 jf0 jf1 hms3 hms5 hov3 hP hb12 hb5
        have hxr := hxm hX5
        have hbe : (sendNum L most x.msg != sendNum L most x.msg) = false := by simp
        go_wp2_with fail
        refine (send_ok _ p o L most hn5 x.msg hmf).mono ?_
        rintro e w6 ⟨rfl, o6, hn6, hm6, ho6⟩
        obtain ⟨hP6, hmo6⟩ := hend w6 o6 hn6 hm6 ho6
        have hR6 := hn5.at hm6 hR5 (by decide) (by decide)
        clear hn5 hmo5 hend hn6 hm6 ho6 hX5 hR5 hxr hlx hxm
        go_wp2_with (go_at_call 10; refine (num_ok _ _).mono ?_; rintro e w7 ⟨rfl, rfl⟩)
        go_roundw
        case rel => exact ⟨j + 1, _, _, _, by omega, by go_num, hP6, hmo6, hR6⟩
        case measure => simp [intOf]; omega
      · have hw' : (x.what != 0) = true := by simpa using hw
        clear hw
        have hdf := delMsg_fits hP.msgs.fits x.pick
        have hdc := cells_length _ hdf
        go_upto_region 8 with fail
        go_wp2_with fail
        refine (refdel_any _ _ L most x.pick (hvq ▸ hP.msgs) (by omega)).mono ?_
        rintro e w3 ⟨v', rfl, hms3, hm3, hov3⟩
        obtain ⟨q', c', hv', _⟩ := hms3.len
        subst hv'
        go_upto_region 9 with (refine wpL_storeNew' rfl 26 _ _ rfl _ rfl (by simp) (delMsg L x.pick).cells.toArray rfl _ _ 20 info26 (by simp [hdc]) rfl (cells_one _) ?_)
        obtain ⟨hb12, hb13, hmA⟩ := allocs2 w3 (Obj.cells #[Value.int IntKind.i64 most, Value.slice q' (delList L x.pick).length c'] 49) (Obj.cells (delMsg L x.pick).cells.toArray 26)
        have hs3 : wx.heap.size ≤ w3.heap.size + 1 := by have := hm3.size; omega
        have hlo := hP.net.lt.2
        generalize w3.heap.size + 1 = b13 at *
        generalize w3.heap.size = b12 at *
        generalize (w3.alloc (Obj.cells #[Value.int IntKind.i64 most, Value.slice q' (delList L x.pick).length c'] 49)).alloc (Obj.cells (delMsg L x.pick).cells.toArray 26) = w4 at *
        have hm4 := hm3.trans hmA
        replace hms3 := hms3.keep hmA (fun _ _ x => x)
        have hbx4 := hm4.at hbx (fun x => x)
        have hR4 := hm4.at hR (fun x => x)
        have hX4 := hm4.at hbX (fun x => x)
        clear hm3 hmA d0 d1 hbx hR hbX x0 x21
        have k0 : w4.cell? ⟨b12, 0, none⟩ = some (.int .i64 most) := cell_of w4 hb12 0
        have k1 : w4.cell? ⟨b12, 1, none⟩ = some (.slice q' (delList L x.pick).length c') := cell_of w4 hb12 1
        have j0 : w4.cell? ⟨b, 0, none⟩ = some (.int .i64 most) := cell_of w4 hbx4 0
        have j1 : w4.cell? ⟨b, 1, none⟩ = some (.slice q L.length cv) := cell_of w4 hbx4 1
        have jf0 := free_of w4 hbx4 0
        have jf1 := free_of w4 hbx4 1
        try simp only [Act.put]
        go_upto_region 10 with fail
        have hm5 : Mod (fun k => k = b) w4 ((w4.setCell ⟨b, 0, none⟩ (.int .i64 most)).setCell ⟨b, 1, none⟩ (.slice q' (delList L x.pick).length c')) := ((Mod.refl (fun k => k = b) w4).setCell (.inl rfl) _).setCell (.inl rfl) _
        have hb5 := two_set (x := .int .i64 most) (y := .slice q' (delList L x.pick).length c') hbx4
        have hms5 := hms3.keep hm5 (fun g hg => hms3.ne hbx4 (by decide) g hg)
        have hm95 := (hm4.mono (T := fun k => k = b) (fun _ _ x => x.elim)).trans hm5
        obtain ⟨hn5, hmo5, hend⟩ := hP.mid hmo hm95 hb5 hms5 (by rw [hvq]; exact hov3)
        have hb13' := hm5.at hb13 (by rintro rfl; rw [hbx4] at hb13; simp at hb13)
        have hX5 := hm5.at hX4 (by rintro rfl; rw [hbx4] at hX4; simp at hX4)
        have hR5 := hm5.at hR4 (by omega)
        generalize (w4.setCell ⟨b, 0, none⟩ (.int .i64 most)).setCell ⟨b, 1, none⟩ (.slice q' (delList L x.pick).length c') = w5 at *
        clear hmo hm4 hm95 hm5 hbx4 hR4 hX4 k0 k1 j0 j1 jf0 jf1 hms3 hms5 hov3 hP hb12 hb13 hb5
        have x21 : w5.cell? ⟨bx, 21, none⟩ = some (.int .i64 x.pick) := by rw [cell_of w5 hX5]; exact x.at21 hxf
        go_wp2_with fail
        refine (deliver_any _ p o L most hn5 x.pick).mono ?_
        rintro e w6 ⟨rfl, o6, hn6, hm6, ho6⟩
        obtain ⟨hP6, hmo6⟩ := hend w6 o6 hn6 hm6 ho6
        have hR6 := hn5.at hm6 hR5 (by decide) (by decide)
        have hb6 := hm6.at hb13' (by rintro (hh | hh); exact hn5.p_ne hb13' (by decide) hh; have := hlo _ hh; omega)
        clear hn5 hmo5 hend hn6 hm6 ho6 hX5 hR5 hb13' x21
        go_upto_region 11 with (refine wpL_storeNew rfl 26 _ _ rfl rfl (delMsg L x.pick).cells.toArray rfl _ _ 20 info26 (by simp [hdc]) rfl (cells_one _) ?_)
        have hb15 := blk_new w6 (Obj.cells (delMsg L x.pick).cells.toArray 26)
        have hmB : Mod (fun _ => False) w6 (w6.alloc (Obj.cells (delMsg L x.pick).cells.toArray 26)) := (Mod.refl _ _).alloc _
        generalize w6.heap.size = b15 at *
        generalize w6.alloc (Obj.cells (delMsg L x.pick).cells.toArray 26) = w7 at *
        have hb13 := hmB.at hb6 (fun x => x)
        have hR7 := hmB.at hR6 (fun x => x)
        have hP7 := hP6.keep hmB
        have hmo7 := hmo6.trans hmB
        clear hb6 hR6 hP6 hmo6 hmB
        try simp only [Act.put]
        have hq : ∀ w, (binOp .neq 26 (.agg (delMsg L x.pick).cells.toArray) (.agg (delMsg L x.pick).cells.toArray)).run Try.prog w = .ok (.bool false) w := fun w => by
          rw [neq_msg w _ _ hdf hdf]; simp
        have hqb : (delOk L != delOk L) = false := by simp
        go_wp2_with (first
          | (refine wpL_load rfl 26 _ rfl b15 rfl _ hb15 Try.underlying26 rfl 20 info26 (by simp [hdc]) ?_)
          | (refine wpL_load rfl 26 _ rfl b13 rfl _ hb13 Try.underlying26 rfl 20 info26 (by simp [hdc]) ?_))
        go_roundw
        case rel => exact ⟨j + 1, _, _, _, by omega, by go_num, hP7, hmo7, hR7⟩
        case measure => simp [intOf]; omega
    · obtain rfl : j = l.length := by omega
      have d0 : wr.cell? ⟨b, 0, none⟩ = some (.int .i64 most) := cell_of wr hbx 0
      have d1 : wr.cell? ⟨b, 1, none⟩ = some (.slice q L.length cv) := cell_of wr hbx 1
      have r0 : wr.cell? ⟨R, 0, none⟩ = some (.int .i64 0) := cell_of wr hR 0
      have r1 : wr.cell? ⟨R, 1, none⟩ = some (.slice none 0 0) := cell_of wr hR 1
      have rf0 := free_of wr hR 0
      have rf1 := free_of wr hR 1
      have hT := hP.twin
      have ho := hP.net.o_ne hR (by decide)
      have hvR := hP.msgs.ne hR (by decide)
      have hpR := hP.net.p_ne hR (by decide)
      go_upto_region 17 with fail
      go_cut [4, 6] (fun v4 v6 wx => v4 = .pointer (some ⟨p, 0, none⟩) ∧ v6 = .bool true ∧ wx.heap[R]? = some (.cells #[.int .i64 most, .slice q L.length cv] 49 (0, 0)) ∧ Mod (fun k => k = R) wr wx)
      case first =>
        go_region_with (go_at_call 10; refine (num_ok _ _).mono ?_; rintro e w7 ⟨rfl, rfl⟩)
        all_goals (
          go_wp2_with fail
          go_meet
          case rel => exact ⟨rfl, rfl, two_set hR, Mod.as (((Mod.refl (fun k => k = R) wr).setCell (p := ⟨R, 0, none⟩) (.inl rfl) (.int .i64 most)).setCell (p := ⟨R, 1, none⟩) (.inl rfl) (.slice q L.length cv)) rfl rfl rfl rfl⟩)
      case rest =>
        obtain ⟨rfl, rfl, hRf, hmf⟩ := hcut
        go_wp2
        refine played_ret rfl rfl rfl rfl hRf ⟨p, L, _, o, rfl, ?_, ?_⟩
        · rw [← hvq]
          exact hT.keep hmf (fun e => hpR e.symm) (fun g hg e => ho (by rw [hg, e])) (fun g hg e => hvR g hg e)
        · exact hmo.trans' hmf (by rintro i hi rfl; omega)
end
end Go.Proofs.Ytklokcndhkhdmaa
