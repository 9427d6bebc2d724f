/- NetAll returns true: the walk. -/
import Derived.Test.YtklokcndhkhdmaaNetV
import Derived.Test.YtklokcndhkhdmaaNetK
namespace Go.Proofs.Ytklokcndhkhdmaa
open Go.RowKit
set_option linter.unusedVariables false
set_option linter.unusedSimpArgs false

set_option maxRecDepth 100000 in
theorem netAll_skip (a : Option Addr) (n c : Nat) (v : Value) (w : World) (h : 100 < (n : Int)) :
    Calls Try.prog 4 #[.slice a n c, v] w fun e w' => e = .returned (.bool true) ∧ Mod (fun _ => False) w w' := by
  go_enter Try.func4, Try.ntmps4
  go_wp2_with fail
  refine (works_ok _).mono ?_
  rintro e w1 ⟨rfl, hm⟩
  go_wp2
  go_ret
  exact ⟨rfl, hm⟩

theorem keepRB {w0 w' : World} {b o b2 : Nat} {cs : List Value} {ob : Obj} (h1 : w0.rangeAt b o cs) (h2 : w0.heap[b2]? = some ob) (h : Mod (fun _ => False) w0 w') : Mod (fun _ => False) w0 w' ∧ w'.rangeAt b o cs ∧ w'.heap[b2]? = some ob :=
  ⟨h, h.range h1 (fun x => x), h.at h2 (fun x => x)⟩
/-- What is known between the loops. -/
structure Even (w0 w : World) (p : Nat) (most j : Nat) (vS vC : Value) : Prop where
  ex : ∃ o L S C, All w0.heap.size w p o L vS S vC C ∧ S.Perm (C ++ L) ∧ S.length ≤ most ∧ L.length ≤ j
  mod : Mod (fun _ => False) w0 w

section
attribute [-go_sem] Instr.loadAt Instr.storeAt Instr.buildSlice
attribute [local go_sem 500] run_loadAt_open run_storeAt_open
attribute [local go_sem] heap_drew blk_past cell_past free_past cellsAt old_alloc
attribute [local go_sem 2000] load26 store26 build_one
set_option maxRecDepth 100000 in
set_option maxHeartbeats 4000000 in
theorem netAll_main (a b : Option Addr) (ca cb : Nat) (l : List Deed) (l2 : List Int) (w : World) (h3 : l.length ≤ 100) (ha : ArgList Deed.cells Deed.Fits 22 w a l) (hb : ArgList (fun x => [Value.int .i64 x]) (fun x => (Lit.int .i64 x).wf = true) 1 w b l2) :
    Calls Try.prog 4 #[.slice a l.length ca, .slice b l2.length cb] w fun e w' => e = .returned (.bool true) ∧ Mod (fun _ => False) w w' := by
  have h3' : (l.length : Int) ≤ 100 := by omega
  go_enter Try.func4, Try.ntmps4
  go_wp2_with fail
  refine (new_ok _ 1024 (by omega) (by omega)).mono ?_
  rintro e w1 ⟨p, rfl, hn, hp, hm1⟩
  go_wp2_with fail
  go_loopw [7, 8, 9] (fun vS vC i wr => ∃ j : Nat, j ≤ l.length ∧ i = .int .i64 j ∧ Even w wr p j j vS vC) (fun _ _ i _ => l.length - (intOf i).toNat)
  case atStart => exact ⟨0, by omega, rfl, ⟨none, [], [], [], ⟨hn, Msgs.empty _, Msgs.empty _, by simp [ownOf], by simp [ownOf], by simp, hp⟩, .refl _, by simp, by simp⟩, hm1⟩
  case round =>
    obtain ⟨j, hj, rfl, hE⟩ := hrel
    by_cases hlt : j < l.length
    · obtain ⟨⟨o, L, S, C, hA, hperm, hSl, hLl⟩, hmo⟩ := hE
      have hlen := hperm.length_eq
      rw [List.length_append] at hlen
      have hlen1 := Nat.le_of_eq hlen
      have hlen2 := Nat.le_of_eq hlen.symm
      clear hlen
      obtain ⟨x, hx⟩ : ∃ x, l[j]? = some x := ⟨_, List.getElem?_eq_getElem hlt⟩
      have hxf := ha.fits x (List.mem_of_getElem? hx)
      have hxl := x.cells_length hxf
      obtain ⟨ba, oa, rfl, hxr⟩ := (ha.keep hmo).at_ j x hx
      have hj0 : (0 : Int) ≤ (j : Int) := by omega
      have hja : (j : Int) < (l.length : Int) := by omega
      have hwr : w.heap.size ≤ wr.heap.size := hmo.size
      have x0 : wr.cell? ⟨ba, oa + j * 22, none⟩ = some (.int .i64 x.what) := by have := hxr 0 _ (by rw [← List.getElem?_toArray]; exact x.at0); simpa using this
      have x21 : wr.cell? ⟨ba, oa + j * 22 + 21, none⟩ = some (.int .i64 x.pick) := hxr 21 _ (by rw [← List.getElem?_toArray]; exact x.at21 hxf)
      have hmf : x.msg.Fits := hxf
      have hmc := cells_length _ hmf
      have hxm : wr.rangeAt ba (oa + j * 22 + 1) x.msg.cells := fun i v hi => by have := hxr (1 + i) v (by rw [← List.getElem?_toArray]; exact x.at1 hxf i v hi); rwa [← Nat.add_assoc] at this
      have hlx := load_msg_at x.msg hmf ba (oa + j * 22 + 1)
      obtain ⟨qS, cS, hvS, _⟩ := hA.mS.len
      obtain ⟨qC, cC, hvC, _⟩ := hA.mC.len
      subst hvS hvC
      by_cases hw : x.what = 0
      · have hw' : (x.what == 0) = true := by simpa using hw
        clear hw x21 hxr
        go_wp2_with fail
        refine (send_ok _ p o L 1024 hA.net x.msg hmf).mono ?_
        rintro e w6 ⟨rfl, o6, hn6, hm6, ho6⟩
        have hA6 := hA.net_on hwr hn6 hm6 ho6
        have hmo6 := hA.modN rfl hmo hm6
        have hxm6 : w6.rangeAt ba (oa + j * 22 + 1) x.msg.cells := by
          refine hm6.range hxm ?_
          have hba : ba < w.heap.size := by
            obtain ⟨b', o', e', hr'⟩ := ha.at_ j x hx
            cases e'
            exact w.block_lt_of_cell? _ (hr' 0 _ (by rw [← List.getElem?_toArray]; exact x.at0))
          rintro (hh | hh)
          · have := hA.pN; omega
          · have := hA.own _ hh; omega
        have hw6 : w.heap.size ≤ w6.heap.size := hmo6.size
        clear hm6 hn6 ho6 hA hxm hmo x0
        by_cases hs : sendNum L 1024 x.msg = 0
        · have hres : sendList L 1024 x.msg = L ++ [x.msg] := by simp [sendList, hs]
          have hs' : (sendNum L 1024 x.msg == 0) = true := by simpa using hs
          rw [hres] at hA6
          clear hs
          go_wp2_with (first
            | (go_at_call 10; refine (num_ok _ _).mono ?_; rintro e w' ⟨rfl, rfl⟩)
            | (at_builtin; refine wpL_msgs rfl _ _ rfl rfl (.slice qS S.length cS) (.slice (some ⟨_, 0, none⟩) 1 1) (by simp [Act.eval]) (by simp [Act.eval]) S [x.msg] (hA6.mS.keep (S := fun _ => False) ((Mod.refl _ _).alloc _) (fun _ _ f => f)) (by simpa using hmf) (Src.msg (blk_new _ _) hmf) (by simp; omega) ?_; intro v7 w7 hms7 hmo7 hov7))
          go_roundw
          case rel =>
            refine ⟨j + 1, by omega, by go_num, ⟨o6, L ++ [x.msg], S ++ [x.msg], C, hA6.sent hw6 hms7 (((Mod.refl _ _).alloc _).trans hmo7) (fun g hg => by rcases hov7 g hg with hh | hh; exact .inl hh; exact .inr (by simp only [World.size_alloc] at hh; omega)), ?_, by simp; omega, by simp; omega⟩, hA6.modS rfl hmo6 (((Mod.refl _ _).alloc _).trans hmo7)⟩
            rw [← List.append_assoc]
            exact hperm.append_right _
          case measure => simp [intOf]; omega
        · have hres : sendList L 1024 x.msg = L := by simp [sendList, hs]
          have hs' : (sendNum L 1024 x.msg == 0) = false := by simpa using hs
          rw [hres] at hA6
          clear hs
          go_wp2_with (go_at_call 10; refine (num_ok _ _).mono ?_; rintro e w' ⟨rfl, rfl⟩)
          go_roundw
          case rel => exact ⟨j + 1, by omega, by go_num, ⟨o6, L, S, C, hA6, hperm, by omega, by omega⟩, hmo6⟩
          case measure => simp [intOf]; omega
      · have hw' : (x.what == 0) = false := by simpa using hw
        clear hw hxr hxm hlx
        have hdf := delMsg_fits hA.net.ex.choose_spec.2.1.fits x.pick
        have hdc := cells_length _ hdf
        have hone := cells_one (delMsg L x.pick)
        go_wp2_with fail
        refine (deliver_any _ p o L 1024 hA.net x.pick).mono ?_
        rintro e w6 ⟨rfl, o6, hn6, hm6, ho6⟩
        have hA6 := hA.net_on hwr hn6 hm6 ho6
        have hmo6 := hA.modN rfl hmo hm6
        clear hm6 hn6 ho6 hA hmo x0 x21
        go_upto_region 12 with (refine wpL_storeNew rfl 26 _ _ rfl rfl (delMsg L x.pick).cells.toArray rfl _ _ 20 info26 (by simp [hdc]) rfl hone ?_)
        have hb := blk_new w6 (Obj.cells (delMsg L x.pick).cells.toArray 26)
        have hmA : Mod (fun _ => False) w6 (w6.alloc (Obj.cells (delMsg L x.pick).cells.toArray 26)) := (Mod.refl _ _).alloc _
        generalize w6.heap.size = b10 at *
        generalize w6.alloc (Obj.cells (delMsg L x.pick).cells.toArray 26) = w7 at *
        have hA7 := hA6.keep0 hmA
        have hmo7 := hmo6.trans hmA
        have hw7 : w.heap.size ≤ w7.heap.size := hmo7.size
        clear hA6 hmo6 hmA hone
        try simp only [Act.put]
        cases hok : delOk L
        · have hL0 : L = [] := by simpa [delOk] using hok
          have hd0 : delList L x.pick = L := by subst hL0; simp [delList]
          rw [hd0] at hA7
          go_wp2_with fail
          go_roundw
          case rel => exact ⟨j + 1, by omega, by go_num, ⟨o6, L, S, C, hA7, hperm, by omega, by omega⟩, hmo7⟩
          case measure => simp [intOf]; omega
        · have hL0 : 0 < L.length := by cases L <;> simp [delOk] at hok ⊢
          have hdl : (delList L x.pick).length ≤ L.length - 1 := by unfold delList; rw [List.length_eraseIdx, if_pos (pickAt_lt _ _ hL0)]; omega
          go_wp2_with (first
            | (refine wpL_load rfl 26 _ rfl b10 rfl _ hb Try.underlying26 rfl 20 info26 (by simp [hdc]) ?_)
            | (at_builtin; refine wpL_msgs rfl _ _ rfl rfl (.slice qC C.length cC) (.slice (some ⟨_, 0, none⟩) 1 1) (by simp [Act.eval]) (by simp [Act.eval]) C [delMsg L x.pick] (hA7.mC.keep (S := fun _ => False) ((Mod.refl _ _).alloc _) (fun _ _ f => f)) (by simpa using hdf) (Src.msg (blk_new _ _) hdf) (by simp; omega) ?_; intro v7 w8 hms7 hmo8 hov7))
          go_roundw
          case rel =>
            refine ⟨j + 1, by omega, by go_num, ⟨o6, delList L x.pick, S, C ++ [delMsg L x.pick], hA7.came hw7 hms7 (((Mod.refl _ _).alloc _).trans hmo8) (fun g hg => by rcases hov7 g hg with hh | hh; exact .inl hh; exact .inr (by simp only [World.size_alloc] at hh; omega)), ?_, by omega, by omega⟩, hA7.modC rfl hmo7 (((Mod.refl _ _).alloc _).trans hmo8)⟩
            rw [List.append_assoc]
            exact hperm.trans ((del_perm hL0 x.pick).append_left C)
          case measure => simp [intOf]; omega
    · obtain rfl : j = l.length := by omega
      obtain ⟨⟨o0, L0, S, C0, hA0, hperm0, hSl, hLl0⟩, hmo0⟩ := hE
      obtain ⟨qS, cS, hvS, _⟩ := hA0.mS.len
      subst hvS
      have hlen0 := hperm0.length_eq
      rw [List.length_append] at hlen0
      have hC0 : C0.length ≤ l.length := by omega
      have hL0 : L0.length ≤ l.length - 0 := by omega
      clear hlen0 hLl0
      go_wp2_with fail
      go_loopw [8, 12] (fun vC i wx => ∃ (j : Nat) (o : Option Nat) (L C : List Msg), j ≤ l.length + 1 ∧ i = .int .i64 j ∧ All w.heap.size wx p o L (.slice qS S.length cS) S vC C ∧ S.Perm (C ++ L) ∧ L.length ≤ l.length - j ∧ C.length ≤ l.length ∧ Mod (fun _ => False) w wx) (fun _ i _ => l.length + 1 - (intOf i).toNat)
      case atStart => exact ⟨0, o0, L0, C0, by omega, rfl, hA0, hperm0, hL0, hC0, hmo0⟩
      case round =>
        clear hA0 hperm0 hmo0 hL0 hC0
        obtain ⟨j, o, L, C, hj, rfl, hA, hperm, hLl, hCl, hmo⟩ := hrel
        obtain ⟨qC, cC, hvC, _⟩ := hA.mC.len
        subst hvC
        by_cases hlt : j ≤ l.length
        · have hj0 : (0 : Int) ≤ (j : Int) := by omega
          have hja : (j : Int) ≤ (l.length : Int) := by omega
          go_upto_if 82 with fail
          go_cut [13] (fun v13 wx => ∃ pk : Int, v13 = .int .i64 pk ∧ wx = wr)
          case first =>
            by_cases hjl : j < l2.length
            · obtain ⟨g, og, pk, rfl, hpk, -, hr⟩ := (hb.keep hmo).at hjl
              have hcell : wr.cell? ⟨g, og + j, none⟩ = some (.int .i64 pk) := by have := hr 0 _ rfl; simpa using this
              have hjk : (j : Int) < (l2.length : Int) := by omega
              clear hr
              go_wp2_with fail
              go_meet
              case rel => exact ⟨pk, rfl, rfl⟩
            · have hjk : (l2.length : Int) ≤ (j : Int) := by omega
              go_wp2_with fail
              go_meet
              case rel => exact ⟨j, rfl, rfl⟩
          case rest =>
            obtain ⟨pk, rfl, rfl⟩ := hcut
            have hLs := hA.net.small
            have hpo := hA.net.lt
            have hdf := delMsg_fits hA.net.ex.choose_spec.2.1.fits pk
            have hdc := cells_length _ hdf
            go_wp2_with fail
            refine (ready_ok _ p o L 1024 hA.net).mono ?_
            rintro e w2 ⟨v14, rfl, hms14, hm2, hov14⟩
            obtain ⟨q14, c14, hv14, _⟩ := hms14.len
            subst hv14
            have hA2 := hA.keep0 hm2
            replace hmo := hmo.trans hm2
            have hw2 := hmo.size
            clear hm2 hA
            go_wp2_with fail
            refine (deliver_any _ p o L 1024 hA2.net pk).mono ?_
            rintro e w3 ⟨rfl, o3, hn3, hm3, ho3⟩
            have hms3 := hms14.keep hm3 (by rintro g hg (hh | hh); have := hov14 g hg; omega; have := hov14 g hg; have := hpo.2 g hh; omega)
            have hA3 := hA2.net_on hw2 hn3 hm3 ho3
            replace hmo := hA2.modN rfl hmo hm3
            clear hm3 hn3 ho3 hA2 hms14 hov14 hpo hw2
            go_upto_region 22 with (refine wpL_storeNew rfl 26 _ _ rfl rfl (delMsg L pk).cells.toArray rfl _ _ 20 info26 (by simp [hdc]) rfl (cells_one _) ?_)
            have hb15 := blk_new w3 (Obj.cells (delMsg L pk).cells.toArray 26)
            have hmA : Mod (fun _ => False) w3 (w3.alloc (Obj.cells (delMsg L pk).cells.toArray 26)) := (Mod.refl _ _).alloc _
            generalize w3.heap.size = b15 at *
            generalize w3.alloc (Obj.cells (delMsg L pk).cells.toArray 26) = w4 at *
            replace hms3 := hms3.keep hmA (fun _ _ x => x)
            replace hA3 := hA3.keep0 hmA
            replace hmo := hmo.trans hmA
            clear hmA
            try simp only [Act.put]
            go_wp2_with fail
            refine (ready_ok _ p o3 (delList L pk) 1024 hA3.net).mono ?_
            rintro e w5 ⟨v17, rfl, hms17, hm5, -⟩
            obtain ⟨q17, c17, hv17, _⟩ := hms17.len
            subst hv17
            replace hms3 := hms3.keep hm5 (fun _ _ x => x)
            replace hb15 := hm5.at hb15 (fun x => x)
            replace hA3 := hA3.keep0 hm5
            replace hmo := hmo.trans hm5
            have hLd : (delList L pk).length ≤ 1024 := hA3.net.small
            clear hm5
            have hle1 := del_le1 L pk
            have hle := del_le L pk
            generalize hnL : L.length = nL
            generalize hnD : (delList L pk).length = nD
            generalize hok : delOk L = ok
            replace hnL := Lib.hid hnL
            replace hnD := Lib.hid hnD
            replace hok := Lib.hid hok
            go_upto_region 23 with fail
            go_cut [112] (fun v112 wx => v112 = .bool false ∧ wx = w5)
            case first =>
              cases ok
              · obtain rfl : nL = 0 := by have h1 := hok.out; have h2 := hnL.out; rw [delOk_eq] at h1; simp at h1; rw [h1] at h2; exact h2.symm
                go_wp2_with fail
                go_meet
                case rel => exact ⟨rfl, rfl⟩
              · have hpos : 0 < nL := by have h1 := hok.out; have h2 := hnL.out; rw [delOk_eq] at h1; simp at h1; omega
                have hnd : nD = nL - 1 := by rw [← hnD.out, ← hnL.out]; exact del_len (by have := hnL.out; omega) pk
                have h0 : 0 < (nL : Int) := by omega
                have hnl : (nL : Int) ≤ 1024 := by have := hnL.out; omega
                have h2 : ((nD : Int) != (nL : Int) - 1) = false := by simp; omega
                clear hnd hpos
                go_wp2_with fail
                go_meet
                case rel => exact ⟨rfl, rfl⟩
            case rest =>
              obtain ⟨rfl, rfl⟩ := hcut
              generalize hgD : delList L pk = D at *
              have hnL1 : nL ≤ L.length := by have := hnL.out; omega
              have hnL2 : L.length ≤ nL := by have := hnL.out; omega
              have hnD1 : nD ≤ D.length := by have := hnD.out; omega
              have hnD2 : D.length ≤ nD := by have := hnD.out; omega
              go_wp2_with fail
              go_loopw [18] (fun i wx => ∃ k : Nat, k ≤ D.length ∧ i = .int .i64 k ∧ D.take k = L.take k ∧ Mod (fun _ => False) wc wx) (fun i _ => D.length - (intOf i).toNat)
              case atStart => exact ⟨0, by omega, rfl, rfl, Mod.refl _ _⟩
              case round =>
                obtain ⟨k, hk, rfl, htk, hmk⟩ := hrel
                have hk0 : (0 : Int) ≤ (k : Int) := by omega
                go_upto_region 26 with fail
                go_cut [127] (fun v127 wx => ∃ be : Bool, v127 = .bool be ∧ Mod (fun _ => False) wr wx ∧ (be = true → k < D.length ∧ D[k]? = L[k]?) ∧ (be = false → k = D.length ∨ D[k]? ≠ L[k]?))
                case first =>
                  by_cases hkl : k < D.length
                  · have hk1 : (k : Int) < (nD : Int) := by omega
                    have hk2 : (k : Int) < (nL : Int) := by omega
                    obtain ⟨g, cap, x, hv1, hx, hxf, hxr, -, -⟩ := (hms17.keep hmk (fun _ _ x => x)).at hkl
                    obtain ⟨g2, cap2, y, hv2, hy, hyf, hyr, -, -⟩ := (hms3.keep hmk (fun _ _ x => x)).at (show k < L.length by omega)
                    simp only [Value.slice.injEq, true_and] at hv1 hv2
                    obtain ⟨rfl, rfl⟩ := hv1
                    obtain ⟨rfl, rfl⟩ := hv2
                    have hl1 := load_msg_at x hxf g (k * 20)
                    have hl2 := load_msg_at y hyf g2 (k * 20)
                    have hne := eql_msg (x := x) (y := y) (hx := hxf) (hy := hyf)
                    obtain ⟨be, hbe⟩ : ∃ be, decide (x = y) = be := ⟨_, rfl⟩
                    rw [hbe] at hne
                    go_region_held3 (fun w' => Mod (fun _ => False) wr w' ∧ w'.rangeAt g (k * 20) x.cells ∧ w'.rangeAt g2 (k * 20) y.cells) ((go_split_ands; refine keepRR hxr hyr ?_; (repeat first | exact Mod.refl _ _ | assumption | apply Mod.drew | apply Mod.drewN | apply Mod.alloc | (refine Mod.setCell ?_ (Or.inr (by (first | (with_reducible exact Nat.le_refl _) | ((try simp only [World.size_alloc, World.size_setCell, World.size_drew] at *); omega)))) _) | (refine Mod.trans ?_ (by assumption))))) (fail)
                    go_wp2_with fail
                    go_split_ands
                    go_meet
                    case rel =>
                      refine ⟨be, rfl, by assumption, ?_, ?_⟩
                      · rintro rfl
                        have : x = y := by simpa using hbe
                        exact ⟨hkl, by rw [hx, hy, this]⟩
                      · rintro rfl
                        have : ¬ x = y := by simpa using hbe
                        exact .inr (by rw [hx, hy]; simpa using this)
                  · have hk1 : decide (k < nD) = false := by simp; omega
                    have hk2 : ¬ k < nD := by omega
                    clear hnL1 hnL2 hnD1 hnD2 hle hle1 hLd
                    go_quiet (fail)
                    go_wp2_with fail
                    go_meet
                    case rel => exact ⟨false, rfl, (Mod.refl _ _).drewN _, by simp, fun _ => .inl (by omega)⟩
                case rest =>
                  obtain ⟨be, rfl, hm6, htrue, hfalse⟩ := hcut
                  replace hmk := hmk.trans hm6
                  clear hm6
                  cases be
                  · have hstop := Lib.hid (hfalse rfl)
                    clear htrue hfalse
                    replace hms3 := hms3.keep hmk (fun _ _ x => x)
                    replace hms17 := hms17.keep hmk (fun _ _ x => x)
                    replace hb15 := hmk.at hb15 (fun x => x)
                    replace hA3 := hA3.keep0 hmk
                    replace hmo := hmo.trans hmk
                    clear hmk
                    go_upto_region 28 with fail
                    have htk' := Lib.hid htk
                    clear htk
                    go_cut [149] (fun v149 wx => v149 = .bool false ∧ Mod (fun _ => False) wc wx)
                    case first =>
                      cases ok
                      · clear hok hnL1 hnL2 hnD1 hnD2 hle hle1 hLd
                        go_quiet (fail)
                        go_wp2_with fail
                        go_meet
                        case rel => exact ⟨rfl, (Mod.refl _ _).drewN _⟩
                      · have hL0 : 0 < L.length := by have := hok.out; rw [delOk_eq] at this; simpa using this
                        have hDl : D.length = L.length - 1 := by rw [← hgD]; exact del_len hL0 pk
                        obtain ⟨hfd1, hfd2⟩ := first_diff L (pickAt pk L.length) (pickAt_lt pk _ hL0) k (by have := htk'.out; rw [← hgD] at this; exact this) (by have := hk; rw [← hgD] at this; exact this) (by have := hstop.out; rw [← hgD] at this; exact this)
                        have hfd3 : D.drop k = L.drop (k + 1) := by rw [← hgD]; exact hfd2
                        have hLk : L[k]? = some (delMsg L pk) := by
                          rw [hfd1]
                          unfold delMsg
                          rw [List.getElem?_eq_getElem (pickAt_lt pk _ hL0)]
                          rfl
                        clear hfd1 hfd2
                        have hkL : k < L.length := by omega
                        obtain ⟨g, cap, y, hv2, hy, hyf, hyr, hvg, hcap⟩ := hms3.at hkL
                        rw [hLk] at hy
                        obtain rfl : delMsg L pk = y := by simpa using hy
                        simp only [Value.slice.injEq, true_and] at hv2
                        obtain ⟨rfl, rfl⟩ := hv2
                        have hl1 := load_msg_at _ hyf g (k * 20)
                        have hne : ∀ w, (binOp .neq 26 (.agg (delMsg L pk).cells.toArray) (.agg (delMsg L pk).cells.toArray)).run Try.prog w = .ok (.bool false) w := fun w => by
                          rw [neq_msg w _ _ hyf hyf]; simp
                        have hk1 : (k : Int) < (nL : Int) := by omega
                        have hk2 : (k : Int) ≤ (nD : Int) := by omega
                        have hk3 : (k : Int) + 1 ≤ (nL : Int) := by omega
                        have hk4 : (k : Int) + 1 ≤ (cap : Int) + 1 := by omega
                        have hk5 : (k : Int) ≤ (c17 : Int) := by omega
                        have hk6 : (0 : Int) ≤ (k : Int) + 1 := by omega
                        have hwk : IntKind.i64.wrap ((k : Int) + 1) = (k : Int) + 1 := by rw [IntKind.wrap_i64]; omega
                        obtain ⟨ptr, hptr⟩ : ∃ ptr : Option Addr, (if cap = k then some ⟨g, 0, none⟩ else some ⟨g, (k + 1) * 20, none⟩) = ptr := ⟨_, rfl⟩
                        have hargs : MsgArgs wc ptr (L.drop (k + 1)) := by
                          rw [← hptr]
                          split
                          · exact hms3.drop_args (k + 1) (by omega) _ (.inr (by omega))
                          · exact hms3.drop_args (k + 1) (by omega) _ (.inl rfl)
                        have hDl1 : L.length ≤ D.length + 1 := by omega
                        clear hDl hLk hcap hvg hL0 hle hle1 hkL hk hy
                        obtain ⟨pp, cc, hpp, h17, -, h17n, h17s⟩ := hms17.row.form
                        simp only [Value.slice.injEq, true_and] at hpp
                        obtain ⟨rfl, rfl⟩ := hpp
                        cases q17 with
                        | none =>
                          obtain ⟨hD0, rfl⟩ := h17n rfl
                          obtain rfl : nD = 0 := by omega
                          obtain rfl : k = 0 := by omega
                          have hargs2 : MsgArgs wc none (D.drop 0) := by
                            have : D = [] := List.eq_nil_of_length_eq_zero hD0
                            subst this
                            exact ⟨by simp, by simp, by simp [maxLen]⟩
                          obtain rfl : nL = 1 := by omega
                          have hl28 : 0 = (D.drop 0).length := by rw [List.length_drop]; omega
                          have hl29 : 0 = (L.drop (0 + 1)).length := by rw [List.length_drop]; omega
                          have hl30 : (D.drop 0).length ≤ 1000000 := by rw [List.length_drop]; omega
                          have hl31 : (L.drop (0 + 1)).length ≤ 1000000 := by rw [List.length_drop]; omega
                          have hcall := fun (w' : World) (hm : Mod (fun _ => False) wc w') (ca cb : Nat) => refsame_eq w' none ptr 0 0 ca cb (D.drop 0) (L.drop (0 + 1)) hfd3 hl28 hl29 (hargs2.keep hm) (hargs.keep hm) hl30 hl31
                          have hcall' := Lib.hid hcall
                          rw [Nat.zero_mul] at hyr
                          clear hcall hl28 hl29 hl30 hl31 hargs hargs2 hfd3 hms17 hms3 hA3 hl1 hk0 hk1 hk2 hk3 hk4 hk5 hk6 hwk hD0 h17 h17n h17s hnD1 hnD2 hnL1 hnL2 hLd hDl1
                          have hl1 := load_msg_at _ hyf g 0
                          have hk4 : (1 : Int) ≤ (cap : Int) + 1 := by omega
                          simp only [Nat.zero_add, Nat.one_mul] at hptr
                          rw [show (((0 : Nat) : Int)) = (0 : Int) from rfl]
                          have hw0 : IntKind.i64.wrap 1 = 1 := by rw [IntKind.wrap_i64]; omega
                          go_region_held3 (fun w' => Mod (fun _ => False) wc w' ∧ w'.rangeAt g 0 (delMsg L pk).cells ∧ w'.heap[b15]? = some (.cells (delMsg L pk).cells.toArray 26 (0, 0))) ((go_split_ands; refine keepRB hyr hb15 ?_; (repeat first | exact Mod.refl _ _ | assumption | apply Mod.drew | apply Mod.drewN | apply Mod.alloc | (refine Mod.setCell ?_ (Or.inr (by (first | (with_reducible exact Nat.le_refl _) | ((try simp only [World.size_alloc, World.size_setCell, World.size_drew] at *); omega)))) _) | (refine Mod.trans ?_ (by assumption))))) ((go_at_call 18; refine (hcall'.out _ (by go_split_ands; (repeat first | exact Mod.refl _ _ | assumption | apply Mod.drew | apply Mod.drewN | apply Mod.alloc | (refine Mod.setCell ?_ (Or.inr (by (first | (with_reducible exact Nat.le_refl _) | ((try simp only [World.size_alloc, World.size_setCell, World.size_drew] at *); omega)))) _) | (refine Mod.trans ?_ (by assumption)))) _ _).mono ?_; rintro e wS ⟨rfl, hmS⟩))
                          go_wp2_with fail
                          go_split_ands
                          go_meet
                          case rel => exact ⟨rfl, by assumption⟩
                        | some a17 =>
                          obtain ⟨g17, rfl⟩ := h17s a17 rfl
                          obtain ⟨ptr2, hptr2⟩ : ∃ ptr : Option Addr, (if c17 = k then some ⟨g17, 0, none⟩ else some ⟨g17, k * 20, none⟩) = ptr := ⟨_, rfl⟩
                          have hargs2 : MsgArgs wc ptr2 (D.drop k) := by
                            rw [← hptr2]
                            split
                            · exact hms17.drop_args k (by omega) _ (.inr (by omega))
                            · exact hms17.drop_args k (by omega) _ (.inl rfl)
                          have hl28 : nD - k = (D.drop k).length := by rw [List.length_drop]; omega
                          have hl29 : nL - (k + 1) = (L.drop (k + 1)).length := by rw [List.length_drop]; omega
                          have hl30 : (D.drop k).length ≤ 1000000 := by rw [List.length_drop]; omega
                          have hl31 : (L.drop (k + 1)).length ≤ 1000000 := by rw [List.length_drop]; omega
                          have hcall := fun (w' : World) (hm : Mod (fun _ => False) wc w') (ca cb : Nat) => refsame_eq w' ptr2 ptr (nD - k) (nL - (k + 1)) ca cb (D.drop k) (L.drop (k + 1)) hfd3 hl28 hl29 (hargs2.keep hm) (hargs.keep hm) hl30 hl31
                          have hcall' := Lib.hid hcall
                          clear hcall hl28 hl29 hl30 hl31 hargs hargs2 hfd3 hms17 hms3 hA3
                          go_region_held3 (fun w' => Mod (fun _ => False) wc w' ∧ w'.rangeAt g (k * 20) (delMsg L pk).cells ∧ w'.heap[b15]? = some (.cells (delMsg L pk).cells.toArray 26 (0, 0))) ((go_split_ands; refine keepRB hyr hb15 ?_; (repeat first | exact Mod.refl _ _ | assumption | apply Mod.drew | apply Mod.drewN | apply Mod.alloc | (refine Mod.setCell ?_ (Or.inr (by (first | (with_reducible exact Nat.le_refl _) | ((try simp only [World.size_alloc, World.size_setCell, World.size_drew] at *); omega)))) _) | (refine Mod.trans ?_ (by assumption))))) ((go_at_call 18; refine (hcall'.out _ (by go_split_ands; (repeat first | exact Mod.refl _ _ | assumption | apply Mod.drew | apply Mod.drewN | apply Mod.alloc | (refine Mod.setCell ?_ (Or.inr (by (first | (with_reducible exact Nat.le_refl _) | ((try simp only [World.size_alloc, World.size_setCell, World.size_drew] at *); omega)))) _) | (refine Mod.trans ?_ (by assumption)))) _ _).mono ?_; rintro e wS ⟨rfl, hmS⟩))
                          go_wp2_with fail
                          go_split_ands
                          go_meet
                          case rel => exact ⟨rfl, by assumption⟩
                    case rest =>
                      obtain ⟨rfl, hm7⟩ := hcut
                      replace hb15 := hm7.at hb15 (fun x => x)
                      replace hA3 := hA3.keep0 hm7
                      replace hmo := hmo.trans hm7
                      have hw7 := hmo.size
                      clear hms3 hms17 hm7
                      cases ok
                      · have hL0 : L = [] := by have := hok.out; simpa [delOk] using this
                        have hD0 : D = L := by rw [← hgD, hL0]; simp [delList]
                        rw [hD0] at hA3
                        go_wp2_with fail
                        go_roundw
                        case rel => exact ⟨j + 1, o3, L, C, by omega, by go_num, hA3, hperm, by rw [hL0]; simp, hCl, hmo⟩
                        case measure => simp [intOf]; omega
                      · have hL0 : 0 < L.length := by have := hok.out; rw [delOk_eq] at this; simpa using this
                        have hperm2 := hperm.trans ((del_perm hL0 pk).append_left C)
                        rw [hgD] at hperm2
                        have hCl2 : C.length + 1 ≤ l.length := by have := hperm2.length_eq; simp at this; omega
                        clear hperm
                        go_wp2_with (first
                          | (refine wpL_load rfl 26 _ rfl b15 rfl _ hb15 Try.underlying26 rfl 20 info26 (by simp [hdc]) ?_)
                          | (at_builtin; refine wpL_msgs rfl _ _ rfl rfl (.slice qC C.length cC) (.slice (some ⟨_, 0, none⟩) 1 1) (by simp [Act.eval]) (by simp [Act.eval]) C [delMsg L pk] (hA3.mC.keep (S := fun _ => False) ((Mod.refl _ _).alloc _) (fun _ _ f => f)) (by simpa using hdf) (Src.msg (blk_new _ _) hdf) (by simp; omega) ?_; intro v7 w8 hms7 hmo8 hov7))
                        go_roundw
                        case rel =>
                          refine ⟨j + 1, o3, D, C ++ [delMsg L pk], by omega, by go_num, hA3.came hw7 hms7 (((Mod.refl _ _).alloc _).trans hmo8) (fun g hg => by rcases hov7 g hg with hh | hh; exact .inl hh; exact .inr (by simp only [World.size_alloc] at hh; omega)), ?_, by omega, by simp; omega, hA3.modC rfl hmo (((Mod.refl _ _).alloc _).trans hmo8)⟩
                          rw [List.append_assoc]
                          exact hperm2
                        case measure => simp [intOf]; omega
                  · obtain ⟨hkl, hkk⟩ := htrue rfl
                    clear hfalse htrue
                    go_wp2_with fail
                    go_roundw
                    case rel => exact ⟨k + 1, by omega, by go_num, by rw [List.take_add_one, List.take_add_one, htk, hkk], hmk⟩
                    case measure => simp [intOf]; omega
        · obtain rfl : j = l.length + 1 := by omega
          have hL0 : L = [] := List.eq_nil_of_length_eq_zero (by omega)
          subst hL0
          rw [List.append_nil] at hperm
          have hlen := hperm.length_eq
          have hneq : ((C.length : Int) != (S.length : Int)) = false := by rw [hlen]; simp
          clear hlen
          have hcnt : ∀ x, ((S.count x : Int) != (C.count x : Int)) = false := fun x => by rw [hperm.count_eq]; simp
          have HC := Lib.hid hcnt
          have hpush : ((l.length + 1 : Nat) : Int) = (l.length : Int) + 1 := by omega
          rw [hpush]
          clear hcnt hperm hpush
          go_wp2_with (go_at_call 19; refine (len_ok _ p o [] 1024 hA.net).mono ?_; rintro e w7 ⟨rfl, rfl⟩)
          go_loopw [19] (fun i wx => ∃ k : Nat, k ≤ S.length ∧ i = .int .i64 k ∧ Mod (fun _ => False) w7 wx) (fun i _ => S.length - (intOf i).toNat)
          case atStart => exact ⟨0, by omega, rfl, Mod.refl _ _⟩
          case round =>
            obtain ⟨k, hk, rfl, hmk⟩ := hrel
            by_cases hlt2 : k < S.length
            · obtain ⟨g, cap, x, hv1, hx, hxf, hxr, -, -⟩ := (hA.mS.keep hmk (fun _ _ x => x)).at hlt2
              simp only [Value.slice.injEq, true_and] at hv1
              obtain ⟨rfl, rfl⟩ := hv1
              have hk0 : (0 : Int) ≤ (k : Int) := by omega
              have hk1 : (k : Int) < (S.length : Int) := by omega
              have hl1 := load_msg_at x hxf g (k * 20)
              have hcx := HC.out x
              have hS1 := Lib.hid (fun (w' : World) (hm : Mod (fun _ => False) wr w') => counted_ok w' _ S x ((hA.mS.keep hmk (fun _ _ x => x)).keep hm (fun _ _ x => x)) hxf (by omega))
              have hC1 := Lib.hid (fun (w' : World) (hm : Mod (fun _ => False) wr w') => counted_ok w' _ C x ((hA.mC.keep hmk (fun _ _ x => x)).keep hm (fun _ _ x => x)) hxf (by omega))
              go_upto_region 37 with fail
              go_cut [183] (fun v183 wx => v183 = .bool false ∧ Mod (fun _ => False) wr wx)
              case first =>
                go_region_held3 (fun w' => Mod (fun _ => False) wr w' ∧ w'.rangeAt g (k * 20) x.cells) ((go_split_ands; refine keepR hxr ?_; (repeat first | exact Mod.refl _ _ | assumption | apply Mod.drew | apply Mod.drewN | apply Mod.alloc | (refine Mod.setCell ?_ (Or.inr (by (first | (with_reducible exact Nat.le_refl _) | ((try simp only [World.size_alloc, World.size_setCell, World.size_drew] at *); omega)))) _) | (refine Mod.trans ?_ (by assumption)))))
                  ((first
                    | (go_at_call 20; ((with_reducible refine (hS1.out _ ?_).mono ?_); (go_split_ands; (repeat first | exact Mod.refl _ _ | assumption | apply Mod.drew | apply Mod.drewN | apply Mod.alloc | (refine Mod.setCell ?_ (Or.inr (by (first | (with_reducible exact Nat.le_refl _) | ((try simp only [World.size_alloc, World.size_setCell, World.size_drew] at *); omega)))) _) | (refine Mod.trans ?_ (by assumption)))); rintro e wS ⟨rfl, hmS⟩))
                    | (go_at_call 20; ((with_reducible refine (hC1.out _ ?_).mono ?_); (go_split_ands; (repeat first | exact Mod.refl _ _ | assumption | apply Mod.drew | apply Mod.drewN | apply Mod.alloc | (refine Mod.setCell ?_ (Or.inr (by (first | (with_reducible exact Nat.le_refl _) | ((try simp only [World.size_alloc, World.size_setCell, World.size_drew] at *); omega)))) _) | (refine Mod.trans ?_ (by assumption)))); rintro e wC ⟨rfl, hmC⟩))))
                all_goals (go_wp2_with fail; go_split_ands; go_meet; case rel => exact ⟨rfl, by assumption⟩)
              case rest =>
                obtain ⟨rfl, hm8⟩ := hcut
                go_wp2_with fail
                go_roundw
                case rel => exact ⟨k + 1, by omega, by go_num, hmk.trans hm8⟩
                case measure => simp [intOf]; omega
            · obtain rfl : k = S.length := by omega
              go_wp2_with (first
                | (go_at_call 10; refine (num_ok _ _).mono ?_; rintro e w8 ⟨rfl, rfl⟩)
                | (go_at_call 13; refine (works_ok _).mono ?_; rintro e w9 ⟨rfl, hm9⟩))
              go_ret
              exact ⟨rfl, (hmo.trans hmk).trans hm9⟩
end
theorem netAll_walk (a b : Option Addr) (ca cb : Nat) (l : List Deed) (l2 : List Int) (w : World) (ha : ArgList Deed.cells Deed.Fits 22 w a l) (hb : ArgList (fun x => [Value.int .i64 x]) (fun x => (Lit.int .i64 x).wf = true) 1 w b l2) :
    Calls Try.prog 4 #[.slice a l.length ca, .slice b l2.length cb] w fun e w' => e = .returned (.bool true) ∧ Below w.heap.size w w' := by
  by_cases h : l.length ≤ 100
  · exact (netAll_main a b ca cb l l2 w h ha hb).mono fun e w' hh => ⟨hh.1, hh.2.below⟩
  · exact (netAll_skip a l.length ca _ w (by omega)).mono fun e w' hh => ⟨hh.1, hh.2.below⟩
end Go.Proofs.Ytklokcndhkhdmaa
