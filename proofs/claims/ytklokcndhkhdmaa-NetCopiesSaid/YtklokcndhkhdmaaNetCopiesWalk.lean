/- NetCopies returns true: the walk. -/
import Derived.Test.YtklokcndhkhdmaaNetT
import Derived.Test.YtklokcndhkhdmaaNetI
namespace Go.Proofs.Ytklokcndhkhdmaa
open Go.RowKit
set_option linter.unusedVariables false
set_option linter.unusedSimpArgs false

set_option maxRecDepth 100000 in
theorem netCopies_skip (most : Int) (a : Option Addr) (n c : Nat) (x : Deed) (w : World) (h : most < 1 ∨ 1024 < most ∨ 100 < (n : Int)) :
    Calls Try.prog 9 #[.int .i64 most, .slice a n c, .agg x.cells.toArray] w fun e w' => e = .returned (.bool true) ∧ Mod (fun _ => False) w w' := by
  go_enter Try.func9, Try.ntmps9
  rcases (by omega : most < 1 ∨ (1 ≤ most ∧ 1024 < most) ∨ (1 ≤ most ∧ most ≤ 1024 ∧ 100 < (n : Int))) with h1 | ⟨h0, h1⟩ | ⟨h0, h2, h1⟩
  all_goals (
    go_wp2_with fail
    refine (works_ok _).mono ?_
    rintro e w1 ⟨rfl, hm⟩
    go_wp2
    go_ret
    exact ⟨rfl, ((Mod.refl _ _).alloc _).trans hm⟩)

def msgD : Msg := ⟨13, 2, 4, 9, zero16⟩
theorem msgD_fits : msgD.Fits := ⟨rfl, zeroMsg_fits.bytes⟩
theorem build_D (w : World) : (Instr.build 26 #[(0, .int .i64 13), (1, .int .i64 2), (2, .int .i64 4), (3, .int .u32 9)]).run Try.prog w = .ok (.agg msgD.cells.toArray) w := run_build w _ _ _ (by kernel_rfl)

section
attribute [-go_sem] Instr.loadAt Instr.storeAt Instr.build
attribute [local go_sem] build_D
attribute [local go_sem 500] run_loadAt_open run_storeAt_open
attribute [local go_sem] heap_drew blk_past cell_past free_past cellsAt old_alloc
attribute [local go_sem 2000] load26 store26
set_option maxRecDepth 100000 in
set_option maxHeartbeats 4000000 in
theorem netCopies_main (most : Int) (a : Option Addr) (c : Nat) (l : List Deed) (x : Deed) (hxf : x.Fits) (w : World) (h1 : 1 ≤ most) (h2 : most ≤ 1024) (h3 : l.length ≤ 100) (ha : ArgList Deed.cells Deed.Fits 22 w a l) :
    Calls Try.prog 9 #[.int .i64 most, .slice a l.length c, .agg x.cells.toArray] w fun e w' => e = .returned (.bool true) ∧ Mod (fun _ => False) w w' := by
  have h3' : (l.length : Int) ≤ 100 := by omega
  go_enter Try.func9, Try.ntmps9
  go_upto_region 3 with fail
  have hm0 : Mod (fun _ => False) w (w.alloc (Obj.cells x.cells.toArray 40)) := (Mod.refl _ _).alloc _
  have hbX := blk_new w (Obj.cells x.cells.toArray 40)
  have hsw0 : w.heap.size ≤ (w.alloc (Obj.cells x.cells.toArray 40)).heap.size := hm0.size
  obtain ⟨bx, hbxe⟩ : ∃ bx, bx = w.heap.size := ⟨_, rfl⟩
  rw [← hbxe] at hbX ⊢
  clear hbxe
  generalize w.alloc (Obj.cells x.cells.toArray 40) = w0 at *
  replace ha := ha.keep hm0
  go_wp2_with fail
  refine (played_ok most a c l _ h1 h2 h3 ha).mono ?_
  rintro e w1 ⟨p, L, v, o, rfl, hT, hm1⟩
  replace hbX := hm1.at hbX (fun x => x)
  replace hm0 := hm0.trans hm1
  have hsm := hT.net.small
  clear hm1 ha
  obtain ⟨q, cv, hvq, _⟩ := hT.msgs.len
  subst hvq
  go_upto_region 4 with fail
  have hb8 := blk_new w1 (Obj.cells #[.int .i64 most, .slice q L.length cv] 49)
  have hmA : Mod (fun _ => False) w1 (w1.alloc (Obj.cells #[.int .i64 most, .slice q L.length cv] 49)) := (Mod.refl _ _).alloc _
  generalize w1.heap.size = b8 at *
  generalize (w1.alloc (Obj.cells #[.int .i64 most, .slice q L.length cv] 49)) = w2 at *
  replace hT := hT.keep0 hmA
  replace hm0 := hm0.trans hmA
  replace hbX := hmA.at hbX (fun x => x)
  clear hmA
  try simp only [Act.put]
  go_wp2_with fail
  refine (copy_ok _ p o L most hT.net).mono ?_
  rintro e w3 ⟨pc, oc, rfl, hc, hmc, hpc, hoc⟩
  have hls := hT.net.lt
  have hlv := fun g => hT.msgs.row.lt (g := g)
  have hpcp : pc ≠ p := by omega
  have hoco : ∀ g, o = some g → oc ≠ some g := fun g hg e => by have := hoc g e; have := hls.2 g hg; omega
  have hvoc : ∀ g, ownOf (.slice q L.length cv) = some g → oc ≠ some g := fun g hg e => by have := hoc g e; have := hlv g hg; omega
  replace hT := hT.keep0 hmc
  replace hm0 := hm0.trans hmc
  replace hbX := hmc.at hbX (fun x => x)
  replace hb8 := hmc.at hb8 (fun x => x)
  clear hmc hpc hoc hls hlv
  have c80 : w3.cell? ⟨b8, 0, none⟩ = some (.int .i64 most) := cell_of w3 hb8 0
  have c81 : w3.cell? ⟨b8, 1, none⟩ = some (.slice q L.length cv) := cell_of w3 hb8 1
  go_upto_region 5 with fail
  have hsame := (same_ok w3 p pc o oc L L most most hT.net hc)
  simp only [and_self, decide_true] at hsame
  go_wp2_with fail
  refine hsame.mono ?_
  clear hsame
  rintro e w4 ⟨rfl, hm4⟩
  replace hT := hT.keep0 hm4
  replace hc := hc.keep hm4 (fun x => x) (fun _ _ x => x)
  replace hm0 := hm0.trans hm4
  replace hbX := hm4.at hbX (fun x => x)
  replace hb8 := hm4.at hb8 (fun x => x)
  replace c80 := hm4.cell c80 (fun x => x)
  replace c81 := hm4.cell c81 (fun x => x)
  clear hm4
  go_upto_region 8 with fail
  have hb11 := blk_new w4 (Obj.cells #[.int .i64 most, .slice q L.length cv] 49)
  have hmA : Mod (fun _ => False) w4 (w4.alloc (Obj.cells #[.int .i64 most, .slice q L.length cv] 49)) := (Mod.refl _ _).alloc _
  have h811 : b8 < w4.heap.size := lt_of_block hb8
  have hwb : w.heap.size ≤ w4.heap.size := hm0.size
  generalize w4.heap.size = b11 at *
  generalize (w4.alloc (Obj.cells #[.int .i64 most, .slice q L.length cv] 49)) = w5 at *
  replace hT := hT.keep0 hmA
  replace hc := hc.keep hmA (fun x => x) (fun _ _ x => x)
  replace hm0 := hm0.trans hmA
  replace hbX := hmA.at hbX (fun x => x)
  replace hb8 := hmA.at hb8 (fun x => x)
  clear hmA c80 c81
  try simp only [Act.put]
  go_wp2_with fail
  refine (copy_ok _ p o L most hT.net).mono ?_
  rintro e w6 ⟨po, oo, rfl, hO, hmc, hpo, hoo⟩
  have hls := hT.net.lt
  have hlv := fun g => hT.msgs.row.lt (g := g)
  have hlc := hc.lt
  have hw5 := hm0.size
  have hpoN : w.heap.size ≤ po := by omega
  have hooN : ∀ g, oo = some g → w.heap.size ≤ g := fun g hg => by have := hoo g hg; omega
  clear hw5
  have hpop : po ≠ p := by omega
  have hpopc : po ≠ pc := by omega
  have hoo1 : ∀ g, oo = some g → o ≠ some g ∧ oc ≠ some g ∧ ownOf (.slice q L.length cv) ≠ some g := fun g hg => by
    have h5 := hoo g hg
    refine ⟨fun e => ?_, fun e => ?_, fun e => ?_⟩
    · have := hls.2 g e; omega
    · have := hlc.2 g e; omega
    · have := hlv g e; omega
  replace hT := hT.keep0 hmc
  replace hc := hc.keep hmc (fun x => x) (fun _ _ x => x)
  replace hm0 := hm0.trans hmc
  replace hbX := hmc.at hbX (fun x => x)
  replace hb8 := hmc.at hb8 (fun x => x)
  replace hb11 := hmc.at hb11 (fun x => x)
  clear hmc hpo hoo hls hlv hlc
  have c80 : w6.cell? ⟨b8, 0, none⟩ = some (.int .i64 most) := cell_of w6 hb8 0
  have c81 : w6.cell? ⟨b8, 1, none⟩ = some (.slice q L.length cv) := cell_of w6 hb8 1
  have hx0 : w6.cell? ⟨bx, 0, none⟩ = some (.int .i64 x.what) := by rw [cell_of w6 hbX]; exact x.at0
  have hx21 : w6.cell? ⟨bx, 21, none⟩ = some (.int .i64 x.pick) := by rw [cell_of w6 hbX]; exact x.at21 hxf
  have hxr : w6.rangeAt bx 1 x.msg.cells := fun j v hj => by rw [cell_of w6 hbX]; exact x.at1 hxf j v hj
  have hlx := load_msg_at x.msg hxf bx 1
  have hmf : x.msg.Fits := hxf
  have hmc := cells_length _ hmf
  go_upto_if 58 with fail
  go_cut [] (fun wx => ∃ v1 L1 o1, wx.heap[b11]? = some (.cells #[.int .i64 most, v1] 49 (0, 0)) ∧ Msgs wx v1 L1 ∧ Net wx p o1 L1 most ∧ Net wx pc oc L most ∧ Net wx po oo L most ∧ Msgs wx (.slice q L.length cv) L ∧
    wx.heap[b8]? = some (.cells #[.int .i64 most, .slice q L.length cv] 49 (0, 0)) ∧ Mod (fun _ => False) w wx ∧ ∀ g, oo = some g → oc ≠ some g ∧ o1 ≠ some g ∧ ownOf (.slice q L.length cv) ≠ some g ∧ ownOf v1 ≠ some g)
  case first =>
   by_cases hw : x.what = 0
   · have hw' : (x.what != 0) = false := by simpa using hw
     clear hw
     clear hx21
     go_upto_region 12 with fail
     go_wp2_with fail
     refine (refsend_ok _ _ L most x.msg hT.msgs hmf (by omega)).mono ?_
     rintro e w7 ⟨v1, rfl, hms1, hm7, hov1⟩
     obtain ⟨q1, c1, hv1, _⟩ := hms1.len
     subst hv1
     have hb117 := hm7.at hb11 (fun x => x)
     have hf0 := free_of w7 hb117 0
     have hf1 := free_of w7 hb117 1
     have he0 : w7.cell? ⟨b11, 0, none⟩ = some (.int .i64 most) := cell_of w7 hb117 0
     have he1 : w7.cell? ⟨b11, 1, none⟩ = some (.slice q L.length cv) := cell_of w7 hb117 1
     go_upto_region 13 with fail
     have hm8 : Mod (fun k => k = b11) w7 ((w7.setCell ⟨b11, 0, none⟩ (.int .i64 most)).setCell ⟨b11, 1, none⟩ (.slice q1 (sendList L most x.msg).length c1)) := ((Mod.refl (fun k => k = b11) w7).setCell (.inl rfl) _).setCell (.inl rfl) _
     have hb8b := two_set (x := .int .i64 most) (y := .slice q1 (sendList L most x.msg).length c1) hb117
     generalize (w7.setCell ⟨b11, 0, none⟩ (.int .i64 most)).setCell ⟨b11, 1, none⟩ (.slice q1 (sendList L most x.msg).length c1) = w8 at *
     clear hf0 hf1 he0 he1
     have hlv := hT.net.lt
     have hms8 := hms1.keep hm8 (fun g hg hh => hms1.ne hb117 (by decide) g hg hh)
     have hm68 : Mod (fun k => k = b11) w6 w8 := (hm7.mono (T := fun k => k = b11) (fun _ _ x => x.elim)).trans hm8
     have hm08 : Mod (fun _ => False) w w8 := hm0.trans' hm68 (by rintro i hi rfl; omega)
     have kp := hT.net.p_ne hb11 (by decide)
     have ko := hT.net.o_ne hb11 (by decide)
     have hT8 := hT.keep hm68 kp.symm (fun g hg hh => ko (by rw [hg, hh])) (fun g hg hh => hT.msgs.ne hb11 (by decide) g hg hh)
     have hc8 := hc.keep hm68 (hc.p_ne hb11 (by decide)).symm (fun g hg hh => hc.o_ne hb11 (by decide) (by rw [hg, hh]))
     have hO8 := hO.keep hm68 (hO.p_ne hb11 (by decide)).symm (fun g hg hh => hO.o_ne hb11 (by decide) (by rw [hg, hh]))
     have hbX8 := hm68.at hbX (by rintro rfl; rw [hbX] at hb11; simp at hb11)
     have hb88 := hm68.at hb8 (by omega)
     have hlo6 := hO.lt
     have hlc6 := hc.lt
     have hs7 := hm7.size
     have hs8 := hm8.size
     have hxr8 : w8.rangeAt bx 1 x.msg.cells := fun j v hj => by rw [cell_of w8 hbX8]; exact x.at1 hxf j v hj
     go_wp2_with fail
     refine (send_ok _ p o L most hT8.net x.msg hmf).mono ?_
     rintro e w9 ⟨rfl, o1, hn9, hm9, ho1⟩
     have hap := hT8.apart
     go_wp2_with fail
     go_meet
     case rel =>
       have hoo : ∀ g, oo = some g → w6.heap.size ≤ g → False := fun g hg hh => by have := hlo6.2 g hg; omega
       have hoc6 : ∀ g, oc = some g → g < w6.heap.size := hlc6.2
       refine ⟨_, _, o1, hm9.at hb8b ?_, hms8.keep hm9 ?_, hn9, hc8.keep hm9 ?_ ?_, hO8.keep hm9 ?_ ?_, hT8.msgs.keep hm9 ?_, hm9.at hb88 ?_, hm08.trans' hm9 ?_, ?_⟩
       · rintro (hh | hh); exact kp hh; exact ko hh
       · rintro g hg (hh | hh)
         · obtain ⟨v2, e2, _⟩ := hT8.net.ex
           exact hms8.ne e2 (by decide) g hg hh
         · rcases hov1 g hg with h4 | h4
           · exact (hap g h4).1 hh
           · have := hlv.2 g hh; omega
       · rintro (hh | hh); exact hpcp hh; exact hT8.net.o_ne (hc8.ex.choose_spec.1) (by decide) hh
       · rintro g hg (hh | hh); exact hc8.o_ne (hT8.net.ex.choose_spec.1) (by decide) (by rw [hg, hh]); exact hoco g hh hg
       · rintro (hh | hh); exact hpop hh; exact hT8.net.o_ne (hO8.ex.choose_spec.1) (by decide) hh
       · rintro g hg (hh | hh); exact hO8.o_ne (hT8.net.ex.choose_spec.1) (by decide) (by rw [hg, hh]); exact (hoo1 g hg).1 hh
       · rintro g hg (hh | hh)
         · obtain ⟨v2, e2, _⟩ := hT8.net.ex
           exact hT8.msgs.ne e2 (by decide) g hg hh
         · exact (hap g hg).1 hh
       · rintro (hh | hh); exact hT8.net.p_ne hb88 (by decide) hh; exact hT8.net.o_ne hb88 (by decide) hh
       · rintro i hi (rfl | hh); have := hT8.pN; have := hsw0; omega; have := hT8.own i hh; have := hsw0; omega
       · intro g hg
         refine ⟨(hoo1 g hg).2.1, fun hh => ?_, (hoo1 g hg).2.2, fun hh => ?_⟩
         · rcases ho1 g hh with h4 | h4
           · exact (hoo1 g hg).1 h4
           · exact hoo g hg (by omega)
         · rcases hov1 g hh with h4 | h4
           · exact (hoo1 g hg).2.2 h4
           · exact hoo g hg (by omega)
 
   · have hw' : (x.what != 0) = true := by simpa using hw
     clear hw hxr hlx
     go_upto_region 10 with fail
     go_wp2_with fail
     refine (refdel_any _ _ L most x.pick hT.msgs (by omega)).mono ?_
     rintro e w7 ⟨v1, rfl, hms1, hm7, hov1⟩
     obtain ⟨q1, c1, hv1, _⟩ := hms1.len
     subst hv1
     have hb117 := hm7.at hb11 (fun x => x)
     have hf0 := free_of w7 hb117 0
     have hf1 := free_of w7 hb117 1
     have he0 : w7.cell? ⟨b11, 0, none⟩ = some (.int .i64 most) := cell_of w7 hb117 0
     have he1 : w7.cell? ⟨b11, 1, none⟩ = some (.slice q L.length cv) := cell_of w7 hb117 1
     go_upto_region 11 with fail
     have hm8 : Mod (fun k => k = b11) w7 ((w7.setCell ⟨b11, 0, none⟩ (.int .i64 most)).setCell ⟨b11, 1, none⟩ (.slice q1 (delList L x.pick).length c1)) := ((Mod.refl (fun k => k = b11) w7).setCell (.inl rfl) _).setCell (.inl rfl) _
     have hb8b := two_set (x := .int .i64 most) (y := .slice q1 (delList L x.pick).length c1) hb117
     generalize (w7.setCell ⟨b11, 0, none⟩ (.int .i64 most)).setCell ⟨b11, 1, none⟩ (.slice q1 (delList L x.pick).length c1) = w8 at *
     clear hf0 hf1 he0 he1
     have hlv := hT.net.lt
     have hms8 := hms1.keep hm8 (fun g hg hh => hms1.ne hb117 (by decide) g hg hh)
     have hm68 : Mod (fun k => k = b11) w6 w8 := (hm7.mono (T := fun k => k = b11) (fun _ _ x => x.elim)).trans hm8
     have hm08 : Mod (fun _ => False) w w8 := hm0.trans' hm68 (by rintro i hi rfl; omega)
     have kp := hT.net.p_ne hb11 (by decide)
     have ko := hT.net.o_ne hb11 (by decide)
     have hT8 := hT.keep hm68 kp.symm (fun g hg hh => ko (by rw [hg, hh])) (fun g hg hh => hT.msgs.ne hb11 (by decide) g hg hh)
     have hc8 := hc.keep hm68 (hc.p_ne hb11 (by decide)).symm (fun g hg hh => hc.o_ne hb11 (by decide) (by rw [hg, hh]))
     have hO8 := hO.keep hm68 (hO.p_ne hb11 (by decide)).symm (fun g hg hh => hO.o_ne hb11 (by decide) (by rw [hg, hh]))
     have hbX8 := hm68.at hbX (by rintro rfl; rw [hbX] at hb11; simp at hb11)
     have hb88 := hm68.at hb8 (by omega)
     have hlo6 := hO.lt
     have hlc6 := hc.lt
     have hs7 := hm7.size
     have hs8 := hm8.size
     have hx21 : w8.cell? ⟨bx, 21, none⟩ = some (.int .i64 x.pick) := by rw [cell_of w8 hbX8]; exact x.at21 hxf
     go_wp2_with fail
     refine (deliver_any _ p o L most hT8.net x.pick).mono ?_
     rintro e w9 ⟨rfl, o1, hn9, hm9, ho1⟩
     have hap := hT8.apart
     go_wp2_with fail
     go_meet
     case rel =>
       have hoo : ∀ g, oo = some g → w6.heap.size ≤ g → False := fun g hg hh => by have := hlo6.2 g hg; omega
       have hoc6 : ∀ g, oc = some g → g < w6.heap.size := hlc6.2
       refine ⟨_, _, o1, hm9.at hb8b ?_, hms8.keep hm9 ?_, hn9, hc8.keep hm9 ?_ ?_, hO8.keep hm9 ?_ ?_, hT8.msgs.keep hm9 ?_, hm9.at hb88 ?_, hm08.trans' hm9 ?_, ?_⟩
       · rintro (hh | hh); exact kp hh; exact ko hh
       · rintro g hg (hh | hh)
         · obtain ⟨v2, e2, _⟩ := hT8.net.ex
           exact hms8.ne e2 (by decide) g hg hh
         · rcases hov1 g hg with h4 | h4
           · exact (hap g h4).1 hh
           · have := hlv.2 g hh; omega
       · rintro (hh | hh); exact hpcp hh; exact hT8.net.o_ne (hc8.ex.choose_spec.1) (by decide) hh
       · rintro g hg (hh | hh); exact hc8.o_ne (hT8.net.ex.choose_spec.1) (by decide) (by rw [hg, hh]); exact hoco g hh hg
       · rintro (hh | hh); exact hpop hh; exact hT8.net.o_ne (hO8.ex.choose_spec.1) (by decide) hh
       · rintro g hg (hh | hh); exact hO8.o_ne (hT8.net.ex.choose_spec.1) (by decide) (by rw [hg, hh]); exact (hoo1 g hg).1 hh
       · rintro g hg (hh | hh)
         · obtain ⟨v2, e2, _⟩ := hT8.net.ex
           exact hT8.msgs.ne e2 (by decide) g hg hh
         · exact (hap g hg).1 hh
       · rintro (hh | hh); exact hT8.net.p_ne hb88 (by decide) hh; exact hT8.net.o_ne hb88 (by decide) hh
       · rintro i hi (rfl | hh); have := hT8.pN; have := hsw0; omega; have := hT8.own i hh; have := hsw0; omega
       · intro g hg
         refine ⟨(hoo1 g hg).2.1, fun hh => ?_, (hoo1 g hg).2.2, fun hh => ?_⟩
         · rcases ho1 g hh with h4 | h4
           · exact (hoo1 g hg).1 h4
           · exact hoo g hg (by omega)
         · rcases hov1 g hh with h4 | h4
           · exact (hoo1 g hg).2.2 h4
           · exact hoo g hg (by omega)
 
  case rest =>
    obtain ⟨v1, L1, o1, hb11', hms1, hn, hc', hO', hms, hb8', hmw, hsep⟩ := hcut
    clear hT hc hO hbX hb8 hb11 hm0 c80 c81 hx0 hx21 hxr hlx hoo1 hoco hvoc hsw0
    have hsm1 := hn.small
    obtain ⟨q1, c1, hv1, _⟩ := hms1.len
    subst hv1
    have c80 : wc.cell? ⟨b8, 0, none⟩ = some (.int .i64 most) := cell_of wc hb8' 0
    have c81 : wc.cell? ⟨b8, 1, none⟩ = some (.slice q L.length cv) := cell_of wc hb8' 1
    have c110 : wc.cell? ⟨b11, 0, none⟩ = some (.int .i64 most) := cell_of wc hb11' 0
    have c111 : wc.cell? ⟨b11, 1, none⟩ = some (.slice q1 L1.length c1) := cell_of wc hb11' 1
    go_upto_region 14 with fail
    go_wp2_with fail
    refine (refsame_ok _ _ _ L1 L hms1 hms (by omega) (by omega)).mono ?_
    rintro e wa ⟨rfl, hma⟩
    replace hmw := hmw.trans hma
    replace hb11' := hma.at hb11' (fun x => x)
    replace hb8' := hma.at hb8' (fun x => x)
    replace hms1 := hms1.keep hma (fun _ _ x => x)
    replace hms := hms.keep hma (fun _ _ x => x)
    replace hn := hn.keep hma (fun x => x) (fun _ _ x => x)
    replace hc' := hc'.keep hma (fun x => x) (fun _ _ x => x)
    replace hO' := hO'.keep hma (fun x => x) (fun _ _ x => x)
    clear hma c80 c81 c110 c111
    go_upto_region 15 with fail
    go_wp2_with fail
    refine (ready_ok _ pc oc L most hc').mono ?_
    rintro e wb ⟨v14, rfl, hms14, hmb, hov14⟩
    obtain ⟨q14, c14, hv14, _⟩ := hms14.len
    subst hv14
    go_upto_region 16 with fail
    have hL0 : 0 < L.length → ∃ g cs, q14 = some ⟨g, 0, none⟩ ∧ wa.heap.size ≤ g ∧ wb.heap[g]? = some (.cells cs 26 (0, 0)) ∧ ∀ i, i < L.length → ∃ y, cs[i * 20 + 3]? = some (.int .u32 y) := by
      intro hpos
      obtain ⟨g, cap, hvg, hg, _, _⟩ := hms14.row.full hpos
      simp only [Value.slice.injEq, true_and] at hvg
      obtain ⟨cap', cs, _, hcs, _⟩ := hms14.row.block hg
      refine ⟨g, cs, hvg.1, hov14 g hg, hcs, fun i hi => ?_⟩
      obtain ⟨g2, cap2, m, hv2, hm2, hf2, hr2, hg2, _⟩ := hms14.at hi
      rw [hg] at hg2
      cases hg2
      have := hr2 3 _ (cells_3 m)
      rw [cell_of wb hcs] at this
      exact ⟨_, this⟩
    clear hms14 hov14
    go_wp2_with fail
    go_loopw [15] (fun i wr => ∃ j : Nat, j ≤ L.length ∧ i = .int .i64 j ∧ Mod (fun _ => False) wa wr ∧ (0 < L.length → ∃ g cs, q14 = some ⟨g, 0, none⟩ ∧ wa.heap.size ≤ g ∧ wr.heap[g]? = some (.cells cs 26 (0, 0)) ∧ ∀ i, i < L.length → ∃ y, cs[i * 20 + 3]? = some (.int .u32 y))) (fun i _ => L.length - (intOf i).toNat)
    case atStart => exact ⟨0, by omega, rfl, hmb, hL0⟩
    case round =>
      obtain ⟨j, hj, rfl, hmr, hL⟩ := hrel
      by_cases hlt : j < L.length
      · obtain ⟨g, cs, rfl, hag, hcs, hy⟩ := hL (by omega)
        obtain ⟨y, hyj⟩ := hy j hlt
        have hcell : wr.cell? ⟨g, j * 20 + 3, none⟩ = some (.int .u32 y) := by rw [cell_of wr hcs]; exact hyj
        have hfree := free_of wr hcs (j * 20 + 3)
        have hj0 : (0 : Int) ≤ (j : Int) := by omega
        have hja : (j : Int) < (L.length : Int) := by omega
        clear hL hL0
        go_wp2_with fail
        go_roundw
        case rel =>
          refine ⟨j + 1, by omega, by go_num, hmr.setCell (.inr hag) _, fun _ => ⟨g, _, rfl, hag, heap_setCell_same _ _ _ _ _ _ hcs, fun i hi => ?_⟩⟩
          rw [Array.getElem?_setIfInBounds]
          split
          · split
            · exact ⟨_, rfl⟩
            · rename_i hb
              have := (Array.getElem?_eq_some_iff.1 hyj).1
              omega
          · exact hy i hi
        case measure => simp [intOf]; omega
      · obtain rfl : j = L.length := by omega
        replace hb11' := hmr.at hb11' (fun x => x)
        replace hb8' := hmr.at hb8' (fun x => x)
        replace hms1 := hms1.keep hmr (fun _ _ x => x)
        replace hms := hms.keep hmr (fun _ _ x => x)
        replace hn := hn.keep hmr (fun x => x) (fun _ _ x => x)
        replace hc' := hc'.keep hmr (fun x => x) (fun _ _ x => x)
        replace hO' := hO'.keep hmr (fun x => x) (fun _ _ x => x)
        replace hmw := hmw.trans hmr
        clear hL hL0 hmr hmb
        have hd0 : 0 ≤ most % 1024 := by omega
        have hd1 : most % 1024 < 1024 := by omega
        go_wp2_with fail
        refine (new_ok _ (most % 1024 + 1) (by omega) (by omega)).mono ?_
        rintro e wd ⟨pw, rfl, hW, hpw, hmd⟩
        have hpwo : pw ≠ po := by have := hO'.lt.1; omega
        go_wp2_with fail
        refine (new_ok _ most h1 h2).mono ?_
        rintro e we ⟨pe, rfl, hE, hpe, hme⟩
        have hpeo : pe ≠ po := by have := hO'.lt.1; have := hmd.size; omega
        replace hW := hW.keep hme (fun x => x) (fun _ _ x => x)
        replace hmd := hmd.trans hme
        clear hme hpw hpe
        go_upto_region 23 with (refine wpL_storeNew rfl 26 _ _ rfl rfl msgD.cells.toArray rfl _ _ 20 info26 rfl rfl (cells_one msgD) ?_)
        have hb20 := blk_new we (Obj.cells msgD.cells.toArray 26)
        have hmA : Mod (fun _ => False) we (we.alloc (Obj.cells msgD.cells.toArray 26)) := (Mod.refl _ _).alloc _
        generalize we.heap.size = b20 at *
        generalize we.alloc (Obj.cells msgD.cells.toArray 26) = wf at *
        replace hE := hE.keep hmA (fun x => x) (fun _ _ x => x)
        replace hW := hW.keep hmA (fun x => x) (fun _ _ x => x)
        replace hmd := hmd.trans hmA
        replace hb11' := hmd.at hb11' (fun x => x)
        replace hb8' := hmd.at hb8' (fun x => x)
        replace hms1 := hms1.keep hmd (fun _ _ x => x)
        replace hms := hms.keep hmd (fun _ _ x => x)
        replace hn := hn.keep hmd (fun x => x) (fun _ _ x => x)
        replace hc' := hc'.keep hmd (fun x => x) (fun _ _ x => x)
        replace hO' := hO'.keep hmd (fun x => x) (fun _ _ x => x)
        replace hmw := hmw.trans hmd
        clear hmd hmA
        have c80 : wf.cell? ⟨b8, 0, none⟩ = some (.int .i64 most) := cell_of wf hb8' 0
        have c81 : wf.cell? ⟨b8, 1, none⟩ = some (.slice q L.length cv) := cell_of wf hb8' 1
        try simp only [Act.put]
        go_wp2_with (refine wpL_load rfl 26 _ rfl b20 rfl _ hb20 Try.underlying26 rfl 20 info26 rfl ?_)
        refine (refsend_ok _ _ L most msgD hms msgD_fits (by omega)).mono ?_
        rintro e wg ⟨v2, rfl, hms2, hmg, hov2⟩
        obtain ⟨q2, c2, hv2, _⟩ := hms2.len
        subst hv2
        go_upto_region 24 with fail
        have hb21 := blk_new wg (Obj.cells #[.int .i64 most, .slice q2 (sendList L most msgD).length c2] 49)
        have hmA : Mod (fun _ => False) wg (wg.alloc (Obj.cells #[.int .i64 most, .slice q2 (sendList L most msgD).length c2] 49)) := (Mod.refl _ _).alloc _
        generalize wg.heap.size = b21 at *
        generalize wg.alloc (Obj.cells #[.int .i64 most, .slice q2 (sendList L most msgD).length c2] 49) = wh at *
        replace hms2 := hms2.keep hmA (fun _ _ x => x)
        replace hmg := hmg.trans hmA
        have hos : ∀ g, oo = some g → ownOf (.slice q2 (sendList L most msgD).length c2) ≠ some g := fun g hg hh => by
          rcases hov2 g hh with h4 | h4
          · exact (hsep g hg).2.2.1 h4
          · have := hO'.lt.2 g hg; omega
        replace hE := hE.keep hmg (fun x => x) (fun _ _ x => x)
        replace hW := hW.keep hmg (fun x => x) (fun _ _ x => x)
        replace hb11' := hmg.at hb11' (fun x => x)
        replace hb8' := hmg.at hb8' (fun x => x)
        replace hb20 := hmg.at hb20 (fun x => x)
        replace hms1 := hms1.keep hmg (fun _ _ x => x)
        replace hms := hms.keep hmg (fun _ _ x => x)
        replace hn := hn.keep hmg (fun x => x) (fun _ _ x => x)
        replace hc' := hc'.keep hmg (fun x => x) (fun _ _ x => x)
        replace hO' := hO'.keep hmg (fun x => x) (fun _ _ x => x)
        replace hmw := hmw.trans hmg
        clear hmg hmA c80 c81 hov2
        try simp only [Act.put]
        go_wp2_with fail
        refine (copy_ok _ pc oc L most hc').mono ?_
        rintro e wi ⟨pd, od, rfl, hD, hmi, hpd, hod⟩
        have hb20w := hb20
        replace hb20 := hmi.at hb20 (fun x => x)
        go_wp2_with (refine wpL_load rfl 26 _ rfl b20 rfl _ hb20 Try.underlying26 rfl 20 info26 rfl ?_)
        refine (send_ok _ pd od L most hD msgD msgD_fits).mono ?_
        rintro e wj ⟨rfl, od', hD', hmj, hod'⟩
        replace hmi : Mod (fun _ => False) wh wj := hmi.trans' hmj (by rintro i hi (rfl | hh); omega; have := hod i hh; omega)
        clear hb20
        have hb20 := hb20w
        replace hE := hE.keep hmi (fun x => x) (fun _ _ x => x)
        replace hW := hW.keep hmi (fun x => x) (fun _ _ x => x)
        replace hn := hn.keep hmi (fun x => x) (fun _ _ x => x)
        replace hc' := hc'.keep hmi (fun x => x) (fun _ _ x => x)
        replace hO' := hO'.keep hmi (fun x => x) (fun _ _ x => x)
        replace hms1 := hms1.keep hmi (fun _ _ x => x)
        replace hms := hms.keep hmi (fun _ _ x => x)
        replace hms2 := hms2.keep hmi (fun _ _ x => x)
        replace hb11' := hmi.at hb11' (fun x => x)
        replace hb8' := hmi.at hb8' (fun x => x)
        replace hb20 := hmi.at hb20 (fun x => x)
        replace hb21 := hmi.at hb21 (fun x => x)
        replace hmw := hmw.trans hmi
        clear hmi hmj hod' hod hpd hD
        have c210 : wj.cell? ⟨b21, 0, none⟩ = some (.int .i64 most) := cell_of wj hb21 0
        have c211 : wj.cell? ⟨b21, 1, none⟩ = some (.slice q2 (sendList L most msgD).length c2) := cell_of wj hb21 1
        have hbe : (sendNum L most msgD != sendNum L most msgD) = false := by simp
        go_wp2_with (go_at_call 10; refine (num_ok _ _).mono ?_; rintro e w' ⟨rfl, rfl⟩)
        refine (is_ok _ pd od' _ most most _ hD' hms2).mono ?_
        rintro e wk ⟨rfl, hmk⟩
        replace hE := hE.keep hmk (fun x => x) (fun _ _ x => x)
        replace hW := hW.keep hmk (fun x => x) (fun _ _ x => x)
        replace hn := hn.keep hmk (fun x => x) (fun _ _ x => x)
        replace hc' := hc'.keep hmk (fun x => x) (fun _ _ x => x)
        replace hO' := hO'.keep hmk (fun x => x) (fun _ _ x => x)
        replace hms1 := hms1.keep hmk (fun _ _ x => x)
        replace hms := hms.keep hmk (fun _ _ x => x)
        replace hms2 := hms2.keep hmk (fun _ _ x => x)
        replace hb11' := hmk.at hb11' (fun x => x)
        replace hb8' := hmk.at hb8' (fun x => x)
        replace hb20 := hmk.at hb20 (fun x => x)
        replace hb21 := hmk.at hb21 (fun x => x)
        replace hmw := hmw.trans hmk
        replace c210 := hmk.cell c210 (fun x => x)
        replace c211 := hmk.cell c211 (fun x => x)
        clear hmk hD' hb20w
        go_wp2_with (refine wpL_load rfl 26 _ rfl b20 rfl _ hb20 Try.underlying26 rfl 20 info26 rfl ?_)
        refine (send_ok _ po oo L most hO' msgD msgD_fits).mono ?_
        rintro e wl ⟨rfl, oo', hO2, hml, -⟩
        have tp := hO'.ex.choose_spec.1
        have hml2 : Mod (fun _ => False) w wl := hmw.trans' hml (by rintro i hi (rfl | hh); omega; have := hooN i hh; omega)
        have k21 := hO'.at hml hb21 (by decide) (by decide)
        have k11 := hO'.at hml hb11' (by decide) (by decide)
        have k8 := hO'.at hml hb8' (by decide) (by decide)
        have kE := hE.keep hml (by rintro (hh | hh); exact hpeo hh; exact hO'.o_ne hE.ex.choose_spec.1 (by decide) hh) (fun g hg => by cases hg)
        have kW := hW.keep hml (by rintro (hh | hh); exact hpwo hh; exact hO'.o_ne hW.ex.choose_spec.1 (by decide) hh) (fun g hg => by cases hg)
        have kn := hn.keep hml (by rintro (hh | hh); exact hpop hh.symm; exact hO'.o_ne hn.ex.choose_spec.1 (by decide) hh) (fun g hg => by rintro (hh | hh); exact hn.o_ne tp (by decide) (by rw [hg, hh]); exact (hsep g hh).2.1 hg)
        have kc := hc'.keep hml (by rintro (hh | hh); exact hpopc hh.symm; exact hO'.o_ne hc'.ex.choose_spec.1 (by decide) hh) (fun g hg => by rintro (hh | hh); exact hc'.o_ne tp (by decide) (by rw [hg, hh]); exact (hsep g hh).1 hg)
        have kms := hms.keep hml (fun g hg => by rintro (hh | hh); exact hms.ne tp (by decide) g hg hh; exact (hsep g hh).2.2.1 hg)
        have kms1 := hms1.keep hml (fun g hg => by rintro (hh | hh); exact hms1.ne tp (by decide) g hg hh; exact (hsep g hh).2.2.2 hg)
        have kms2 := hms2.keep hml (fun g hg => by rintro (hh | hh); exact hms2.ne tp (by decide) g hg hh; exact hos g hh hg)
        clear hn hc' hms hms1 hms2 hE hW hb21 hb11' hb8' hb20 tp hmw hml hO' hsep hos c210 c211
        have c210 : wl.cell? ⟨b21, 0, none⟩ = some (.int .i64 most) := cell_of wl k21 0
        have c211 : wl.cell? ⟨b21, 1, none⟩ = some (.slice q2 (sendList L most msgD).length c2) := cell_of wl k21 1
        go_wp2_with (go_at_call 10; refine (num_ok _ _).mono ?_; rintro e w' ⟨rfl, rfl⟩)
        refine (is_ok _ po oo' _ most most _ hO2 kms2).mono ?_
        rintro e wm ⟨rfl, hmm⟩
        go_upto_region 27 with fail
        replace hml2 := hml2.trans hmm
        replace k11 := hmm.at k11 (fun x => x)
        replace k8 := hmm.at k8 (fun x => x)
        replace kE := kE.keep hmm (fun x => x) (fun _ _ x => x)
        replace kW := kW.keep hmm (fun x => x) (fun _ _ x => x)
        replace kn := kn.keep hmm (fun x => x) (fun _ _ x => x)
        replace kc := kc.keep hmm (fun x => x) (fun _ _ x => x)
        replace kms := kms.keep hmm (fun _ _ x => x)
        replace kms1 := kms1.keep hmm (fun _ _ x => x)
        clear hmm c210 c211 hO2 k21 kms2
        have c80 : wm.cell? ⟨b8, 0, none⟩ = some (.int .i64 most) := cell_of wm k8 0
        have c81 : wm.cell? ⟨b8, 1, none⟩ = some (.slice q L.length cv) := cell_of wm k8 1
        have c110 : wm.cell? ⟨b11, 0, none⟩ = some (.int .i64 most) := cell_of wm k11 0
        have c111 : wm.cell? ⟨b11, 1, none⟩ = some (.slice q1 L1.length c1) := cell_of wm k11 1
        go_wp2_with fail
        refine (is_ok _ pc oc _ most most _ kc kms).mono ?_
        rintro e wn ⟨rfl, hmn⟩
        replace kn := kn.keep hmn (fun x => x) (fun _ _ x => x)
        replace kms1 := kms1.keep hmn (fun _ _ x => x)
        replace kc := kc.keep hmn (fun x => x) (fun _ _ x => x)
        replace c110 := hmn.cell c110 (fun x => x)
        replace c111 := hmn.cell c111 (fun x => x)
        go_wp2_with fail
        refine (is_ok _ p o1 _ most most _ kn kms1).mono ?_
        rintro e wo ⟨rfl, hmo⟩
        replace kn := kn.keep hmo (fun x => x) (fun _ _ x => x)
        replace kc := kc.keep hmo (fun x => x) (fun _ _ x => x)
        replace kE := (kE.keep hmn (fun x => x) (fun _ _ x => x)).keep hmo (fun x => x) (fun _ _ x => x)
        replace kW := (kW.keep hmn (fun x => x) (fun _ _ x => x)).keep hmo (fun x => x) (fun _ _ x => x)
        replace hml2 := (hml2.trans hmn).trans hmo
        clear hmn hmo c80 c81 c110 c111
        have e1 : decide (most = most ∧ L1 = L) = decide (L1 = L) := by simp
        have e2 : decide (most = most ∧ L = L1) = decide (L1 = L) := decide_eq_decide.2 ⟨fun h => h.2.symm, fun h => ⟨rfl, h.symm⟩⟩
        have e3 : decide (most % 1024 + 1 = most ∧ ([] : List Msg) = []) = false := by simp; omega
        have S1 := same_ok wo p pc o1 oc L1 L most most kn kc
        rw [e1] at S1
        have S2 := fun (w' : World) (hw : Mod (fun _ => False) wo w') => same_ok w' pc p oc o1 L L1 most most (kc.keep hw (fun x => x) (fun _ _ x => x)) (kn.keep hw (fun x => x) (fun _ _ x => x))
        rw [e2] at S2
        have S3 := fun (w' : World) (hw : Mod (fun _ => False) wo w') => same_ok w' pw pe none none [] [] (most % 1024 + 1) most (kW.keep hw (fun x => x) (fun _ _ x => x)) (kE.keep hw (fun x => x) (fun _ _ x => x))
        rw [e3] at S3
        clear e1 e2 e3 kn kc kW kE
        generalize decide (L1 = L) = sm at *
        have hss : (sm == sm) = true := by simp
        have hne : (most % 1024 + 1 == most) = false := by simp; omega
        have S1' := Lib.hid S1
        have S2' := Lib.hid S2
        have S3' := Lib.hid S3
        clear S1 S2 S3
        go_wp2_with fail
        refine S1'.out.mono ?_
        rintro e wp' ⟨rfl, hmp⟩
        go_wp2_with fail
        refine (S2'.out _ hmp).mono ?_
        rintro e wq ⟨rfl, hmq⟩
        go_wp2_with fail
        refine (S3'.out _ (hmp.trans hmq)).mono ?_
        rintro e wz ⟨rfl, hmz⟩
        go_wp2_with fail
        refine (works_ok _).mono ?_
        rintro e wv ⟨rfl, hmv⟩
        go_wp2_with fail
        go_ret
        exact ⟨rfl, (((hml2.trans hmp).trans hmq).trans hmz).trans hmv⟩
end
theorem netCopies_walk (most : Int) (a : Option Addr) (c : Nat) (l : List Deed) (x : Deed) (hxf : x.Fits) (w : World) (ha : ArgList Deed.cells Deed.Fits 22 w a l) :
    Calls Try.prog 9 #[.int .i64 most, .slice a l.length c, .agg x.cells.toArray] w fun e w' => e = .returned (.bool true) ∧ Below w.heap.size w w' := by
  by_cases h : 1 ≤ most ∧ most ≤ 1024 ∧ l.length ≤ 100
  · exact (netCopies_main most a c l x hxf w h.1 h.2.1 h.2.2 ha).mono fun e w' hh => ⟨hh.1, hh.2.below⟩
  · exact (netCopies_skip most a l.length c x w (by omega)).mono fun e w' hh => ⟨hh.1, hh.2.below⟩
end Go.Proofs.Ytklokcndhkhdmaa
