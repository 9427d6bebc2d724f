/- BufferCopies returns true: the walk. -/
import Derived.Test.YtknjlmpjkkkilaaBufT
namespace Go.Proofs.Ytknjlmpjkkkilaa
open Go.RowKit Go.Shelf
set_option linter.unusedVariables false
set_option linter.unusedSimpArgs false

section
attribute [local go_sem] heap_drew blk_past cell_past free_past
set_option maxRecDepth 100000 in
set_option maxHeartbeats 4000000 in
theorem bufferCopies_walk (a : Option Addr) (c : Nat) (l : List BAct) (x : BAct) (hx : x.Fits) (w : World) (h : BActs w a l) : Calls Try.prog 8 #[.slice a l.length c, .agg x.cells.toArray] w fun e w' => e = .returned (.bool true) ∧ Below w.heap.size w w' := by
  obtain ⟨wh, ⟨sa, sw, sv⟩⟩ := x
  simp only [BAct.cells, Store.cells]
  by_cases hl : 100 < l.length
  · have hd : ((100 : Int) < (l.length : Int)) := by omega
    go_enter Try.func8, Try.ntmps8
    go_wp2_with fail
    refine (works_ok _).mono ?_
    rintro e w1 ⟨rfl, hm⟩
    go_wp2
    go_ret
    exact ⟨rfl, (((Mod.refl (fun _ => False) w).alloc _).trans hm).below⟩
  · have hd : ¬ ((100 : Int) < (l.length : Int)) := by omega
    go_enter Try.func8, Try.ntmps8
    go_upto_region 3 with fail
    have hb3 := blk_new w (Obj.cells #[Value.int IntKind.i64 wh, Value.int IntKind.u32 sa, Value.int IntKind.i64 sw, Value.int IntKind.u32 sv] 48)
    have hm0 : Mod (fun _ => False) w (w.alloc (Obj.cells #[Value.int IntKind.i64 wh, Value.int IntKind.u32 sa, Value.int IntKind.i64 sw, Value.int IntKind.u32 sv] 48)) := (Mod.refl _ _).alloc _
    generalize hB3 : w.heap.size = b3 at hb3 ⊢
    clear hB3
    generalize w.alloc (Obj.cells #[Value.int IntKind.i64 wh, Value.int IntKind.u32 sa, Value.int IntKind.i64 sw, Value.int IntKind.u32 sv] 48) = w0 at *
    have hpl := played_ok w0 a c l (h.keep hm0) (by omega)
    obtain ⟨lw, hlw⟩ : ∃ lw, playedL l = lw := ⟨_, rfl⟩
    rw [hlw] at hpl
    go_wp2_with fail
    refine hpl.mono ?_
    rintro e w1 ⟨p, v, rfl, hbuf, hseen, hgood, hp, hm⟩
    have h4 := hbuf.four
    go_wp2_with fail
    refine (copy_ok _ p lw hbuf).mono ?_
    rintro e w2 ⟨p', rfl, hbuf', hp', hm2⟩
    have hpw : p < p' := Nat.lt_of_lt_of_le hbuf.lt hp'
    go_wp2_with fail
    refine (same_ok _ p p' lw lw (hbuf.keep hm2 (fun x => x)) hbuf' hgood hgood).mono ?_
    rintro e w3 ⟨rfl, hm3⟩
    rw [decide_eq_true rfl]
    have hm23 := hm2.trans hm3
    have hm03 := hm.trans hm23
    replace hb3 := hm03.at hb3 (fun x => x)
    have k0 : w3.cell? ⟨b3, 0, none⟩ = some (.int .i64 wh) := cell_of w3 hb3 0
    have k1 : w3.cell? ⟨b3, 1, none⟩ = some (.int .u32 sa) := cell_of w3 hb3 1
    have k2 : w3.cell? ⟨b3, 2, none⟩ = some (.int .i64 sw) := cell_of w3 hb3 2
    have k3 : w3.cell? ⟨b3, 3, none⟩ = some (.int .u32 sv) := cell_of w3 hb3 3
    replace hseen := hseen.keep0 hm23
    replace hbuf := hbuf.keep hm23 (fun x => x)
    replace hbuf' := hbuf'.keep hm3 (fun x => x)
    have hm23' := hm.trans hm23
    clear hm2 hm3 hm23 hpl
    obtain ⟨q, c', rfl, hcc⟩ := hseen.len
    go_upto_if 36 with fail
    go_cut [9, 36] from 37 (fun v9 v36 wx => ∃ ln, Seen wx v9 ln ∧ Buf wx p ln ∧ (∀ s ∈ ln, Good s) ∧ Mod (fun k => k = p) w3 wx)
    case first =>
      have hlt3 := hbuf.lt
      obtain ⟨r0, f0, e0, -⟩ := hbuf.ex
      by_cases hwt : wh = 0
      · have hne : (wh != 0) = false := by simp [hwt]
        clear hwt
        have hgn := pushNum_good _ hgood ⟨sa, sw, sv⟩ hx
        clear hbuf'
        go_wp2_with fail
        refine (refpush_ok w3 _ lw ⟨sa, sw, sv⟩ hseen hx (by omega)).mono ?_
        rintro e w4 ⟨v', rfl, hse4, hm4⟩
        have k0' := hm4.cell k0 (fun x => x)
        have k1' := hm4.cell k1 (fun x => x)
        have k2' := hm4.cell k2 (fun x => x)
        have k3' := hm4.cell k3 (fun x => x)
        clear k0 k1 k2 k3
        go_wp2_with fail
        refine (push_ok w4 p lw (hbuf.keep hm4 (fun x => x)) ⟨sa, sw, sv⟩ hx).mono ?_
        rintro e w5 ⟨rfl, hb5, hm5⟩
        have hs5 : Seen w5 v' (pushList lw ⟨sa, sw, sv⟩) := hse4.keepP hm5 (hm4.at e0 (fun x => x)) (by decide)
        have hm35 : Mod (fun k => k = p) w3 w5 := (hm4.mono (fun _ _ h => h.elim)).trans hm5
        go_wp2_with fail
        go_meet
        case rel => exact ⟨_, hs5, hb5, hgn, hm35⟩
      · have hne : (wh != 0) = true := by simp [hwt]
        clear hbuf' hwt
        have hgd : ∀ s ∈ lw.drop 1, Good s := fun s hs => hgood s (List.mem_of_mem_drop hs)
        go_upto_region 10 with fail
        obtain ⟨kk, hkk⟩ : ∃ kk : Int, (if (lw.length : Int) < 1 then (lw.length : Int) else 1) = kk := ⟨_, rfl⟩
        rw [hkk]
        obtain ⟨k, hk⟩ : ∃ k : Nat, kk.toNat = k := ⟨_, rfl⟩
        rw [hk]
        have hk2 : (k = 0 ∧ lw = []) ∨ (k = 1 ∧ lw ≠ []) := by
          rw [← hk, ← hkk]
          cases lw with
          | nil => exact .inl ⟨rfl, rfl⟩
          | cons x t => exact .inr ⟨by rw [if_neg (by simp; omega)]; rfl, by simp⟩
        have hse6 := hseen.drop1 k hk2
        generalize (Value.slice (if c' = k then q else Option.map (fun x => x.add (k * 3)) q) (lw.length - k) (c' - k)) = v6 at *
        clear hk hkk hk2 hseen hgood
        go_wp2_with fail
        refine (pop_ok w3 p lw hbuf).mono ?_
        rintro e w4 ⟨rfl, hb4, hm4⟩
        have hs5 : Seen w4 v6 (lw.drop 1) := hse6.keepP hm4 e0 (by decide)
        generalize (headOf lw).cells.toArray = hc at *
        go_wp2_with fail
        go_meet
        case rel => exact ⟨_, hs5, hb4, hgd, hm4⟩
    case rest =>
      obtain ⟨ln, hsn, hbn, hgn, hmn⟩ := hcut
      have hlt3 := hbuf.lt
      obtain ⟨r0, f0, e0, -⟩ := hbuf.ex
      replace hseen := hseen.keepP hmn e0 (by decide)
      replace hbuf' := hbuf'.keep hmn (by omega)
      have hmW : Mod (fun _ => False) w wc := (hm0.trans hm23').own hmn (Nat.le_trans hm0.size hp)
      clear hbuf k0 k1 k2 k3 hb3 e0
      go_wp2_with fail
      refine (all_ok wc (some ⟨p', 0, none⟩) lw (.inr ⟨p', rfl, hbuf'⟩) hgood).mono ?_
      rintro e w4 ⟨va, rfl, hst, hm4, hnew⟩
      go_wp2_with fail
      go_loopw [11] (fun x wr => ∃ j : Nat, j ≤ lw.length ∧ x = .int .i64 j ∧ ∃ lc : List Store, lc.length = lw.length ∧ Stores wr va lc ∧ Mod (fun k => ownOf va = some k) w4 wr) (fun x _ => lw.length - (intOf x).toNat)
      case atStart => exact ⟨0, by omega, rfl, lw, rfl, hst, Mod.refl _ _⟩
      case round =>
        obtain ⟨j, hj, rfl, lc, hlc, hsc, hmo⟩ := hrel
        by_cases hlt : j < lw.length
        · obtain ⟨g, cap, s, hva, hs, hsf, hsr, hown, hcap⟩ := hsc.at (i := j) (by omega)
          rw [hlc] at hva
          subst hva
          have hrow := hsc.row.block hown
          obtain ⟨cap', cur, hv', hbl, -⟩ := hrow
          have hfr : wr.frozen? ⟨g, j * 3 + 2, none⟩ = false := free_of wr hbl _
          have c2 : wr.cell? ⟨g, j * 3 + 2, none⟩ = some (.int .u32 s.value) := hsr 2 _ rfl
          have hsv : ∀ y : Int, 0 ≤ y → y ≤ 4294967295 → Stores (wr.setCell ⟨g, j * 3 + 2, none⟩ (.int .u32 y)) (.slice (some ⟨g, 0, none⟩) lw.length (cap + 1)) (lc.set j ⟨s.addr, s.width, y⟩) := by
            intro y y0 y1
            have := Stores.setVal (g := g) (cap := cap) (l := lc) (by rw [hlc]; exact hsc) hs y y0 y1
            rw [hlc] at this
            exact this
          have hmo' : ∀ u, Mod (fun k => ownOf (.slice (some ⟨g, 0, none⟩) lw.length (cap + 1)) = some k) w4 (wr.setCell ⟨g, j * 3 + 2, none⟩ u) := fun u => hmo.setCell (p := ⟨g, j * 3 + 2, none⟩) (.inl rfl) u
          have hll : ∀ z : Store, (lc.set j z).length = lw.length := fun z => by rw [List.length_set, hlc]
          have HS := Lib.hid hsv
          have HM := Lib.hid hmo'
          have HL := Lib.hid hll
          have hsf1 := hsf.v0
          have hsf2 := hsf.v1
          have hj1 : (j : Int) < (lw.length : Int) := by omega
          clear hsv hmo' hll hsr hs hlc hv' hbl hst hnew hsc
          go_wp2_with fail
          go_roundw
          case rel => exact ⟨j + 1, by omega, by go_num, _, HL.out _, HS.out _ (by omega) (by omega), HM.out _⟩
          case measure => simp [intOf]; omega
        · obtain rfl : j = lw.length := by omega
          have hmC : Mod (fun _ => False) wc wr := hm4.trans' hmo (fun i hi h => by have := hnew i h; omega)
          obtain ⟨q2, c2, rfl, -⟩ := hsc.len
          clear hsc hst hm4 hnew hmo
          replace hseen := hseen.keep0 hmC
          replace hbuf' := hbuf'.keep hmC (fun x => x)
          replace hsn := hsn.keep0 hmC
          replace hbn := hbn.keep hmC (fun x => x)
          replace hmW := hmW.trans hmC
          clear hmC hmn
          have hn4 := hbn.four
          go_wp2_with fail
          refine (refsame_ok wr u9 _ ln lw hsn hseen (by omega) (by omega)).mono ?_
          rintro e w5 ⟨rfl, hm5⟩
          obtain ⟨d, hd⟩ : ∃ d, decide (ln = lw) = d := ⟨_, rfl⟩
          have hd' : decide (lw = ln) = d := by rw [← hd]; exact decide_eq_decide.2 eq_comm
          rw [hd]
          have HD := Lib.hid hd
          have HD' := Lib.hid hd'
          clear hd hd'
          go_wp2_with fail
          refine (is_ok w5 p' _ lw (hbuf'.keep hm5 (fun x => x)) (hseen.keep0 hm5) hgood).mono ?_
          rintro e w6 ⟨rfl, hm6⟩
          replace hm6 := hm5.trans hm6
          go_wp2_with fail
          refine (is_ok w6 p u9 ln (hbn.keep hm6 (fun x => x)) (hsn.keep0 hm6) hgn).mono ?_
          rintro e w7 ⟨rfl, hm7⟩
          replace hm7 := hm6.trans hm7
          go_wp2_with fail
          refine (same_ok w7 p p' ln lw (hbn.keep hm7 (fun x => x)) (hbuf'.keep hm7 (fun x => x)) hgn hgood).mono ?_
          rintro e w8 ⟨rfl, hm8⟩
          rw [HD.out]
          replace hm8 := hm7.trans hm8
          have hdd : (d == d) = true := by simp
          go_wp2_with fail
          refine (same_ok w8 p' p lw ln (hbuf'.keep hm8 (fun x => x)) (hbn.keep hm8 (fun x => x)) hgood hgn).mono ?_
          rintro e w9 ⟨rfl, hm9⟩
          rw [HD'.out]
          replace hm9 := hm8.trans hm9
          go_wp2_with fail
          refine (works_ok w9).mono ?_
          rintro e w10 ⟨rfl, hm10⟩
          go_wp2
          go_ret
          exact ⟨rfl, (hmW.trans (hm9.trans hm10)).below⟩
end
end Go.Proofs.Ytknjlmpjkkkilaa
