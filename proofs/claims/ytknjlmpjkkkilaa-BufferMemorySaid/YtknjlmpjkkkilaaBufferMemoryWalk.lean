/- BufferMemory returns true: the walk. -/
import Derived.Test.YtknjlmpjkkkilaaBufferMemoryA
import Derived.Test.YtknjlmpjkkkilaaBufT
import Derived.BigRegion
import Derived.Deep.CutBlock
namespace Go.Proofs.Ytknjlmpjkkkilaa
open Go.RowKit Go.Shelf
set_option linter.unusedVariables false
set_option linter.unusedSimpArgs false

/-- Sixty-eight noughts. -/
def zeros68 : Array Value := (u8s (List.replicate 68 0)).toArray
theorem zero68 (w : World) : (zeroValue 51).run Try.prog w = .ok (.agg zeros68) w := by kernel_rfl
theorem alloc2 (w : World) (a b : Obj) : ((w.alloc a).alloc b).heap[w.heap.size]? = some a ∧ ((w.alloc a).alloc b).heap[w.heap.size + 1]? = some b ∧ Mod (fun _ => False) w ((w.alloc a).alloc b) := by
  refine ⟨blk_old _ _ (blk_new _ _), ?_, ((Mod.refl _ _).alloc _).alloc _⟩
  have := blk_new (w.alloc a) b
  rwa [World.size_alloc] at this
theorem played_near {l : List Store} {s : Store} (h : ∀ x ∈ l, Good x ∧ x.addr < 64) (hs : s.Fits) (ha : s.addr < 64) : ∀ x ∈ pushList l s, Good x ∧ x.addr < 64 := by
  have hg := pushNum_good l (fun x hx => (h x hx).1) s hs
  intro x hx
  refine ⟨hg x hx, ?_⟩
  unfold pushList at hx
  split at hx
  · rcases List.mem_append.1 hx with hx | hx
    · exact (h x hx).2
    · rw [List.mem_singleton.1 hx]; exact ha
  · exact (h x hx).2
/-- A byte of both arrays is written. -/
theorem u8s_set (ms : List Int) (j : Nat) (y : Int) : (u8s ms).set j (.int .u8 y) = u8s (ms.set j y) := by unfold u8s; rw [List.map_set]
theorem byte_set {w : World} {b j : Nat} {ms : List Int} {t : TypeId} (h : w.heap[b]? = some (.cells (u8s ms).toArray t (0, 0))) (y : Int) :
    (w.setCell ⟨b, j, none⟩ (.int .u8 y)).heap[b]? = some (.cells (u8s (ms.set j y)).toArray t (0, 0)) := by
  have h1 := heap_setCell_same w b j _ _ (.int .u8 y) h
  rw [h1, ← u8s_set]
  simp
theorem byte_at {w : World} {b : Nat} {ms : List Int} {t : TypeId} {fr : Nat × Nat} (h : w.heap[b]? = some (.cells (u8s ms).toArray t fr)) {j : Nat} (hj : j < ms.length) : w.cell? ⟨b, j, none⟩ = some (.int .u8 (byteF ms j)) := by
  rw [cell_of w h, List.getElem?_toArray, u8s_get, byteF, List.getD_eq_getElem?_getD, List.getElem?_eq_getElem hj]; rfl
theorem bytes_set2 {w : World} {b c j : Nat} {ms : List Int} {t : TypeId} (hne : b ≠ c) (h1 : w.heap[b]? = some (.cells (u8s ms).toArray t (0, 0))) (h2 : w.heap[c]? = some (.cells (u8s ms).toArray t (0, 0))) (y : Int) :
    (((w.setCell ⟨b, j, none⟩ (.int .u8 y)).setCell ⟨c, j, none⟩ (.int .u8 y)).drew).heap[b]? = some (.cells (u8s (ms.set j y)).toArray t (0, 0)) ∧
    (((w.setCell ⟨b, j, none⟩ (.int .u8 y)).setCell ⟨c, j, none⟩ (.int .u8 y)).drew).heap[c]? = some (.cells (u8s (ms.set j y)).toArray t (0, 0)) ∧
    Mod (fun k => k = b ∨ k = c) w (((w.setCell ⟨b, j, none⟩ (.int .u8 y)).setCell ⟨c, j, none⟩ (.int .u8 y)).drew) := by
  refine ⟨?_, ?_, (((Mod.refl _ _).setCell (p := ⟨b, j, none⟩) (.inl (.inl rfl)) _).setCell (p := ⟨c, j, none⟩) (.inl (.inr rfl)) _).drew⟩
  · rw [heap_drew, heap_setCell_other _ _ _ _ (show b ≠ c from hne)]
    exact byte_set h1 y
  · rw [heap_drew]
    exact byte_set (by rw [heap_setCell_other _ _ _ _ (show c ≠ b from hne.symm)]; exact h2) y
theorem Bytes8.set {ms : List Int} (h : Bytes8 ms) (j : Nat) {y : Int} (h0 : 0 ≤ y) (h1 : y ≤ 255) : Bytes8 (ms.set j y) := by
  intro x hx
  rcases List.mem_or_eq_of_mem_set hx with hx | rfl
  · exact h x hx
  · exact ⟨h0, h1⟩
section
attribute [local go_sem] heap_drew blk_past cell_past free_past
set_option maxRecDepth 100000
set_option maxHeartbeats 4000000
theorem mem_main (a : Option Addr) (c : Nat) (l : List BAct) (ma : Option Addr) (mn mc : Nat) (xa m : Nat) (w : World) (h : BActs w a l) (hb : MemArg w ma mn) (hl : ¬ 100 < l.length) (hx : ¬ 64 ≤ xa) (hm : m = 1 ∨ m = 2 ∨ m = 4) (hal : (xa : Int) % (m : Int) = 0) :
    Calls Try.prog 6 #[.slice a l.length c, .slice ma mn mc, .int .u32 xa, .int .i64 m] w fun e w' => e = .returned (.bool true) ∧ Mod (fun _ => False) w w' := by
  have hd : ¬ ((100 : Int) < (l.length : Int)) := by omega
  have hx' : ¬ ((64 : Int) ≤ (xa : Int)) := by omega
  have hmn := hb.1
  unfold maxLen at hmn
  have HA := Lib.hid hal
  clear hal
  go_enter Try.func6, Try.ntmps6
  go_upto_region 1 with fail
  go_cut [51] (fun v51 wx => v51 = .bool false ∧ w = wx)
  case first =>
    as_aux_lemma =>
      rcases hm with rfl | rfl | rfl
      · go_wp2_with fail
        go_meet
        case rel => exact ⟨by simp, rfl⟩
      · have hal' : ((xa : Int) % 2 != 0) = false := by simpa using HA.out
        go_wp2_with fail
        go_meet
        case rel => exact ⟨by simp, rfl⟩
      · have hal' : ((xa : Int) % 4 != 0) = false := by simpa using HA.out
        go_wp2_with fail
        go_meet
        case rel => exact ⟨by simp, rfl⟩
  case rest =>
    obtain ⟨rfl, rfl⟩ := hcut
    go_wp2_with fail
    refine (new_ok _).mono ?_
    rintro e w1 ⟨p, rfl, hbuf, hp, hm1⟩
    go_upto_block 0 with fail
    go_cut [10] from 54 (fun v10 wx => ∃ lw, Buf wx p lw ∧ (∀ s ∈ lw, Good s ∧ s.addr < 64) ∧ Mod (fun _ => False) w wx)
    case first =>
      as_aux_lemma =>
        go_wp2_with fail
        go_loopw [10] (fun x wr => ∃ j : Nat, j ≤ l.length ∧ x = .int .i64 j ∧ Buf wr p (playedL (l.take j)) ∧ (∀ s ∈ playedL (l.take j), Good s ∧ s.addr < 64) ∧ Mod (fun _ => False) w wr) (fun x _ => l.length - (intOf x).toNat)
        case atStart => exact ⟨0, by omega, rfl, hbuf, by simp [playedL], hm1⟩
        case round =>
          obtain ⟨j, hj, rfl, hbw, hgood, hmo⟩ := hrel
          clear hbuf hm1
          by_cases hlt : j < l.length
          · obtain ⟨g, o, s, rfl, hs, hsf, hsr⟩ := (h.keep hmo).at hlt
            have hj0 : (0 : Int) ≤ (j : Int) := by omega
            have hj1 : (j : Int) < (l.length : Int) := by omega
            have hps := playedL_succ hs
            have c0 : wr.cell? ⟨g, o + j * 4, none⟩ = some (.int .i64 s.what) := by have := hsr 0 _ rfl; simpa using this
            have c1 : wr.cell? ⟨g, o + j * 4 + 1, none⟩ = some (.int .u32 s.store.addr) := hsr 1 _ rfl
            have c2 : wr.cell? ⟨g, o + j * 4 + 1 + 1, none⟩ = some (.int .i64 s.store.width) := hsr 2 _ rfl
            have c3 : wr.cell? ⟨g, o + j * 4 + 1 + 2, none⟩ = some (.int .u32 s.store.value) := hsr 3 _ rfl
            by_cases hfar : 64 ≤ s.store.addr
            · clear hs hsr hps
              go_wp2_with fail
              refine (works_ok _).mono ?_
              rintro e w2 ⟨rfl, hm2⟩
              go_wp2
              go_ret
              exact ⟨rfl, hmo.trans hm2⟩
            · by_cases hwt : s.what = 0
              · have hne : (s.what != 0) = false := by simp [hwt]
                have hps' : playedL (l.take (j + 1)) = pushList (playedL (l.take j)) s.store := by rw [hps, actStep, if_pos hwt]
                have hgn := played_near hgood hsf (by omega)
                have hpu := fun w (h : Buf w p (playedL (l.take j))) => push_ok w p _ h s.store hsf
                have HP := Lib.hid hps'
                generalize playedL (l.take j) = lw at *
                clear hs hsr hps hgood hps'
                obtain ⟨wh, ⟨sa, sw, sv⟩⟩ := s
                dsimp only [Store.cells] at *
                go_wp2_with fail
                refine (hpu _ hbw).mono ?_
                rintro e w3 ⟨rfl, hbw', hm3⟩
                clear hpu c0 c1 c2 c3
                have hmW := hmo.own hm3 hp
                go_wp2_with fail
                go_roundw
                case rel => exact ⟨j + 1, by omega, by go_num, by rw [HP.out]; exact hbw', by rw [HP.out]; exact hgn, hmW⟩
                case measure => simp [intOf]; omega
              · have hne : (s.what != 0) = true := by simp [hwt]
                have hps' : playedL (l.take (j + 1)) = (playedL (l.take j)).drop 1 := by rw [hps, actStep, if_neg hwt]
                have hgn : ∀ x ∈ (playedL (l.take j)).drop 1, Good x ∧ x.addr < 64 := fun s hs => hgood s (List.mem_of_mem_drop hs)
                have HP := Lib.hid hps'
                generalize playedL (l.take j) = lw at *
                clear hs hsr hps hgood hps' c2 c3
                go_wp2_with fail
                refine (pop_ok _ p lw hbw).mono ?_
                rintro e w4 ⟨rfl, hb4, hm4⟩
                generalize (headOf lw).cells.toArray = hc at *
                have hmW := hmo.own hm4 hp
                clear c0 c1
                go_wp2_with fail
                go_roundw
                case rel => exact ⟨j + 1, by omega, by go_num, by rw [HP.out]; exact hb4, by rw [HP.out]; exact hgn, hmW⟩
                case measure => simp [intOf]; omega
          · obtain rfl : j = l.length := by omega
            go_wp2_with fail
            go_meet
            case rel => exact ⟨_, hbw, hgood, hmo⟩
    case rest =>
      obtain ⟨lw, hbw, hgood, hmo⟩ := hcut
      clear h hbuf hm1
      have hz := zero68
      go_upto_region 13 with fail
      have hpw : p < wc.heap.size := hbw.lt
      have hwB : w.heap.size ≤ wc.heap.size := hmo.size
      obtain ⟨hW, hN, hm2⟩ := alloc2 wc (Obj.cells zeros68 51) (Obj.cells zeros68 51)
      replace hbw := hbw.keep hm2 (fun x => x)
      replace hmo := hmo.trans hm2
      generalize (wc.alloc (Obj.cells zeros68 51)).alloc (Obj.cells zeros68 51) = w5 at *
      generalize hbW : wc.heap.size = bW at *
      clear hbW hm2 hz
      have hm5 : Mod (fun k => k = bW ∨ k = bW + 1) w5 w5 := Mod.refl _ _
      go_upto_block 2 with fail
      go_cut [13] from 83 (fun v13 wx => ∃ ms : List Int, ms.length = 68 ∧ Bytes8 ms ∧ wx.heap[bW]? = some (.cells (u8s ms).toArray 51 (0, 0)) ∧ wx.heap[bW + 1]? = some (.cells (u8s ms).toArray 51 (0, 0)) ∧ Mod (fun k => k = bW ∨ k = bW + 1) w5 wx)
      case first =>
        as_aux_lemma =>
          go_wp2_with fail
          go_loopw [13] (fun x wr => ∃ j : Nat, j ≤ 68 ∧ x = .int .i64 j ∧ ∃ ms : List Int, ms.length = 68 ∧ Bytes8 ms ∧ wr.heap[bW]? = some (.cells (u8s ms).toArray 51 (0, 0)) ∧ wr.heap[bW + 1]? = some (.cells (u8s ms).toArray 51 (0, 0)) ∧ Mod (fun k => k = bW ∨ k = bW + 1) w5 wr) (fun x _ => 68 - (intOf x).toNat)
          case atStart => exact ⟨0, by omega, rfl, List.replicate 68 0, by simp, by intro x hx; have := List.eq_of_mem_replicate hx; omega, hW, hN, hm5⟩
          case round =>
            obtain ⟨j, hj, rfl, ms, hms, hby, h1, h2, hmo2⟩ := hrel
            have hj0 : (0 : Int) ≤ (j : Int) := by omega
            by_cases hlt : j < 68
            · have hlt' : (j : Int) < 68 := by omega
              by_cases hmem : j < mn
              · have hmem' : (j : Int) < (mn : Int) := by omega
                obtain ⟨mb, mo, y, rfl, hc, y0, y1, hmb⟩ := hb.at (hmo.trans' hmo2 (fun i hi h => by rcases h with h | h <;> omega)) hmem
                have n1 : mb ≠ bW := by omega
                have n2 : mb ≠ bW + 1 := by omega
                have f1 : wr.frozen? ⟨bW, j, none⟩ = false := free_of wr h1 _
                have f2 : wr.frozen? ⟨bW + 1, j, none⟩ = false := free_of wr h2 _
                have a1 := byte_at h1 (j := j) (by omega)
                have a2 := byte_at h2 (j := j) (by omega)
                have HS := Lib.hid (bytes_set2 (j := j) (show bW ≠ bW + 1 by omega) h1 h2 y)
                have HY := Lib.hid (hby.set j y0 y1)
                clear h1 h2 hby
                go_wp2_with fail
                go_big_region
                go_wp2_with fail
                go_roundw
                case rel => exact ⟨j + 1, by omega, by go_num, ms.set j y, by rw [List.length_set]; exact hms, HY.out, HS.out.1, HS.out.2.1, hmo2.trans HS.out.2.2⟩
                case measure => simp [intOf]; omega
              · have hmem' : ¬ (j : Int) < (mn : Int) := by omega
                go_wp2_with fail
                go_meet
                case rel => exact ⟨ms, hms, hby, h1, h2, hmo2⟩
            · have hlt' : ¬ (j : Int) < 68 := by omega
              go_wp2_with fail
              go_meet
              case rel => exact ⟨ms, hms, hby, h1, h2, hmo2⟩
      case rest =>
        obtain ⟨ms, hms, hby, h1, h2, hmo2⟩ := hcut
        have hmW : Mod (fun _ => False) w wc := hmo.trans' hmo2 (fun i hi h => by rcases h with h | h <;> omega)
        replace hbw := hbw.keep hmo2 (by omega)
        have hbn : bW + 1 < wc.heap.size := by have := (Array.getElem?_eq_some_iff.1 h2).1; exact this
        clear hmo hmo2 hW hN hm5 hb hmn
        go_wp2_with fail
        refine (all_ok wc (some ⟨p, 0, none⟩) lw (.inr ⟨p, rfl, hbw⟩) (fun s hs => (hgood s hs).1)).mono ?_
        rintro e w4 ⟨va, rfl, hst, hm4, hnew⟩
        replace h1 := hm4.at h1 (fun x => x)
        replace h2 := hm4.at h2 (fun x => x)
        replace hmW := hmW.trans hm4
        replace hbw := hbw.keep hm4 (fun x => x)
        have hnew' : ∀ g, ownOf va = some g → bW + 1 < g := fun g hg => by have := hnew g hg; omega
        have h4 := hbw.four
        obtain ⟨q, cq, rfl, hcq⟩ := hst.len
        clear hm4 hnew hbn
        go_upto_block 4 with fail
        go_cut [15, 16, 17] from 107 (fun v15 v16 v17 wx => wx.heap[bW + 1]? = some (.cells (u8s (lwrs ms lw)).toArray 51 (0, 0)) ∧ Mod (fun k => k = bW + 1) w4 wx)
        case first =>
          as_aux_lemma =>
            go_wp2_with fail
            go_loopw [15, 16, 17] (fun x y z wr => ∃ j : Nat, j ≤ lw.length ∧ x = .int .i64 j ∧ wr.heap[bW + 1]? = some (.cells (u8s (lwrs ms (lw.take j))).toArray 51 (0, 0)) ∧ Mod (fun k => k = bW + 1) w4 wr) (fun x _ _ _ => lw.length - (intOf x).toNat)
            case atStart => exact ⟨0, by omega, rfl, h2, Mod.refl _ _⟩
            case round =>
              obtain ⟨j, hj, rfl, hN, hmo⟩ := hrel
              have hj0 : (0 : Int) ≤ (j : Int) := by omega
              by_cases hlt : j < lw.length
              · have hj1 : (j : Int) < (lw.length : Int) := by omega
                obtain ⟨g, cap, s, hva, hs, hsf, hsr, hown, hcap⟩ := (hst.keep hmo (fun g hg h => by have := hnew' g hg; omega)).at hlt
                have hgN : ¬ g = bW + 1 := by have := hnew' g hown; omega
                obtain ⟨rfl, rfl⟩ : q = some ⟨g, 0, none⟩ ∧ cq = cap + 1 := by simpa using hva
                obtain ⟨hgs, ha⟩ := hgood s (List.mem_of_getElem? hs)
                have hgw := good_width hgs.2
                have HM : Hid (lwrs ms (lw.take (j + 1)) = lwr (lwrs ms (lw.take j)) s s.width.toNat) := Lib.hid (by rw [List.take_add_one, hs]; exact lwrs_snoc _ _ _)
                have hML : (lwrs ms (lw.take j)).length = 68 := by rw [lwrs_length, hms]
                generalize lwrs ms (lw.take j) = M at *
                have c0 : wr.cell? ⟨g, j * 3, none⟩ = some (.int .u32 s.addr) := by have := hsr 0 _ rfl; simpa using this
                have c1 : wr.cell? ⟨g, j * 3 + 1, none⟩ = some (.int .i64 s.width) := hsr 1 _ rfl
                have c2 : wr.cell? ⟨g, j * 3 + 2, none⟩ = some (.int .u32 s.value) := hsr 2 _ rfl
                clear hs hsr hva hown hst hnew' hgs
                obtain ⟨sa, sw, sv⟩ := s
                obtain ⟨s1, s2, s3, s4⟩ := hsf
                dsimp only at s1 s2 s3 s4 c0 c1 c2 ha hgw
                obtain ⟨qa, rfl⟩ : ∃ qa : Nat, sa = qa := ⟨sa.toNat, by omega⟩
                obtain ⟨b, rfl⟩ : ∃ b : Nat, sw = b := ⟨sw.toNat, by omega⟩
                have hb4 : 1 ≤ b ∧ b ≤ 4 := by omega
                obtain ⟨hb1, hb4⟩ := hb4
                have hb1' : (1 : Int) ≤ (b : Int) := by omega
                have hb4' : (b : Int) ≤ 4 := by omega
                have hdv := divs_nonneg s3 s4
                simp only [divs_eq] at hdv
                have HD := Lib.hid hdv
                clear hgw hdv
                go_wp2_with fail
                go_loopw [16, 17] (fun y z wi => ∃ k : Nat, k ≤ b ∧ z = .int .i64 k ∧ y = .int .u32 (sv / 256 ^ k) ∧ wi.heap[bW + 1]? = some (.cells (u8s (lwr M ⟨qa, b, sv⟩ k)).toArray 51 (0, 0)) ∧ Mod (fun k => k = bW + 1) wr wi) (fun _ z _ => b - (intOf z).toNat)
                case atStart => exact ⟨0, by omega, rfl, by simp, hN, Mod.refl _ _⟩
                case round =>
                  obtain ⟨k, hk, rfl, rfl, hN2, hmo2⟩ := hrel
                  replace c0 := hmo2.cell c0 hgN
                  replace c1 := hmo2.cell c1 hgN
                  replace c2 := hmo2.cell c2 hgN
                  have hk0 : (0 : Int) ≤ (k : Int) := by omega
                  obtain ⟨D0, D1⟩ := HD.out k
                  have HE : Hid (sv / 256 ^ (k + 1) = sv / 256 ^ k / 256) := Lib.hid (by rw [Int.pow_succ, Int.ediv_ediv_of_nonneg (by exact Int.le_of_lt (Int.pow_pos (by omega)))])
                  have HL : Hid (lwr M ⟨qa, b, sv⟩ (k + 1) = (lwr M ⟨qa, b, sv⟩ k).set (qa + k) (sv / 256 ^ k % 256)) := Lib.hid rfl
                  have HLL : (lwr M ⟨qa, b, sv⟩ k).length = 68 := by rw [lwr_length]; exact hML
                  by_cases hkb : k < b
                  · have hkb' : (k : Int) < (b : Int) := by omega
                    have fN : wr.frozen? ⟨bW + 1, qa + k, none⟩ = false := free_of wr hN2 _
                    have aN := byte_at hN2 (j := qa + k) (by omega)
                    have HB := Lib.hid (byte_set (j := qa + k) hN2 (sv / 256 ^ k % 256))
                    rw [← HL.out] at HB
                    have HH := Lib.hid (hmo2.setCell (p := ⟨bW + 1, qa + k, none⟩) (.inl rfl) (.int .u8 (sv / 256 ^ k % 256)))
                    clear hN2 hmo2 HL HLL
                    generalize sv / 256 ^ k = D at *
                    have hs68 : (qa : Int) + (k : Int) < 68 := by omega
                    go_wp2_with fail
                    go_roundw
                    case rel => exact ⟨k + 1, by omega, by go_num, by rw [HE.out], HB.out, HH.out⟩
                    case measure => simp [intOf]; omega
                  · obtain rfl : k = b := by omega
                    clear HL HLL D0 D1 HE
                    go_wp2_with fail
                    go_roundw
                    case rel => exact ⟨j + 1, by omega, by go_num, by rw [HM.out]; exact hN2, hmo.trans hmo2⟩
                    case measure => simp [intOf]; omega
              · obtain rfl : j = lw.length := by omega
                rw [List.take_length] at hN
                go_wp2_with fail
                go_meet
                case rel => exact ⟨hN, hmo⟩
        case rest =>
          obtain ⟨hN, hmo⟩ := hcut
          replace h1 := hmo.at h1 (by omega)
          replace hmW : Mod (fun _ => False) w wc := hmW.trans' hmo (fun i hi h => by omega)
          replace hbw := hbw.keep hmo (by omega)
          have hst' := hst.keep hmo (fun g hg h => by have := hnew' g hg; omega)
          clear hmo h2 hnew' hst
          have hg1 : ∀ s ∈ lw, Good s := fun s hs => (hgood s hs).1
          have HF := Lib.hid (fwd_agrees (byteF ms) lw hg1 xa m hm HA.out)
          have hnn := lev_nonneg (byteF ms) (byteF_in hby)
          have hnn' := lev_nonneg (byteF (lwrs ms lw)) (byteF_in (lwrs_bytes hby lw))
          have hlwl : (lwrs ms lw).length = 68 := by rw [lwrs_length, hms]
          have hlw : Hid (byteF (lwrs ms lw) = wrsF (byteF ms) lw) := Lib.hid (lwrs_is ms (by omega) lw hgood)
          rw [← hlw.out] at HF
          have HM := Lib.hid hms
          have HN := Lib.hid hlwl
          have HA0 := Lib.hid hnn
          have HY1 := Lib.hid (byteF_in hby)
          have HY2 := Lib.hid (byteF_in (lwrs_bytes hby lw))
          have HB0 := Lib.hid hnn'
          clear hby hms hlwl hlw hnn hnn'
          generalize lwrs ms lw = mb at *
          go_wp2_with fail
          refine (forward_any wc (some ⟨p, 0, none⟩) lw xa m (.inr ⟨p, rfl, hbw⟩) hg1 (by omega) (by omega)).mono ?_
          rintro e w5 ⟨rfl, hm5⟩
          replace h1 := hm5.at h1 (fun x => x)
          replace hN := hm5.at hN (fun x => x)
          replace hmW := hmW.trans hm5
          replace hbw := hbw.keep hm5 (fun x => x)
          replace hst' := hst'.keep0 hm5
          clear hm5
          generalize fwd lw xa m = f at *
          have hm1 : 1 ≤ m := by omega
          have hm4 : m ≤ 4 := by omega
          go_upto_block 8 with fail
          go_cut [20, 21, 22] from 170 (fun v20 v21 v22 wx => v20 = .int .u32 (lev (byteF ms) xa m) ∧ v21 = .int .u32 (lev (byteF mb) xa m) ∧ w5 = wx)
          case first =>
            as_aux_lemma =>
              go_wp2_with fail
              go_loopw [20, 21, 22] (fun x y z wr => ∃ d t : Nat, d + t = m ∧ z = .int .i64 ((t : Int) - 1) ∧ x = .int .u32 (lev (byteF ms) (xa + t) d) ∧ y = .int .u32 (lev (byteF mb) (xa + t) d) ∧ w5 = wr) (fun _ _ z _ => (intOf z + 1).toNat)
              case atStart => exact ⟨0, m, by omega, rfl, rfl, rfl, rfl⟩
              case round =>
                obtain ⟨d, t, hdt, rfl, rfl, rfl, rfl⟩ := hrel
                by_cases ht : t = 0
                · obtain rfl : m = d := by omega
                  subst ht
                  clear HF
                  simp only [Nat.add_zero]
                  go_wp2_with fail
                  go_meet
                  case rel => exact ⟨rfl, rfl, rfl⟩
                · obtain ⟨t', rfl⟩ : ∃ t' : Nat, t = t' + 1 := ⟨t - 1, by omega⟩
                  have LA : Hid (lev (byteF ms) (xa + t') (d + 1) = lev (byteF ms) (xa + (t' + 1)) d * 256 + byteF ms (xa + t')) := Lib.hid (by rw [lev]; rw [Nat.add_assoc]; omega)
                  have LB : Hid (lev (byteF mb) (xa + t') (d + 1) = lev (byteF mb) (xa + (t' + 1)) d * 256 + byteF mb (xa + t')) := Lib.hid (by rw [lev]; rw [Nat.add_assoc]; omega)
                  have hd3 : (256 : Int) ^ d ≤ 16777216 := by
                    rcases (show d = 0 ∨ d = 1 ∨ d = 2 ∨ d = 3 by omega) with rfl | rfl | rfl | rfl <;> decide
                  have A0 := HA0.out d (xa + (t' + 1))
                  have B0 := HB0.out d (xa + (t' + 1))
                  obtain ⟨A0, A1⟩ := A0
                  obtain ⟨B0, B1⟩ := B0
                  have A2 := Int.lt_of_lt_of_le A1 hd3
                  have B2 := Int.lt_of_lt_of_le B1 hd3
                  have aW := byte_at h1 (j := xa + t') (by have := HM.out; omega)
                  have aN := byte_at hN (j := xa + t') (by have := HN.out; omega)
                  obtain ⟨y0, y1⟩ := HY1.out (xa + t')
                  obtain ⟨z0, z1⟩ := HY2.out (xa + t')
                  have hit : (xa : Int) + (t' : Int) < 68 := by omega
                  have ht0 : (0 : Int) ≤ (t' : Int) := by omega
                  have ht1 : (t' : Int) < 4 := by omega
                  generalize byteF ms (xa + t') = ya at *
                  generalize byteF mb (xa + t') = yb at *
                  generalize lev (byteF ms) (xa + (t' + 1)) d = va at *
                  generalize lev (byteF mb) (xa + (t' + 1)) d = vb at *
                  clear HF A1 B1 hd3 HA0 HB0 HY1 HY2 HM HN hgood hg1 hst' hbw hm
                  go_wp2_with fail
                  go_roundw
                  case rel => exact ⟨d + 1, t', by omega, rfl, by rw [LA.out], by rw [LB.out], trivial⟩
                  case measure => simp [intOf] <;> omega
          case rest =>
            obtain ⟨rfl, rfl, rfl⟩ := hcut
            clear h1 hN HM HN HA0 HB0 HY1 HY2
            generalize lev (byteF ms) xa m = va at *
            generalize lev (byteF mb) xa m = vb at *
            obtain ⟨f1, f2⟩ := f
            dsimp only at HF ⊢
            go_upto_region 36 with fail
            go_cut [219] from 196 (fun v219 wx => v219 = .bool false ∧ w5 = wx)
            case first =>
              as_aux_lemma =>
                rcases HF.out with ⟨rfl, rfl⟩ | rfl | ⟨rfl, rfl⟩
                · have hvv : (vb != vb) = false := by simp
                  clear HF
                  go_wp2_with fail
                  go_meet
                  case rel => exact ⟨rfl, rfl⟩
                · clear HF
                  go_wp2_with fail
                  go_meet
                  case rel => exact ⟨rfl, rfl⟩
                · have hvv : (f1 != f1) = false := by simp
                  clear HF
                  go_wp2_with fail
                  go_meet
                  case rel => exact ⟨rfl, rfl⟩
            case rest =>
              obtain ⟨rfl, rfl⟩ := hcut
              clear HF
              rcases List.eq_nil_or_concat lw with rfl | ⟨li, s, hcc⟩
              · have hl0 : ¬ (0 : Int) < (([] : List Store).length : Int) := by simp
                go_wp2_with fail
                refine (works_ok _).mono ?_
                rintro e w6 ⟨rfl, hm6⟩
                go_wp2
                go_ret
                exact ⟨rfl, hmW.trans hm6⟩
              · rw [List.concat_eq_append] at hcc
                subst hcc
                have hFL := fwd_last li s (hg1 s (by simp))
                obtain ⟨g, cap, s', hva, hs, hsf, hsr, hown, hcap⟩ := hst'.at (i := li.length) (by simp)
                obtain rfl : s = s' := by simpa using hs
                obtain ⟨rfl, rfl⟩ : q = some ⟨g, 0, none⟩ ∧ cq = cap + 1 := by simpa using hva
                have c0 : w5.cell? ⟨g, li.length * 3, none⟩ = some (.int .u32 s.addr) := by have := hsr 0 _ rfl; simpa using this
                have c1 : w5.cell? ⟨g, li.length * 3 + 1, none⟩ = some (.int .i64 s.width) := hsr 1 _ rfl
                have c2 : w5.cell? ⟨g, li.length * 3 + 2, none⟩ = some (.int .u32 s.value) := hsr 2 _ rfl
                have hll : (li ++ [s]).length = li.length + 1 := by simp
                have hs1 := hsf.a0
                have hs2 := hsf.a1
                rw [hll] at h4 ⊢
                generalize hlw : li ++ [s] = lw at *
                have HL := Lib.hid hFL
                clear hFL hlw hs hsr hva hown hst' hgood hll hsf
                generalize li.length = k at *
                have hk0 : (0 : Int) ≤ (k : Int) := by omega
                go_wp2_with fail
                have hb7 := blk_new w5 (Obj.cells #[Value.int IntKind.u32 s.addr, Value.int IntKind.i64 s.width, Value.int IntKind.u32 s.value] 24)
                have hm7 : Mod (fun _ => False) w5 (w5.alloc (Obj.cells #[Value.int IntKind.u32 s.addr, Value.int IntKind.i64 s.width, Value.int IntKind.u32 s.value] 24)) := (Mod.refl _ _).alloc _
                generalize w5.alloc (Obj.cells #[Value.int IntKind.u32 s.addr, Value.int IntKind.i64 s.width, Value.int IntKind.u32 s.value] 24) = w7 at *
                generalize w5.heap.size = b7 at *
                refine (forward_any w7 (some ⟨p, 0, none⟩) lw s.addr s.width (.inr ⟨p, rfl, hbw.keep hm7 (fun x => x)⟩) hg1 hs1 hs2).mono ?_
                rintro e w8 ⟨rfl, hm8⟩
                rw [HL.out]
                replace hb7 := hm8.at hb7 (fun x => x)
                have d2 : w8.cell? ⟨b7, 2, none⟩ = some (.int .u32 s.value) := cell_of w8 hb7 2
                have hvv : (s.value != s.value) = false := by simp
                clear c0 c1 c2 hb7
                go_wp2_with fail
                refine (works_ok _).mono ?_
                rintro e w9 ⟨rfl, hm9⟩
                go_wp2
                go_ret
                exact ⟨rfl, ((hmW.trans hm7).trans hm8).trans hm9⟩
/-- Whatever the input. -/
theorem bufferMemory_walk (a : Option Addr) (c : Nat) (l : List BAct) (ma : Option Addr) (mn mc : Nat) (x n : Int) (hx0 : 0 ≤ x) (hx1 : x ≤ 4294967295) (w : World) (h : BActs w a l) (hb : MemArg w ma mn) :
    Calls Try.prog 6 #[.slice a l.length c, .slice ma mn mc, .int .u32 x, .int .i64 n] w fun e w' => e = .returned (.bool true) ∧ Below w.heap.size w w' := by
  have H : Calls Try.prog 6 #[.slice a l.length c, .slice ma mn mc, .int .u32 x, .int .i64 n] w fun e w' => e = .returned (.bool true) ∧ Mod (fun _ => False) w w' := by
    by_cases hl : 100 < l.length
    · exact mem_long a c l ma mn mc x n w hl
    · by_cases hx : 64 ≤ x
      · exact mem_far a c l ma mn mc x n w hl hx
      · cases hn : wideB n with
        | false => exact mem_width a c l ma mn mc x n w hl hx hn
        | true =>
          obtain ⟨m, rfl, hm⟩ : ∃ m : Nat, n = m ∧ (m = 1 ∨ m = 2 ∨ m = 4) := by
            simp only [wideB, Bool.or_eq_true, beq_iff_eq] at hn
            rcases hn with (rfl | rfl) | rfl
            · exact ⟨1, rfl, .inl rfl⟩
            · exact ⟨2, rfl, .inr (.inl rfl)⟩
            · exact ⟨4, rfl, .inr (.inr rfl)⟩
          by_cases hal : x % (m : Int) = 0
          · obtain ⟨xa, rfl⟩ : ∃ xa : Nat, x = xa := ⟨x.toNat, by omega⟩
            exact mem_main a c l ma mn mc xa m w h hb hl (by omega) hm hal
          · exact mem_align a c l ma mn mc x m w hl hx0 hx hm hal
  exact H.mono fun e w' ⟨h1, h2⟩ => ⟨h1, h2.below⟩
end
end Go.Proofs.Ytknjlmpjkkkilaa
