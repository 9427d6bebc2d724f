/- Lists of messages compared: slices.Equal, the document's Same; the net's Same; counted. -/
import Derived.Test.YtklokcndhkhdmaaNetG
import Derived.Test.YtklokcndhkhdmaaNetH
namespace Go.Proofs.Ytklokcndhkhdmaa
open Go.RowKit
set_option linter.unusedVariables false
set_option linter.unusedSimpArgs false

/-- The i-th message of a list is where an index finds it. -/
theorem Msgs.at {w : World} {v : Value} {l : List Msg} (h : Msgs w v l) {i : Nat} (hi : i < l.length) : ∃ g cap m, v = .slice (some ⟨g, 0, none⟩) l.length (cap + 1) ∧ l[i]? = some m ∧ m.Fits ∧ w.rangeAt g (i * 20) m.cells ∧ ownOf v = some g ∧ l.length ≤ cap + 1 := by
  obtain ⟨g, cap, hv, hg, h1, h2⟩ := h.row.full (by omega)
  have hm : l[i]? = some l[i] := List.getElem?_eq_getElem hi
  exact ⟨g, cap, l[i], hv, hm, h.fits _ (List.getElem_mem _), h.row.range hg _ _ (flat_at l h.fits i _ hm), hg, h1⟩
theorem Msgs.len {w : World} {v : Value} {l : List Msg} (h : Msgs w v l) : ∃ q c, v = .slice q l.length c ∧ l.length ≤ c := by
  obtain ⟨q, c, hv, h1, _⟩ := h.row.form
  exact ⟨q, c, hv, h1⟩
theorem keepRR {w0 w' : World} {b o b2 o2 : Nat} {cs cs2 : List Value} (h1 : w0.rangeAt b o cs) (h2 : w0.rangeAt b2 o2 cs2) (h : Mod (fun _ => False) w0 w') : Mod (fun _ => False) w0 w' ∧ w'.rangeAt b o cs ∧ w'.rangeAt b2 o2 cs2 :=
  ⟨h, h.range h1 (fun x => x), h.range h2 (fun x => x)⟩
theorem take_succ_eq {a b : List Msg} {j : Nat} {x : Msg} (h : a.take j = b.take j) (ha : a[j]? = some x) (hb : b[j]? = some x) : a.take (j + 1) = b.take (j + 1) := by
  rw [List.take_add_one, List.take_add_one, h, ha, hb]

section
attribute [-go_sem] Instr.loadAt
attribute [local go_sem 500] run_loadAt_open
attribute [local go_sem] heap_drew
set_option maxHeartbeats 1000000 in
theorem equal_ok (w : World) (va vb : Value) (a b : List Msg) (ha : Msgs w va a) (hb : Msgs w vb b) (hla : a.length ≤ 1000000) (hlb : b.length ≤ 1000000) :
    Calls Try.prog 34 #[va, vb] w fun e w' => e = .returned (.bool (decide (a = b))) ∧ Mod (fun _ => False) w w' := by
  obtain ⟨qa, ca, hva, hca⟩ := ha.len
  obtain ⟨qb, cb, hvb, hcb⟩ := hb.len
  by_cases hn : a.length = b.length
  · rw [hva, hvb]
    go_enter Try.func34, Try.ntmps34
    go_wp2_with fail
    go_loopw [13] (fun i wr => ∃ j : Nat, j ≤ a.length ∧ i = .int .i64 j ∧ a.take j = b.take j ∧ Mod (fun _ => False) w wr) (fun i _ => a.length - (intOf i).toNat)
    case atStart => exact ⟨0, by omega, rfl, rfl, Mod.refl _ _⟩
    case round =>
      obtain ⟨j, hj, rfl, htk, hmo⟩ := hrel
      by_cases hlt : j < a.length
      · obtain ⟨g, cap, x, hv1, hx, hxf, hxr, -, hc1⟩ := (ha.keep hmo (fun _ _ x => x)).at hlt
        obtain ⟨g2, cap2, y, hv2, hy, hyf, hyr, -, hc2⟩ := (hb.keep hmo (fun _ _ x => x)).at (show j < b.length by omega)
        rw [hva] at hv1
        rw [hvb] at hv2
        simp only [Value.slice.injEq, true_and] at hv1 hv2
        obtain ⟨rfl, rfl⟩ := hv1
        obtain ⟨rfl, rfl⟩ := hv2
        have hj0 : (0 : Int) ≤ (j : Int) := by omega
        have hja : (j : Int) < (a.length : Int) := by omega
        have hjb : (j : Int) < (b.length : Int) := by omega
        have hl1 := load_msg_at x hxf g (j * 20)
        have hl2 := load_msg_at y hyf g2 (j * 20)
        have hne := neq_msg (x := x) (y := y) (hx := hxf) (hy := hyf)
        obtain ⟨be, hbe⟩ : ∃ be, (!decide (x = y)) = be := ⟨_, rfl⟩
        rw [hbe] at hne
        go_upto_region 6 with fail
        go_cut [24] (fun v24 wx => v24 = .bool be ∧ Mod (fun _ => False) wr wx)
        case first =>
          go_region_held3 (fun w' => Mod (fun _ => False) wr w' ∧ w'.rangeAt g (j * 20) x.cells ∧ w'.rangeAt g2 (j * 20) y.cells) ((go_split_ands; refine keepRR hxr hyr ?_; (repeat first | exact Mod.refl _ _ | assumption | apply Mod.drew | apply Mod.drewN | apply Mod.alloc | (refine Mod.setCell ?_ (Or.inr (by (first | (with_reducible exact Nat.le_refl _) | ((try simp only [World.size_alloc, World.size_setCell, World.size_drew] at *); omega)))) _) | (refine Mod.trans ?_ (by assumption))))) (fail)
          go_wp2_with fail
          go_split_ands
          go_meet
          case rel => exact ⟨rfl, by assumption⟩
        case rest =>
          obtain ⟨rfl, hmx⟩ := hcut
          clear hne hl1 hl2
          cases be
          · have hxy : x = y := by simpa using hbe
            subst hxy
            clear hbe
            go_wp2_with fail
            go_roundw
            case rel => exact ⟨j + 1, by omega, by go_num, take_succ_eq htk hx hy, hmo.trans hmx⟩
            case measure => simp [intOf]; omega
          · have hxy : ¬ x = y := by simpa using hbe
            clear hbe
            have hd : decide (a = b) = false := by simp only [decide_eq_false_iff_not]; rintro rfl; rw [hx] at hy; exact hxy (Option.some.inj hy)
            go_wp2
            go_ret
            exact ⟨by rw [hd]; rfl, hmo.trans hmx⟩
      · obtain rfl : j = a.length := by omega
        have hd : decide (a = b) = true := by
          rw [List.take_of_length_le (by omega), List.take_of_length_le (by omega)] at htk
          simpa using htk
        go_wp2
        go_ret
        exact ⟨by rw [hd]; rfl, hmo⟩
  · have hd : decide (a = b) = false := by simp only [decide_eq_false_iff_not]; rintro rfl; exact hn rfl
    rw [hva, hvb]
    go_enter Try.func34, Try.ntmps34
    go_wp2
    go_ret
    exact ⟨by rw [hd]; rfl, Mod.refl _ _⟩
set_option maxHeartbeats 1000000 in
theorem refsame_ok (w : World) (va vb : Value) (a b : List Msg) (ha : Msgs w va a) (hb : Msgs w vb b) (hla : a.length ≤ 1000000) (hlb : b.length ≤ 1000000) :
    Calls Try.prog 18 #[va, vb] w fun e w' => e = .returned (.bool (decide (a = b))) ∧ Mod (fun _ => False) w w' := by
  obtain ⟨qa, ca, hva, hca⟩ := ha.len
  obtain ⟨qb, cb, hvb, hcb⟩ := hb.len
  by_cases hn : a.length = b.length
  · rw [hva, hvb]
    go_enter Try.func18, Try.ntmps18
    go_wp2_with fail
    go_loopw [5] (fun i wr => ∃ j : Nat, j ≤ a.length ∧ i = .int .i64 j ∧ a.take j = b.take j ∧ Mod (fun _ => False) w wr) (fun i _ => a.length - (intOf i).toNat)
    case atStart => exact ⟨0, by omega, rfl, rfl, Mod.refl _ _⟩
    case round =>
      obtain ⟨j, hj, rfl, htk, hmo⟩ := hrel
      by_cases hlt : j < a.length
      · obtain ⟨g, cap, x, hv1, hx, hxf, hxr, -, hc1⟩ := (ha.keep hmo (fun _ _ x => x)).at hlt
        obtain ⟨g2, cap2, y, hv2, hy, hyf, hyr, -, hc2⟩ := (hb.keep hmo (fun _ _ x => x)).at (show j < b.length by omega)
        rw [hva] at hv1
        rw [hvb] at hv2
        simp only [Value.slice.injEq, true_and] at hv1 hv2
        obtain ⟨rfl, rfl⟩ := hv1
        obtain ⟨rfl, rfl⟩ := hv2
        have hj0 : (0 : Int) ≤ (j : Int) := by omega
        have hja : (j : Int) < (a.length : Int) := by omega
        have hjb : (j : Int) < (b.length : Int) := by omega
        have hl1 := load_msg_at x hxf g (j * 20)
        have hl2 := load_msg_at y hyf g2 (j * 20)
        have hne := neq_msg (x := x) (y := y) (hx := hxf) (hy := hyf)
        obtain ⟨be, hbe⟩ : ∃ be, (!decide (x = y)) = be := ⟨_, rfl⟩
        rw [hbe] at hne
        go_upto_region 6 with fail
        go_cut [25] (fun v25 wx => v25 = .bool be ∧ Mod (fun _ => False) wr wx)
        case first =>
          go_region_held3 (fun w' => Mod (fun _ => False) wr w' ∧ w'.rangeAt g (j * 20) x.cells ∧ w'.rangeAt g2 (j * 20) y.cells) ((go_split_ands; refine keepRR hxr hyr ?_; (repeat first | exact Mod.refl _ _ | assumption | apply Mod.drew | apply Mod.drewN | apply Mod.alloc | (refine Mod.setCell ?_ (Or.inr (by (first | (with_reducible exact Nat.le_refl _) | ((try simp only [World.size_alloc, World.size_setCell, World.size_drew] at *); omega)))) _) | (refine Mod.trans ?_ (by assumption))))) (fail)
          go_wp2_with fail
          go_split_ands
          go_meet
          case rel => exact ⟨rfl, by assumption⟩
        case rest =>
          obtain ⟨rfl, hmx⟩ := hcut
          clear hne hl1 hl2
          cases be
          · have hxy : x = y := by simpa using hbe
            subst hxy
            clear hbe
            go_wp2_with fail
            go_roundw
            case rel => exact ⟨j + 1, by omega, by go_num, take_succ_eq htk hx hy, hmo.trans hmx⟩
            case measure => simp [intOf]; omega
          · have hxy : ¬ x = y := by simpa using hbe
            clear hbe
            have hd : decide (a = b) = false := by simp only [decide_eq_false_iff_not]; rintro rfl; rw [hx] at hy; exact hxy (Option.some.inj hy)
            go_wp2
            go_ret
            exact ⟨by rw [hd]; rfl, hmo.trans hmx⟩
      · obtain rfl : j = a.length := by omega
        have hd : decide (a = b) = true := by
          rw [List.take_of_length_le (by omega), List.take_of_length_le (by omega)] at htk
          simpa using htk
        go_wp2
        go_ret
        exact ⟨by rw [hd]; rfl, hmo⟩
  · have hd : decide (a = b) = false := by simp only [decide_eq_false_iff_not]; rintro rfl; exact hn rfl
    rw [hva, hvb]
    go_enter Try.func18, Try.ntmps18
    go_wp2
    go_ret
    exact ⟨by rw [hd]; rfl, Mod.refl _ _⟩

theorem same_nn (w : World) : Calls Try.prog 27 #[.pointer none, .pointer none] w fun e w' => e = .returned (.bool true) ∧ w' = w := by
  go_enter Try.func27, Try.ntmps27
  go_wp2_with (go_at_call 30; refine (none_nil _).mono ?_; rintro e w1 ⟨rfl, rfl⟩)
  go_ret
  exact ⟨rfl, rfl⟩
theorem same_pn (w : World) (p : Nat) (o : Option Nat) (l : List Msg) (most : Int) (h : Net w p o l most) : Calls Try.prog 27 #[.pointer (some ⟨p, 0, none⟩), .pointer none] w fun e w' => e = .returned (.bool false) ∧ w' = w := by
  go_enter Try.func27, Try.ntmps27
  go_wp2_with fail
  refine (none_ok _ p o l most h).mono ?_
  rintro e w1 ⟨rfl, rfl⟩
  go_wp2_with fail
  refine (none_nil _).mono ?_
  rintro e w1 ⟨rfl, rfl⟩
  go_wp2_with fail
  refine (none_ok _ p o l most h).mono ?_
  rintro e w1 ⟨rfl, rfl⟩
  go_wp2
  go_ret
  exact ⟨rfl, rfl⟩
theorem same_np (w : World) (p : Nat) (o : Option Nat) (l : List Msg) (most : Int) (h : Net w p o l most) : Calls Try.prog 27 #[.pointer none, .pointer (some ⟨p, 0, none⟩)] w fun e w' => e = .returned (.bool false) ∧ w' = w := by
  go_enter Try.func27, Try.ntmps27
  go_wp2_with fail
  refine (none_nil _).mono ?_
  rintro e w1 ⟨rfl, rfl⟩
  go_wp2_with fail
  refine (none_nil _).mono ?_
  rintro e w1 ⟨rfl, rfl⟩
  go_wp2_with fail
  refine (none_ok _ p o l most h).mono ?_
  rintro e w1 ⟨rfl, rfl⟩
  go_wp2
  go_ret
  exact ⟨rfl, rfl⟩
theorem keep4 {w0 w' : World} {a b c d : Addr} {va vb vc vd : Value} (h1 : w0.cell? a = some va) (h2 : w0.cell? b = some vb) (h3 : w0.cell? c = some vc) (h4 : w0.cell? d = some vd) (h : Mod (fun _ => False) w0 w') :
    Mod (fun _ => False) w0 w' ∧ w'.cell? a = some va ∧ w'.cell? b = some vb ∧ w'.cell? c = some vc ∧ w'.cell? d = some vd :=
  ⟨h, h.cell h1 (fun x => x), h.cell h2 (fun x => x), h.cell h3 (fun x => x), h.cell h4 (fun x => x)⟩
theorem same_ok (w : World) (p p' : Nat) (o o' : Option Nat) (l l' : List Msg) (most most' : Int) (h : Net w p o l most) (h' : Net w p' o' l' most') :
    Calls Try.prog 27 #[.pointer (some ⟨p, 0, none⟩), .pointer (some ⟨p', 0, none⟩)] w fun e w' => e = .returned (.bool (decide (most = most' ∧ l = l'))) ∧ Mod (fun _ => False) w w' := by
  obtain ⟨v, hb, hms, _⟩ := h.ex
  obtain ⟨v', hb', hms', _⟩ := h'.ex
  have c0 : w.cell? ⟨p, 0, none⟩ = some v := cell_of w hb 0
  have c1 : w.cell? ⟨p, 1, none⟩ = some (.int .i64 most) := cell_of w hb 1
  have d0 : w.cell? ⟨p', 0, none⟩ = some v' := cell_of w hb' 0
  have d1 : w.cell? ⟨p', 1, none⟩ = some (.int .i64 most') := cell_of w hb' 1
  have hsm := h.small
  have hsm' := h'.small
  obtain ⟨q, c, hv, _⟩ := hms.len
  obtain ⟨q', c', hv', _⟩ := hms'.len
  go_enter Try.func27, Try.ntmps27
  go_wp2_with fail
  refine (none_ok _ p o l most h).mono ?_
  rintro e w1 ⟨rfl, rfl⟩
  go_wp2_with fail
  refine (none_ok _ p' o' l' most' h').mono ?_
  rintro e w1 ⟨rfl, rfl⟩
  subst hv hv'
  have hq := equal_ok (va := .slice q l.length c) (vb := .slice q' l'.length c') (a := l) (b := l')
  by_cases hmost : most = most'
  · subst hmost
    have hbq : (most == most) = true := by simp
    go_upto_region 3 with fail
    go_cut [4] (fun v4 wx => v4 = .bool (decide (l = l')) ∧ Mod (fun _ => False) w1 wx)
    case first =>
      go_region_held3 (fun w' => Mod (fun _ => False) w1 w' ∧ w'.cell? ⟨p, 0, none⟩ = some (.slice q l.length c) ∧ w'.cell? ⟨p, 1, none⟩ = some (.int .i64 most) ∧ w'.cell? ⟨p', 0, none⟩ = some (.slice q' l'.length c') ∧ w'.cell? ⟨p', 1, none⟩ = some (.int .i64 most)) ((go_split_ands; refine keep4 c0 c1 d0 d1 ?_; (repeat first | exact Mod.refl _ _ | assumption | apply Mod.drew | apply Mod.drewN | apply Mod.alloc | (refine Mod.setCell ?_ (Or.inr (by (first | (with_reducible exact Nat.le_refl _) | ((try simp only [World.size_alloc, World.size_setCell, World.size_drew] at *); omega)))) _) | (refine Mod.trans ?_ (by assumption)))))
        ((go_at_call 34; refine (hq _ (hms.keep (S := fun _ => False) (by go_split_ands; (repeat first | exact Mod.refl _ _ | assumption | apply Mod.drew | apply Mod.drewN | apply Mod.alloc | (refine Mod.setCell ?_ (Or.inr (by (first | (with_reducible exact Nat.le_refl _) | ((try simp only [World.size_alloc, World.size_setCell, World.size_drew] at *); omega)))) _) | (refine Mod.trans ?_ (by assumption)))) (fun _ _ x => x)) (hms'.keep (S := fun _ => False) (by go_split_ands; (repeat first | exact Mod.refl _ _ | assumption | apply Mod.drew | apply Mod.drewN | apply Mod.alloc | (refine Mod.setCell ?_ (Or.inr (by (first | (with_reducible exact Nat.le_refl _) | ((try simp only [World.size_alloc, World.size_setCell, World.size_drew] at *); omega)))) _) | (refine Mod.trans ?_ (by assumption)))) (fun _ _ x => x)) (by omega) (by omega)).mono ?_; rintro e w2 ⟨rfl, hm2⟩))
      go_wp2_with fail
      go_split_ands
      go_meet
      case rel => exact ⟨rfl, by assumption⟩
    case rest =>
      obtain ⟨rfl, hmx⟩ := hcut
      go_wp2
      go_ret
      exact ⟨by simp, hmx⟩
  · have hbq : (most == most') = false := by simpa using hmost
    go_upto_region 3 with fail
    go_cut [4] (fun v4 wx => v4 = .bool false ∧ Mod (fun _ => False) w1 wx)
    case first =>
      go_quiet (fail)
      go_wp2_with fail
      go_meet
      case rel => exact ⟨rfl, (Mod.refl _ _).drewN _⟩
    case rest =>
      obtain ⟨rfl, hmx⟩ := hcut
      go_wp2
      go_ret
      exact ⟨by simp [hmost], hmx⟩
end
end Go.Proofs.Ytklokcndhkhdmaa
