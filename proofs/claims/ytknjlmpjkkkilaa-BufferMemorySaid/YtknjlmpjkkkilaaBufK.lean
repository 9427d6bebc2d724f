/- Lists of stores compared: slices.Equal, the document's Same. -/
import Derived.Test.YtknjlmpjkkkilaaBufD
namespace Go.Proofs.Ytknjlmpjkkkilaa
open Go.RowKit
set_option linter.unusedVariables false
set_option linter.unusedSimpArgs false

theorem keepRR {w0 w' : World} {b o b2 o2 : Nat} {cs cs2 : List Value} (h1 : w0.rangeAt b o cs) (h2 : w0.rangeAt b2 o2 cs2) (h : Mod (fun _ => False) w0 w') : Mod (fun _ => False) w0 w' ∧ w'.rangeAt b o cs ∧ w'.rangeAt b2 o2 cs2 :=
  ⟨h, h.range h1 (fun x => x), h.range h2 (fun x => x)⟩
theorem take_succ_eq {a b : List Store} {j : Nat} {x : Store} (h : a.take j = b.take j) (ha : a[j]? = some x) (hb : b[j]? = some x) : a.take (j + 1) = b.take (j + 1) := by
  rw [List.take_add_one, List.take_add_one, h, ha, hb]

section
attribute [-go_sem] Instr.loadAt
attribute [local go_sem 500] run_loadAt_open
attribute [local go_sem] heap_drew
set_option maxHeartbeats 1000000 in
theorem equal_ok (w : World) (va vb : Value) (a b : List Store) (ha : Seen w va a) (hb : Seen w vb b) (hla : a.length ≤ 1000000) (hlb : b.length ≤ 1000000) :
    Calls Try.prog 36 #[va, vb] w fun e w' => e = .returned (.bool (decide (a = b))) ∧ Mod (fun _ => False) w w' := by
  obtain ⟨qa, ca, hva, hca⟩ := ha.len
  obtain ⟨qb, cb, hvb, hcb⟩ := hb.len
  by_cases hn : a.length = b.length
  · rw [hva, hvb]
    go_enter Try.func36, Try.ntmps36
    go_wp2_with fail
    go_loopw [13] (fun i wr => ∃ j : Nat, j ≤ a.length ∧ i = .int .i64 j ∧ a.take j = b.take j ∧ Mod (fun _ => False) w wr) (fun i _ => a.length - (intOf i).toNat)
    case atStart => exact ⟨0, by omega, rfl, rfl, Mod.refl _ _⟩
    case round =>
      obtain ⟨j, hj, rfl, htk, hmo⟩ := hrel
      by_cases hlt : j < a.length
      · obtain ⟨g, og, cap, x, hv1, hx, hxf, hxr, hc1⟩ := (ha.keep0 hmo).at hlt
        obtain ⟨g2, og2, cap2, y, hv2, hy, hyf, hyr, hc2⟩ := (hb.keep0 hmo).at (show j < b.length by omega)
        rw [hva] at hv1
        rw [hvb] at hv2
        simp only [Value.slice.injEq, true_and] at hv1 hv2
        obtain ⟨rfl, rfl⟩ := hv1
        obtain ⟨rfl, rfl⟩ := hv2
        have hj0 : (0 : Int) ≤ (j : Int) := by omega
        have hja : (j : Int) < (a.length : Int) := by omega
        have hjb : (j : Int) < (b.length : Int) := by omega
        have hl1 := load_store_at x g (og + j * 3)
        have hl2 := load_store_at y g2 (og2 + j * 3)
        have hne := neq_store (x := x) (y := y)
        obtain ⟨be, hbe⟩ : ∃ be, (!decide (x = y)) = be := ⟨_, rfl⟩
        rw [hbe] at hne
        go_upto_region 6 with fail
        go_cut [24] (fun v24 wx => v24 = .bool be ∧ Mod (fun _ => False) wr wx)
        case first =>
          go_region_held3 (fun w' => Mod (fun _ => False) wr w' ∧ w'.rangeAt g (og + j * 3) x.cells ∧ w'.rangeAt g2 (og2 + j * 3) y.cells) ((go_split_ands; refine keepRR hxr hyr ?_; (repeat first | exact Mod.refl _ _ | assumption | apply Mod.drew | apply Mod.drewN | apply Mod.alloc | (refine Mod.setCell ?_ (Or.inr (by (first | (with_reducible exact Nat.le_refl _) | ((try simp only [World.size_alloc, World.size_setCell, World.size_drew] at *); omega)))) _) | (refine Mod.trans ?_ (by assumption))))) (fail)
          go_wp2_with fail
          go_split_ands
          go_meet
          case rel => exact ⟨rfl, by assumption⟩
        case rest =>
          obtain ⟨rfl, hmx⟩ := hcut
          clear hne hl1 hl2
          cases be
          · have hxy : x = y := by simpa using hbe
            subst hxy
            clear hbe
            go_wp2_with fail
            go_roundw
            case rel => exact ⟨j + 1, by omega, by go_num, take_succ_eq htk hx hy, hmo.trans hmx⟩
            case measure => simp [intOf]; omega
          · have hxy : ¬ x = y := by simpa using hbe
            clear hbe
            have hd : decide (a = b) = false := by simp only [decide_eq_false_iff_not]; rintro rfl; rw [hx] at hy; exact hxy (Option.some.inj hy)
            go_wp2
            go_ret
            exact ⟨by rw [hd]; rfl, hmo.trans hmx⟩
      · obtain rfl : j = a.length := by omega
        have hd : decide (a = b) = true := by
          rw [List.take_of_length_le (by omega), List.take_of_length_le (by omega)] at htk
          simpa using htk
        go_wp2
        go_ret
        exact ⟨by rw [hd]; rfl, hmo⟩
  · have hd : decide (a = b) = false := by simp only [decide_eq_false_iff_not]; rintro rfl; exact hn rfl
    rw [hva, hvb]
    go_enter Try.func36, Try.ntmps36
    go_wp2
    go_ret
    exact ⟨by rw [hd]; rfl, Mod.refl _ _⟩
set_option maxHeartbeats 1000000 in
theorem refsame_ok (w : World) (va vb : Value) (a b : List Store) (ha : Seen w va a) (hb : Seen w vb b) (hla : a.length ≤ 1000000) (hlb : b.length ≤ 1000000) :
    Calls Try.prog 24 #[va, vb] w fun e w' => e = .returned (.bool (decide (a = b))) ∧ Mod (fun _ => False) w w' := by
  obtain ⟨qa, ca, hva, hca⟩ := ha.len
  obtain ⟨qb, cb, hvb, hcb⟩ := hb.len
  by_cases hn : a.length = b.length
  · rw [hva, hvb]
    go_enter Try.func24, Try.ntmps24
    go_wp2_with fail
    go_loopw [5] (fun i wr => ∃ j : Nat, j ≤ a.length ∧ i = .int .i64 j ∧ a.take j = b.take j ∧ Mod (fun _ => False) w wr) (fun i _ => a.length - (intOf i).toNat)
    case atStart => exact ⟨0, by omega, rfl, rfl, Mod.refl _ _⟩
    case round =>
      obtain ⟨j, hj, rfl, htk, hmo⟩ := hrel
      by_cases hlt : j < a.length
      · obtain ⟨g, og, cap, x, hv1, hx, hxf, hxr, hc1⟩ := (ha.keep0 hmo).at hlt
        obtain ⟨g2, og2, cap2, y, hv2, hy, hyf, hyr, hc2⟩ := (hb.keep0 hmo).at (show j < b.length by omega)
        rw [hva] at hv1
        rw [hvb] at hv2
        simp only [Value.slice.injEq, true_and] at hv1 hv2
        obtain ⟨rfl, rfl⟩ := hv1
        obtain ⟨rfl, rfl⟩ := hv2
        have hj0 : (0 : Int) ≤ (j : Int) := by omega
        have hja : (j : Int) < (a.length : Int) := by omega
        have hjb : (j : Int) < (b.length : Int) := by omega
        have hl1 := load_store_at x g (og + j * 3)
        have hl2 := load_store_at y g2 (og2 + j * 3)
        have hne := neq_store (x := x) (y := y)
        obtain ⟨be, hbe⟩ : ∃ be, (!decide (x = y)) = be := ⟨_, rfl⟩
        rw [hbe] at hne
        go_upto_region 6 with fail
        go_cut [25] (fun v25 wx => v25 = .bool be ∧ Mod (fun _ => False) wr wx)
        case first =>
          go_region_held3 (fun w' => Mod (fun _ => False) wr w' ∧ w'.rangeAt g (og + j * 3) x.cells ∧ w'.rangeAt g2 (og2 + j * 3) y.cells) ((go_split_ands; refine keepRR hxr hyr ?_; (repeat first | exact Mod.refl _ _ | assumption | apply Mod.drew | apply Mod.drewN | apply Mod.alloc | (refine Mod.setCell ?_ (Or.inr (by (first | (with_reducible exact Nat.le_refl _) | ((try simp only [World.size_alloc, World.size_setCell, World.size_drew] at *); omega)))) _) | (refine Mod.trans ?_ (by assumption))))) (fail)
          go_wp2_with fail
          go_split_ands
          go_meet
          case rel => exact ⟨rfl, by assumption⟩
        case rest =>
          obtain ⟨rfl, hmx⟩ := hcut
          clear hne hl1 hl2
          cases be
          · have hxy : x = y := by simpa using hbe
            subst hxy
            clear hbe
            go_wp2_with fail
            go_roundw
            case rel => exact ⟨j + 1, by omega, by go_num, take_succ_eq htk hx hy, hmo.trans hmx⟩
            case measure => simp [intOf]; omega
          · have hxy : ¬ x = y := by simpa using hbe
            clear hbe
            have hd : decide (a = b) = false := by simp only [decide_eq_false_iff_not]; rintro rfl; rw [hx] at hy; exact hxy (Option.some.inj hy)
            go_wp2
            go_ret
            exact ⟨by rw [hd]; rfl, hmo.trans hmx⟩
      · obtain rfl : j = a.length := by omega
        have hd : decide (a = b) = true := by
          rw [List.take_of_length_le (by omega), List.take_of_length_le (by omega)] at htk
          simpa using htk
        go_wp2
        go_ret
        exact ⟨by rw [hd]; rfl, hmo⟩
  · have hd : decide (a = b) = false := by simp only [decide_eq_false_iff_not]; rintro rfl; exact hn rfl
    rw [hva, hvb]
    go_enter Try.func24, Try.ntmps24
    go_wp2
    go_ret
    exact ⟨by rw [hd]; rfl, Mod.refl _ _⟩

end
end Go.Proofs.Ytknjlmpjkkkilaa
