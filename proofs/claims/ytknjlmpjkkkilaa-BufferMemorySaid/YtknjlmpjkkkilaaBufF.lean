/- The document's has and Forward. -/
import Derived.Test.YtknjlmpjkkkilaaBufE
namespace Go.Proofs.Ytknjlmpjkkkilaa
open Go.RowKit
set_option linter.unusedVariables false
set_option linter.unusedSimpArgs false

/-- The byte that a store has at an address; -1: none. -/
def hasV (s : Store) (k : Int) : Int := if k < 0 ∨ s.width ≤ k then -1 else s.value / 256 ^ k.toNat % 256
def divs (v : Int) : Nat → Int
  | 0 => v
  | i + 1 => divs v i / 256
theorem divs_eq (v : Int) : ∀ i, divs v i = v / 256 ^ i
  | 0 => by simp [divs]
  | i + 1 => by
    rw [divs, divs_eq v i, Int.pow_succ, Int.ediv_ediv_of_nonneg (by exact Int.le_of_lt (Int.pow_pos (by omega)))]
theorem divs_nonneg {v : Int} (h : 0 ≤ v) (h2 : v ≤ 4294967295) : ∀ i, 0 ≤ divs v i ∧ divs v i ≤ 4294967295
  | 0 => ⟨h, h2⟩
  | i + 1 => by
    have := divs_nonneg h h2 i
    rw [divs]
    omega

set_option maxHeartbeats 1000000 in
theorem has_ok (w : World) (s : Store) (t : Int) (hf : s.Fits) (hw : 1 ≤ s.width ∧ s.width ≤ 4) (h0 : 0 ≤ t) (h1 : t ≤ 8589934592) :
    Calls Try.prog 33 #[.agg s.cells.toArray, .int .i64 t] w fun e w' => e = .returned (.int .i64 (hasV s (t - s.addr))) ∧ Mod (fun _ => False) w w' := by
  obtain ⟨a, n, v⟩ := s
  obtain ⟨a0, a1, v0, v1⟩ := hf
  simp only at a0 a1 v0 v1 hw
  simp only [Store.cells]
  obtain ⟨hw0, hw1⟩ := hw
  rcases (by omega : t - a < 0 ∨ (0 ≤ t - a ∧ n ≤ t - a) ∨ (0 ≤ t - a ∧ t - a < n)) with h | ⟨h, h'⟩ | ⟨h, h'⟩
  · have hr : hasV ⟨a, n, v⟩ (t - a) = -1 := by simp only [hasV]; rw [if_pos (.inl h)]
    rw [hr]
    go_enter Try.func33, Try.ntmps33
    go_wp2
    go_ret
    exact ⟨rfl, by (repeat first | exact Mod.refl _ _ | assumption | apply Mod.drew | apply Mod.drewN | apply Mod.alloc | (refine Mod.setCell ?_ (Or.inr (by (first | (with_reducible exact Nat.le_refl _) | ((try simp only [World.size_alloc, World.size_setCell, World.size_drew] at *); omega)))) _) | (refine Mod.trans ?_ (by assumption)))⟩
  · have hr : hasV ⟨a, n, v⟩ (t - a) = -1 := by simp only [hasV]; rw [if_pos (.inr h')]
    rw [hr]
    go_enter Try.func33, Try.ntmps33
    go_wp2
    go_ret
    exact ⟨rfl, by (repeat first | exact Mod.refl _ _ | assumption | apply Mod.drew | apply Mod.drewN | apply Mod.alloc | (refine Mod.setCell ?_ (Or.inr (by (first | (with_reducible exact Nat.le_refl _) | ((try simp only [World.size_alloc, World.size_setCell, World.size_drew] at *); omega)))) _) | (refine Mod.trans ?_ (by assumption)))⟩
  · obtain ⟨k, hk⟩ : ∃ k : Nat, t - a = k := ⟨(t - a).toNat, by omega⟩
    have hr : hasV ⟨a, n, v⟩ (t - a) = divs v k % 256 := by simp only [hasV]; rw [if_neg (by omega), divs_eq, hk]; rfl
    rw [hr]
    have HK := Lib.hid hk
    clear hk hr
    go_enter Try.func33, Try.ntmps33
    go_wp2_with fail
    rw [HK.out]
    go_loop [6, 7] (fun x i => ∃ j : Nat, j ≤ k ∧ i = .int .i64 j ∧ x = .int .u32 (divs v j)) (fun _ i => k - (intOf i).toNat)
    case atStart => exact ⟨0, by omega, rfl, rfl⟩
    case round =>
      obtain ⟨j, hj, rfl, rfl⟩ := hrel
      obtain ⟨d0, d1⟩ := divs_nonneg v0 v1 j
      have hk4 : k < 4 := by have := HK.out; omega
      by_cases hlt : j < k
      · go_wp2
        go_round
        case rel => exact ⟨j + 1, by omega, by go_num, rfl⟩
        case measure => simp [intOf]; omega
      · obtain rfl : j = k := by omega
        go_wp2
        go_ret
        exact ⟨rfl, by (repeat first | exact Mod.refl _ _ | assumption | apply Mod.drew | apply Mod.drewN | apply Mod.alloc | (refine Mod.setCell ?_ (Or.inr (by (first | (with_reducible exact Nat.le_refl _) | ((try simp only [World.size_alloc, World.size_setCell, World.size_drew] at *); omega)))) _) | (refine Mod.trans ?_ (by assumption)))⟩

theorem take_rev {l : List Store} {j : Nat} {s : Store} (h : l[j]? = some s) : (l.take (j + 1)).reverse = s :: (l.take j).reverse := by
  rw [List.take_add_one, h]
  simp
theorem accE_step (s : Store) (e : Int) (m d : Nat) (hd : d < m) : (hasV s (e + ((m : Int) - 1 - d)) = -1 ∧ accE s.width s.value e m (d + 1) = accE s.width s.value e m d) ∨
    (0 ≤ hasV s (e + ((m : Int) - 1 - d)) ∧ hasV s (e + ((m : Int) - 1 - d)) < 256 ∧ accE s.width s.value e m (d + 1) = ((accE s.width s.value e m d).1 * 256 + hasV s (e + ((m : Int) - 1 - d)), (accE s.width s.value e m d).2 + 1)) := by
  by_cases h : e + ((m : Int) - 1 - d) < 0 ∨ s.width ≤ e + ((m : Int) - 1 - d)
  · exact .inl ⟨by rw [hasV, if_pos h], accE_out d h⟩
  · refine .inr ⟨?_, ?_, ?_⟩
    · rw [hasV, if_neg h]; omega
    · rw [hasV, if_neg h]; omega
    · rw [accE, if_neg h, hasV, if_neg h]

theorem refforward_no (w : World) (v : Value) (l : List Store) (a n : Int) (h : Seen w v l) (ha : 0 ≤ a) (ha' : a ≤ 4294967295) (hn : wideB n = false ∨ (wideB n = true ∧ a % n ≠ 0)) :
    Calls Try.prog 13 #[v, .int .u32 a, .int .i64 n] w fun e w' => e = .returned (.tuple #[.int .u32 0, .int .i64 0]) ∧ w' = w := by
  obtain ⟨q, c, rfl, hc⟩ := h.len
  rcases hn with hn | ⟨hn, hm⟩
  · go_enter Try.func13, Try.ntmps13
    go_wp2_with (go_at_call 32; refine (wide_ok _ _).mono ?_; rintro e w1 ⟨rfl, rfl⟩)
    go_ret2
    exact ⟨rfl, rfl⟩
  · have hn' := hn
    simp [wideB] at hn'
    rcases hn' with (rfl | rfl) | rfl
    · exact absurd (Int.emod_one a) hm
    all_goals (
      have hm2 := Lib.hid hm
      clear hm
      go_enter Try.func13, Try.ntmps13
      go_wp2_with (go_at_call 32; refine (wide_ok _ _).mono ?_; rintro e w1 ⟨rfl, rfl⟩)
      all_goals (first
        | (go_ret2; exact ⟨rfl, rfl⟩)
        | (exfalso; have := hm2.out; simp_all)))

section
attribute [-go_sem] Instr.loadAt
attribute [local go_sem 500] run_loadAt_open
set_option maxHeartbeats 2000000 in
theorem refforward_yes (w : World) (v : Value) (l : List Store) (a : Int) (m : Nat) (h : Seen w v l) (hg : ∀ s ∈ l, storeNum s = 0) (hl : l.length ≤ 1000) (ha : 0 ≤ a) (ha' : a ≤ 4294967295) (hm : m = 1 ∨ m = 2 ∨ m = 4) (hal : a % (m : Int) = 0) :
    Calls Try.prog 13 #[v, .int .u32 a, .int .i64 m] w fun e w' => e = .returned (.tuple #[.int .u32 (seek l.reverse a m).1, .int .i64 (seek l.reverse a m).2]) ∧ Mod (fun _ => False) w w' := by
  obtain ⟨q, c, rfl, hc⟩ := h.len
  have hwb : wideB m = true := by rcases hm with rfl | rfl | rfl <;> rfl
  have hm1 : 1 ≤ m := by omega
  have hm4 : m ≤ 4 := by omega
  have hM := Lib.hid hm
  have hal' : (a % (m : Int) != 0) = false := by rw [hal]; rfl
  clear hal hm
  go_enter Try.func13, Try.ntmps13
  go_wp2_with (go_at_call 32; refine (wide_ok _ _).mono ?_; rintro e w1 ⟨rfl, rfl⟩)
  go_loopw [8] (fun i wr => ∃ j : Nat, j ≤ l.length ∧ i = .int .i64 ((j : Int) - 1) ∧ seek l.reverse a m = seek (l.take j).reverse a m ∧ Mod (fun _ => False) w1 wr) (fun i _ => (intOf i + 1).toNat)
  case atStart => exact ⟨l.length, by omega, rfl, by rw [List.take_length], Mod.refl _ _⟩
  case round =>
    obtain ⟨j, hj, rfl, hsk, hmo⟩ := hrel
    obtain ⟨wo, rfl⟩ : ∃ wo : World, wo = wr := ⟨_, rfl⟩
    have HS := Lib.hid hsk
    clear hsk
    cases j with
    | zero =>
      have hz : ((0 : Nat) : Int) - 1 = -1 := rfl
      rw [hz]
      go_wp2_with fail
      go_ret2
      rw [HS.out]
      exact ⟨rfl, hmo⟩
    | succ j =>
      have hz : ((j + 1 : Nat) : Int) - 1 = (j : Int) := by omega
      rw [hz]
      clear hz
      have hj0 : (0 : Int) ≤ (j : Int) := by omega
      have hj1 : (j : Int) < (l.length : Int) := by omega
      obtain ⟨g, o, c', s, hv, hs, hsf, hsr, hcc⟩ := (h.keep0 hmo).at (show j < l.length by omega)
      simp only [Value.slice.injEq, true_and] at hv
      obtain ⟨rfl, rfl⟩ := hv
      have hsg := hg s (List.mem_of_getElem? hs)
      have hsw : 1 ≤ s.width ∧ s.width ≤ 4 := by have := good_width hsg; omega
      have hag := Lib.hid (agrees s hsg hsf (a - s.addr) m hM.out)
      have hrev := Lib.hid (take_rev hs)
      clear hs
      go_wp2_with fail
      go_loopw [9, 10, 11] (fun x y k wx => ∃ d : Nat, d ≤ m ∧ k = .int .i64 ((m : Int) - 1 - d) ∧ x = .int .u32 (accE s.width s.value (a - s.addr) m d).1 ∧ y = .int .i64 (accE s.width s.value (a - s.addr) m d).2 ∧ Mod (fun _ => False) wo wx) (fun _ _ k _ => (intOf k + 1).toNat)
      case atStart => exact ⟨0, by omega, by simp, rfl, rfl, Mod.refl _ _⟩
      case round =>
        obtain ⟨d, hd, rfl, rfl, rfl, hm2⟩ := hrel
        have hbn := accE_num s.width s.value (a - s.addr) m d
        have hbm := accE_le s.width s.value (a - s.addr) m d
        by_cases hlt : d < m
        · have hp : (256 : Int) ^ d ≤ 16777216 := by
            rcases (by omega : d = 0 ∨ d = 1 ∨ d = 2 ∨ d = 3) with rfl | rfl | rfl | rfl <;> decide
          have hst := accE_step s (a - s.addr) m d hlt
          have ht : a + ((m : Int) - 1 - d) - s.addr = (a - s.addr) + ((m : Int) - 1 - d) := by omega
          have hcall := fun (w' : World) => has_ok w' s (a + ((m : Int) - 1 - d)) hsf hsw (by omega) (by omega)
          rw [ht] at hcall
          clear ht
          have hx1 : (accE s.width s.value (a - s.addr) m d).1 ≤ 16777215 := by omega
          have hx0 := hbn.1
          have hlx := load_store_at s g (o + j * 3) wr (hm2.range hsr (fun x => x))
          clear hbn hp
          generalize hasV s (a - s.addr + ((m : Int) - 1 - d)) = cv at *
          generalize hX : accE s.width s.value (a - s.addr) m d = x at *
          have HX := Lib.hid hX
          clear hX
          have hC := Lib.hid hcall
          clear hcall
          have hb1 : (0 : Int) ≤ (m : Int) - 1 - d := by omega
          rcases hst with ⟨hst1, hst2⟩ | ⟨hst0, hst1, hst2⟩
          · have HE := Lib.hid hst2
            subst hst1
            clear hst2
            go_wp2_with fail
            refine (hC.out _).mono ?_
            rintro e w2 ⟨rfl, hm3⟩
            go_wp2_with fail
            go_roundw
            case rel => exact ⟨d + 1, by omega, by go_num, by rw [HE.out], by rw [HE.out], hm2.trans hm3⟩
            case measure => simp [intOf]; omega
          · have HE := Lib.hid hst2
            clear hst2
            go_wp2_with fail
            refine (hC.out _).mono ?_
            rintro e w2 ⟨rfl, hm3⟩
            go_wp2_with fail
            go_roundw
            case rel => exact ⟨d + 1, by omega, by go_num, by rw [HE.out], by rw [HE.out], hm2.trans hm3⟩
            case measure => simp [intOf]; omega
        · obtain rfl : d = m := by omega
          have hz2 : (d : Int) - 1 - d = -1 := by omega
          rw [hz2]
          clear hz2
          have hseek : seek l.reverse a d = seek (s :: (l.take j).reverse) a d := by rw [HS.out, hrev.out]
          rw [seek] at hseek
          rcases hag.out with ⟨o1, o2⟩ | ⟨o1, o2, o3⟩ | ⟨o1, o2⟩
          · rw [o1] at hseek
            have HS2 := Lib.hid hseek
            rw [o2]
            clear hseek o1 o2 HS hag hbm hbn
            have hd0 : ((0 : Int) == (d : Int)) = false := by simp; omega
            go_wp2_with fail
            go_roundw
            case rel => exact ⟨j, by omega, by go_num, HS2.out, hmo.trans hm2⟩
            case measure => simp [intOf]
          · rw [o1] at hseek
            have HS2 := Lib.hid hseek
            have hd0 : ((accE s.width s.value (a - s.addr) d d).2 == (d : Int)) = false := by simp; omega
            clear hseek o1 o3 HS hag hbn
            go_wp2_with fail
            go_ret2
            rw [HS2.out]
            exact ⟨rfl, hmo.trans hm2⟩
          · rw [o2] at hseek
            have HS2 := Lib.hid hseek
            have hd0 : ((accE s.width s.value (a - s.addr) d d).2 == (d : Int)) = true := by rw [o1]; simp
            clear hseek o1 o2 HS hag hbn
            go_wp2_with fail
            go_ret2
            rw [HS2.out]
            exact ⟨rfl, hmo.trans hm2⟩
end
theorem refforward_ok (w : World) (v : Value) (l : List Store) (a n : Int) (h : Seen w v l) (hg : ∀ s ∈ l, storeNum s = 0) (hl : l.length ≤ 1000) (ha : 0 ≤ a) (ha' : a ≤ 4294967295) :
    Calls Try.prog 13 #[v, .int .u32 a, .int .i64 n] w fun e w' => e = .returned (.tuple #[.int .u32 (fwd l a n).1, .int .i64 (fwd l a n).2]) ∧ Mod (fun _ => False) w w' := by
  by_cases hn : wideB n = true ∧ a % n = 0
  · obtain ⟨m, rfl, hm⟩ : ∃ m : Nat, n = m ∧ (m = 1 ∨ m = 2 ∨ m = 4) := by
      have := hn.1
      simp [wideB] at this
      rcases this with (rfl | rfl) | rfl
      · exact ⟨1, rfl, by omega⟩
      · exact ⟨2, rfl, by omega⟩
      · exact ⟨4, rfl, by omega⟩
    have e : fwd l a m = seek l.reverse a m := by rw [fwd, if_pos hn]
    rw [e]
    exact refforward_yes w v l a m h hg hl ha ha' hm hn.2
  · have e : fwd l a n = (0, 0) := by rw [fwd, if_neg hn]
    rw [e]
    refine (refforward_no w v l a n h ha ha' ?_).mono ?_
    · cases hw : wideB n
      · exact .inl rfl
      · exact .inr ⟨rfl, fun h0 => hn ⟨hw, h0⟩⟩
    · rintro e w' ⟨rfl, rfl⟩
      exact ⟨rfl, Mod.refl _ _⟩
end Go.Proofs.Ytknjlmpjkkkilaa
