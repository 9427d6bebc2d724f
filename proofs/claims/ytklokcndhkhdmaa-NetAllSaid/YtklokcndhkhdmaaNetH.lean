/- The document's Check; the numbers of errors. -/
import Derived.Test.YtklokcndhkhdmaaNetB
namespace Go.Proofs.Ytklokcndhkhdmaa
open Go.RowKit
set_option linter.unusedVariables false
set_option linter.unusedSimpArgs false

theorem num_ok (w : World) (n : Int) : Calls Try.prog 10 #[.int .i64 n] w fun e w' => e = .returned (.int .i64 n) ∧ w' = w := by
  go_enter Try.func10, Try.ntmps10
  go_wp2
  go_ret
  exact ⟨rfl, rfl⟩
def isCache (n : Int) : Bool := decide (0 ≤ n ∧ n ≤ 3)
theorem isCache_yes {n : Int} (h : 0 ≤ n ∧ n ≤ 3) : isCache n = true := by simp [isCache]; omega
theorem isCache_no {n : Int} (h : n < 0 ∨ 3 < n) : isCache n = false := by simp [isCache]; omega
theorem cache_ok (w : World) (n : Int) : Calls Try.prog 29 #[.int .i64 n] w fun e w' => e = .returned (.bool (isCache n)) ∧ w' = w := by
  go_enter Try.func29, Try.ntmps29
  rcases (by omega : n < 0 ∨ (0 ≤ n ∧ n ≤ 3) ∨ 3 < n) with h | h | h
  · have hr := isCache_no (.inl h)
    go_wp2
    go_ret
    exact ⟨rfl, rfl⟩
  · have hr := isCache_yes h
    obtain ⟨h1, h2⟩ := h
    go_wp2
    go_ret
    exact ⟨by rw [hr]; simp [h2], rfl⟩
  · have hr := isCache_no (.inr h)
    have h0 : 0 ≤ n := by omega
    go_wp2
    go_ret
    exact ⟨by rw [hr]; simp; omega, rfl⟩

section
attribute [local go_sem] cells_0 cells_1 cells_2 cells_3
set_option maxHeartbeats 2000000 in
theorem refcheck_ok (w : World) (m : Msg) (hm : m.Fits) : Calls Try.prog 12 #[.agg m.cells.toArray] w fun e w' => e = .returned (.int .i64 (checkNum m)) ∧ Mod (fun _ => False) w w' := by
  go_enter Try.func12, Try.ntmps12
  go_upto_region 1 with fail
  have hm0 : Mod (fun _ => False) w (w.alloc (Obj.cells m.cells.toArray 26)) := (Mod.refl _ _).alloc _
  have hb := blk_new w (Obj.cells m.cells.toArray 26)
  generalize hw0 : w.alloc (Obj.cells m.cells.toArray 26) = w0 at hm0 hb ⊢
  generalize w.heap.size = b at hb ⊢
  clear hw0
  have hc0 : w0.cell? ⟨b, 0, none⟩ = some (.int .i64 m.kind) := cell_of w0 hb 0
  have hc1 : w0.cell? ⟨b, 1, none⟩ = some (.int .i64 m.fro) := cell_of w0 hb 1
  have hc2 : w0.cell? ⟨b, 2, none⟩ = some (.int .i64 m.to) := cell_of w0 hb 2
  have hr4 : w0.rangeAt b 4 (u8s m.bytes) := fun j v hv => by
    rw [cell_of w0 hb]
    simp only [Msg.cells, List.getElem?_toArray]
    rw [List.getElem?_append_right (by simp)]
    simpa using hv
  clear hb
  have hn16 := neq16 (xs := m.bytes) (ys := zero16) (hx := hm.sixteen) (hy := rfl)
  rw [zero16_cells] at hn16
  have hi16 : (Try.prog.info? 24).map (·.size) = some (u8s m.bytes).length := by rw [info16, u8s_length, hm.sixteen]
  have hkk : ∀ a b : Int, a ≠ b → (a == b) = false := fun a b h => by simpa using h
  go_cut [3] (fun v3 wx => v3 = .bool (hasBytes m.kind) ∧ wx = w0)
  case first =>
    by_cases k3 : m.kind = 3
    · go_wp2; go_meet; case rel => exact ⟨by rw [k3]; rfl, rfl⟩
    by_cases k11 : m.kind = 11
    · go_wp2; go_meet; case rel => exact ⟨by rw [k11]; rfl, rfl⟩
    by_cases k8 : m.kind = 8
    · go_wp2; go_meet; case rel => exact ⟨by rw [k8]; rfl, rfl⟩
    by_cases k9 : m.kind = 9
    · go_wp2; go_meet; case rel => exact ⟨by rw [k9]; rfl, rfl⟩
    have e3 := hkk _ _ k3
    have e11 := hkk _ _ k11
    have e8 := hkk _ _ k8
    have e9 := hkk _ _ k9
    go_wp2; go_meet; case rel => exact ⟨by simp [hasBytes, e3, e11, e8, e9], rfl⟩
  case rest =>
    obtain ⟨rfl, rfl⟩ := hcut
    go_upto_region 2 with fail
    go_cut [3, 34] (fun v3 v34 wx => v3 = .bool (hasBytes m.kind) ∧ v34 = .bool (!hasBytes m.kind && !decide (m.bytes = zero16)) ∧ wx = wc)
    case first =>
      cases hib : hasBytes m.kind
      · go_wp2_with (refine wpL_loadMid rfl 24 _ rfl b 4 rfl _ hr4 Try.underlying24 rfl hi16 ?_)
        go_meet; case rel => exact ⟨by rw [hib], by simp [hib], rfl⟩
      · go_wp2; go_meet; case rel => exact ⟨by rw [hib], by simp [hib], rfl⟩
    case rest =>
      obtain ⟨rfl, rfl, rfl⟩ := hcut
      cases hq : (!hasBytes m.kind && !decide (m.bytes = zero16)) with
      | true =>
        simp only [Bool.and_eq_true, Bool.not_eq_true', decide_eq_false_iff_not] at hq
        have hres := checkNum_bad (m := m) (by simp [msgOk, hq.1, hq.2])
        go_wp2
        go_ret
        exact ⟨by rw [hres]; rfl, hm0⟩
      | false =>
      have hbz : (hasBytes m.kind || m.bytes == zero16) = true := by
        cases h1 : hasBytes m.kind
        · rw [h1] at hq; simpa using hq
        · rfl
      clear hq hr4 hn16 hi16
      by_cases k1 : m.kind = 1
      · have hih : isHome m.kind = true := by rw [k1]; rfl
        rcases (by omega : (m.fro < 0 ∨ 3 < m.fro) ∨ (0 ≤ m.fro ∧ m.fro ≤ 3)) with hf | hf
        · have hca := isCache_no hf
          have hres := checkNum_bad (m := m) (by simp [msgOk, hih]; omega)
          go_wp2_with fail
          refine (cache_ok _ _).mono ?_
          rintro e w1 ⟨rfl, rfl⟩
          go_wp2
          go_ret
          exact ⟨by rw [hres]; rfl, hm0⟩
        · have hca := isCache_yes hf
          by_cases ht : m.to = 4
          · have hres := checkNum_ok (m := m) (by simp only [msgOk, hih, ht, hbz]; simp; omega)
            go_wp2_with fail
            refine (cache_ok _ _).mono ?_
            rintro e w1 ⟨rfl, rfl⟩
            go_wp2
            go_ret
            exact ⟨by rw [hres]; rfl, hm0⟩
          · have hte := hkk _ _ ht
            have hres := checkNum_bad (m := m) (by simp [msgOk, hih, hte])
            go_wp2_with fail
            refine (cache_ok _ _).mono ?_
            rintro e w1 ⟨rfl, rfl⟩
            go_wp2
            go_ret
            exact ⟨by rw [hres]; rfl, hm0⟩
      by_cases k2 : m.kind = 2
      · have hih : isHome m.kind = true := by rw [k2]; rfl
        rcases (by omega : (m.fro < 0 ∨ 3 < m.fro) ∨ (0 ≤ m.fro ∧ m.fro ≤ 3)) with hf | hf
        · have hca := isCache_no hf
          have hres := checkNum_bad (m := m) (by simp [msgOk, hih]; omega)
          go_wp2_with fail
          refine (cache_ok _ _).mono ?_
          rintro e w1 ⟨rfl, rfl⟩
          go_wp2
          go_ret
          exact ⟨by rw [hres]; rfl, hm0⟩
        · have hca := isCache_yes hf
          by_cases ht : m.to = 4
          · have hres := checkNum_ok (m := m) (by simp only [msgOk, hih, ht, hbz]; simp; omega)
            go_wp2_with fail
            refine (cache_ok _ _).mono ?_
            rintro e w1 ⟨rfl, rfl⟩
            go_wp2
            go_ret
            exact ⟨by rw [hres]; rfl, hm0⟩
          · have hte := hkk _ _ ht
            have hres := checkNum_bad (m := m) (by simp [msgOk, hih, hte])
            go_wp2_with fail
            refine (cache_ok _ _).mono ?_
            rintro e w1 ⟨rfl, rfl⟩
            go_wp2
            go_ret
            exact ⟨by rw [hres]; rfl, hm0⟩
      by_cases k3 : m.kind = 3
      · have hih : isHome m.kind = true := by rw [k3]; rfl
        rcases (by omega : (m.fro < 0 ∨ 3 < m.fro) ∨ (0 ≤ m.fro ∧ m.fro ≤ 3)) with hf | hf
        · have hca := isCache_no hf
          have hres := checkNum_bad (m := m) (by simp [msgOk, hih]; omega)
          go_wp2_with fail
          refine (cache_ok _ _).mono ?_
          rintro e w1 ⟨rfl, rfl⟩
          go_wp2
          go_ret
          exact ⟨by rw [hres]; rfl, hm0⟩
        · have hca := isCache_yes hf
          by_cases ht : m.to = 4
          · have hres := checkNum_ok (m := m) (by simp only [msgOk, hih, ht, hbz]; simp; omega)
            go_wp2_with fail
            refine (cache_ok _ _).mono ?_
            rintro e w1 ⟨rfl, rfl⟩
            go_wp2
            go_ret
            exact ⟨by rw [hres]; rfl, hm0⟩
          · have hte := hkk _ _ ht
            have hres := checkNum_bad (m := m) (by simp [msgOk, hih, hte])
            go_wp2_with fail
            refine (cache_ok _ _).mono ?_
            rintro e w1 ⟨rfl, rfl⟩
            go_wp2
            go_ret
            exact ⟨by rw [hres]; rfl, hm0⟩
      by_cases k11 : m.kind = 11
      · have hih : isHome m.kind = true := by rw [k11]; rfl
        rcases (by omega : (m.fro < 0 ∨ 3 < m.fro) ∨ (0 ≤ m.fro ∧ m.fro ≤ 3)) with hf | hf
        · have hca := isCache_no hf
          have hres := checkNum_bad (m := m) (by simp [msgOk, hih]; omega)
          go_wp2_with fail
          refine (cache_ok _ _).mono ?_
          rintro e w1 ⟨rfl, rfl⟩
          go_wp2
          go_ret
          exact ⟨by rw [hres]; rfl, hm0⟩
        · have hca := isCache_yes hf
          by_cases ht : m.to = 4
          · have hres := checkNum_ok (m := m) (by simp only [msgOk, hih, ht, hbz]; simp; omega)
            go_wp2_with fail
            refine (cache_ok _ _).mono ?_
            rintro e w1 ⟨rfl, rfl⟩
            go_wp2
            go_ret
            exact ⟨by rw [hres]; rfl, hm0⟩
          · have hte := hkk _ _ ht
            have hres := checkNum_bad (m := m) (by simp [msgOk, hih, hte])
            go_wp2_with fail
            refine (cache_ok _ _).mono ?_
            rintro e w1 ⟨rfl, rfl⟩
            go_wp2
            go_ret
            exact ⟨by rw [hres]; rfl, hm0⟩
      by_cases k12 : m.kind = 12
      · have hih : isHome m.kind = true := by rw [k12]; rfl
        rcases (by omega : (m.fro < 0 ∨ 3 < m.fro) ∨ (0 ≤ m.fro ∧ m.fro ≤ 3)) with hf | hf
        · have hca := isCache_no hf
          have hres := checkNum_bad (m := m) (by simp [msgOk, hih]; omega)
          go_wp2_with fail
          refine (cache_ok _ _).mono ?_
          rintro e w1 ⟨rfl, rfl⟩
          go_wp2
          go_ret
          exact ⟨by rw [hres]; rfl, hm0⟩
        · have hca := isCache_yes hf
          by_cases ht : m.to = 4
          · have hres := checkNum_ok (m := m) (by simp only [msgOk, hih, ht, hbz]; simp; omega)
            go_wp2_with fail
            refine (cache_ok _ _).mono ?_
            rintro e w1 ⟨rfl, rfl⟩
            go_wp2
            go_ret
            exact ⟨by rw [hres]; rfl, hm0⟩
          · have hte := hkk _ _ ht
            have hres := checkNum_bad (m := m) (by simp [msgOk, hih, hte])
            go_wp2_with fail
            refine (cache_ok _ _).mono ?_
            rintro e w1 ⟨rfl, rfl⟩
            go_wp2
            go_ret
            exact ⟨by rw [hres]; rfl, hm0⟩
      by_cases k13 : m.kind = 13
      · have hih : isHome m.kind = true := by rw [k13]; rfl
        rcases (by omega : (m.fro < 0 ∨ 3 < m.fro) ∨ (0 ≤ m.fro ∧ m.fro ≤ 3)) with hf | hf
        · have hca := isCache_no hf
          have hres := checkNum_bad (m := m) (by simp [msgOk, hih]; omega)
          go_wp2_with fail
          refine (cache_ok _ _).mono ?_
          rintro e w1 ⟨rfl, rfl⟩
          go_wp2
          go_ret
          exact ⟨by rw [hres]; rfl, hm0⟩
        · have hca := isCache_yes hf
          by_cases ht : m.to = 4
          · have hres := checkNum_ok (m := m) (by simp only [msgOk, hih, ht, hbz]; simp; omega)
            go_wp2_with fail
            refine (cache_ok _ _).mono ?_
            rintro e w1 ⟨rfl, rfl⟩
            go_wp2
            go_ret
            exact ⟨by rw [hres]; rfl, hm0⟩
          · have hte := hkk _ _ ht
            have hres := checkNum_bad (m := m) (by simp [msgOk, hih, hte])
            go_wp2_with fail
            refine (cache_ok _ _).mono ?_
            rintro e w1 ⟨rfl, rfl⟩
            go_wp2
            go_ret
            exact ⟨by rw [hres]; rfl, hm0⟩
      by_cases k4 : m.kind = 4
      · have hih : isHome m.kind = false := by rw [k4]; rfl
        have hik : known m.kind = true := by rw [k4]; rfl
        by_cases hf : m.fro = 4
        · rcases (by omega : (m.to < 0 ∨ 3 < m.to) ∨ (0 ≤ m.to ∧ m.to ≤ 3)) with ht | ht
          · have hca := isCache_no ht
            have hres := checkNum_bad (m := m) (by simp [msgOk, hih]; omega)
            go_wp2_with fail
            refine (cache_ok _ _).mono ?_
            rintro e w1 ⟨rfl, rfl⟩
            go_wp2
            go_ret
            exact ⟨by rw [hres]; rfl, hm0⟩
          · have hca := isCache_yes ht
            have hres := checkNum_ok (m := m) (by simp only [msgOk, hih, hik, hf, hbz]; simp; omega)
            go_wp2_with fail
            refine (cache_ok _ _).mono ?_
            rintro e w1 ⟨rfl, rfl⟩
            go_wp2
            go_ret
            exact ⟨by rw [hres]; rfl, hm0⟩
        · have hfe := hkk _ _ hf
          have hres := checkNum_bad (m := m) (by simp [msgOk, hih, hfe])
          go_wp2
          go_ret
          exact ⟨by rw [hres]; rfl, hm0⟩
      by_cases k5 : m.kind = 5
      · have hih : isHome m.kind = false := by rw [k5]; rfl
        have hik : known m.kind = true := by rw [k5]; rfl
        by_cases hf : m.fro = 4
        · rcases (by omega : (m.to < 0 ∨ 3 < m.to) ∨ (0 ≤ m.to ∧ m.to ≤ 3)) with ht | ht
          · have hca := isCache_no ht
            have hres := checkNum_bad (m := m) (by simp [msgOk, hih]; omega)
            go_wp2_with fail
            refine (cache_ok _ _).mono ?_
            rintro e w1 ⟨rfl, rfl⟩
            go_wp2
            go_ret
            exact ⟨by rw [hres]; rfl, hm0⟩
          · have hca := isCache_yes ht
            have hres := checkNum_ok (m := m) (by simp only [msgOk, hih, hik, hf, hbz]; simp; omega)
            go_wp2_with fail
            refine (cache_ok _ _).mono ?_
            rintro e w1 ⟨rfl, rfl⟩
            go_wp2
            go_ret
            exact ⟨by rw [hres]; rfl, hm0⟩
        · have hfe := hkk _ _ hf
          have hres := checkNum_bad (m := m) (by simp [msgOk, hih, hfe])
          go_wp2
          go_ret
          exact ⟨by rw [hres]; rfl, hm0⟩
      by_cases k6 : m.kind = 6
      · have hih : isHome m.kind = false := by rw [k6]; rfl
        have hik : known m.kind = true := by rw [k6]; rfl
        by_cases hf : m.fro = 4
        · rcases (by omega : (m.to < 0 ∨ 3 < m.to) ∨ (0 ≤ m.to ∧ m.to ≤ 3)) with ht | ht
          · have hca := isCache_no ht
            have hres := checkNum_bad (m := m) (by simp [msgOk, hih]; omega)
            go_wp2_with fail
            refine (cache_ok _ _).mono ?_
            rintro e w1 ⟨rfl, rfl⟩
            go_wp2
            go_ret
            exact ⟨by rw [hres]; rfl, hm0⟩
          · have hca := isCache_yes ht
            have hres := checkNum_ok (m := m) (by simp only [msgOk, hih, hik, hf, hbz]; simp; omega)
            go_wp2_with fail
            refine (cache_ok _ _).mono ?_
            rintro e w1 ⟨rfl, rfl⟩
            go_wp2
            go_ret
            exact ⟨by rw [hres]; rfl, hm0⟩
        · have hfe := hkk _ _ hf
          have hres := checkNum_bad (m := m) (by simp [msgOk, hih, hfe])
          go_wp2
          go_ret
          exact ⟨by rw [hres]; rfl, hm0⟩
      by_cases k7 : m.kind = 7
      · have hih : isHome m.kind = false := by rw [k7]; rfl
        have hik : known m.kind = true := by rw [k7]; rfl
        by_cases hf : m.fro = 4
        · rcases (by omega : (m.to < 0 ∨ 3 < m.to) ∨ (0 ≤ m.to ∧ m.to ≤ 3)) with ht | ht
          · have hca := isCache_no ht
            have hres := checkNum_bad (m := m) (by simp [msgOk, hih]; omega)
            go_wp2_with fail
            refine (cache_ok _ _).mono ?_
            rintro e w1 ⟨rfl, rfl⟩
            go_wp2
            go_ret
            exact ⟨by rw [hres]; rfl, hm0⟩
          · have hca := isCache_yes ht
            have hres := checkNum_ok (m := m) (by simp only [msgOk, hih, hik, hf, hbz]; simp; omega)
            go_wp2_with fail
            refine (cache_ok _ _).mono ?_
            rintro e w1 ⟨rfl, rfl⟩
            go_wp2
            go_ret
            exact ⟨by rw [hres]; rfl, hm0⟩
        · have hfe := hkk _ _ hf
          have hres := checkNum_bad (m := m) (by simp [msgOk, hih, hfe])
          go_wp2
          go_ret
          exact ⟨by rw [hres]; rfl, hm0⟩
      by_cases k8 : m.kind = 8
      · have hih : isHome m.kind = false := by rw [k8]; rfl
        have hik : known m.kind = true := by rw [k8]; rfl
        by_cases hf : m.fro = 4
        · rcases (by omega : (m.to < 0 ∨ 3 < m.to) ∨ (0 ≤ m.to ∧ m.to ≤ 3)) with ht | ht
          · have hca := isCache_no ht
            have hres := checkNum_bad (m := m) (by simp [msgOk, hih]; omega)
            go_wp2_with fail
            refine (cache_ok _ _).mono ?_
            rintro e w1 ⟨rfl, rfl⟩
            go_wp2
            go_ret
            exact ⟨by rw [hres]; rfl, hm0⟩
          · have hca := isCache_yes ht
            have hres := checkNum_ok (m := m) (by simp only [msgOk, hih, hik, hf, hbz]; simp; omega)
            go_wp2_with fail
            refine (cache_ok _ _).mono ?_
            rintro e w1 ⟨rfl, rfl⟩
            go_wp2
            go_ret
            exact ⟨by rw [hres]; rfl, hm0⟩
        · have hfe := hkk _ _ hf
          have hres := checkNum_bad (m := m) (by simp [msgOk, hih, hfe])
          go_wp2
          go_ret
          exact ⟨by rw [hres]; rfl, hm0⟩
      by_cases k9 : m.kind = 9
      · have hih : isHome m.kind = false := by rw [k9]; rfl
        have hik : known m.kind = true := by rw [k9]; rfl
        by_cases hf : m.fro = 4
        · rcases (by omega : (m.to < 0 ∨ 3 < m.to) ∨ (0 ≤ m.to ∧ m.to ≤ 3)) with ht | ht
          · have hca := isCache_no ht
            have hres := checkNum_bad (m := m) (by simp [msgOk, hih]; omega)
            go_wp2_with fail
            refine (cache_ok _ _).mono ?_
            rintro e w1 ⟨rfl, rfl⟩
            go_wp2
            go_ret
            exact ⟨by rw [hres]; rfl, hm0⟩
          · have hca := isCache_yes ht
            have hres := checkNum_ok (m := m) (by simp only [msgOk, hih, hik, hf, hbz]; simp; omega)
            go_wp2_with fail
            refine (cache_ok _ _).mono ?_
            rintro e w1 ⟨rfl, rfl⟩
            go_wp2
            go_ret
            exact ⟨by rw [hres]; rfl, hm0⟩
        · have hfe := hkk _ _ hf
          have hres := checkNum_bad (m := m) (by simp [msgOk, hih, hfe])
          go_wp2
          go_ret
          exact ⟨by rw [hres]; rfl, hm0⟩
      by_cases k10 : m.kind = 10
      · have hih : isHome m.kind = false := by rw [k10]; rfl
        have hik : known m.kind = true := by rw [k10]; rfl
        by_cases hf : m.fro = 4
        · rcases (by omega : (m.to < 0 ∨ 3 < m.to) ∨ (0 ≤ m.to ∧ m.to ≤ 3)) with ht | ht
          · have hca := isCache_no ht
            have hres := checkNum_bad (m := m) (by simp [msgOk, hih]; omega)
            go_wp2_with fail
            refine (cache_ok _ _).mono ?_
            rintro e w1 ⟨rfl, rfl⟩
            go_wp2
            go_ret
            exact ⟨by rw [hres]; rfl, hm0⟩
          · have hca := isCache_yes ht
            have hres := checkNum_ok (m := m) (by simp only [msgOk, hih, hik, hf, hbz]; simp; omega)
            go_wp2_with fail
            refine (cache_ok _ _).mono ?_
            rintro e w1 ⟨rfl, rfl⟩
            go_wp2
            go_ret
            exact ⟨by rw [hres]; rfl, hm0⟩
        · have hfe := hkk _ _ hf
          have hres := checkNum_bad (m := m) (by simp [msgOk, hih, hfe])
          go_wp2
          go_ret
          exact ⟨by rw [hres]; rfl, hm0⟩
      have hun : known m.kind = false := by
        simp only [known, decide_eq_false_iff_not]
        omega
      have e1 := hkk _ _ k1
      have e2 := hkk _ _ k2
      have e3 := hkk _ _ k3
      have e4 := hkk _ _ k4
      have e5 := hkk _ _ k5
      have e6 := hkk _ _ k6
      have e7 := hkk _ _ k7
      have e8 := hkk _ _ k8
      have e9 := hkk _ _ k9
      have e10 := hkk _ _ k10
      have e11 := hkk _ _ k11
      have e12 := hkk _ _ k12
      have e13 := hkk _ _ k13
      have hres := checkNum_bad (m := m) (by simp [msgOk, hun, not_home hun])
      go_wp2
      go_ret
      exact ⟨by rw [hres]; rfl, hm0⟩
end
end Go.Proofs.Ytklokcndhkhdmaa
