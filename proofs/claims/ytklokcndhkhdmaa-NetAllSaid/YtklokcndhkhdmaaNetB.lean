/- The net's Check: which messages may be. -/
import Derived.Test.YtklokcndhkhdmaaNetA
import Derived.Test.YtklokcndhkhdmaaRowA
namespace Go.Proofs.Ytklokcndhkhdmaa
open Go.RowKit
set_option linter.unusedVariables false
set_option linter.unusedSimpArgs false

def msgOk (m : Msg) : Bool := (if isHome m.kind then m.to == 4 && decide (0 ≤ m.fro ∧ m.fro ≤ 3) else known m.kind && m.fro == 4 && decide (0 ≤ m.to ∧ m.to ≤ 3)) && (hasBytes m.kind || m.bytes == zero16)

def checkNum (m : Msg) : Int := if msgOk m then 0 else 2
theorem checkNum_bad {m : Msg} (h : msgOk m = false) : checkNum m = 2 := by simp [checkNum, h]
theorem checkNum_ok {m : Msg} (h : msgOk m = true) : checkNum m = 0 := by simp [checkNum, h]

theorem not_home {k : Int} (h : known k = false) : isHome k = false := by
  simp [known] at h
  simp [isHome]
  omega

theorem neq16 (w : World) (xs ys : List Int) (hx : xs.length = 16) (hy : ys.length = 16) :
    (binOp .neq 24 (.agg (u8s xs).toArray) (.agg (u8s ys).toArray)).run Try.prog w = .ok (.bool (!decide (xs = ys))) w :=
  run_neq_ints w 24 5 16 .u8 .u8 Try.underlying24 Try.underlying5 (by kernel_rfl) xs ys hx hy
theorem info16 : (Try.prog.info? 24).map (·.size) = some 16 := by kernel_rfl

theorem cells_0 (m : Msg) : m.cells[0]? = some (.int .i64 m.kind) := rfl
theorem cells_1 (m : Msg) : m.cells[1]? = some (.int .i64 m.fro) := rfl
theorem cells_2 (m : Msg) : m.cells[2]? = some (.int .i64 m.to) := rfl
theorem cells_3 (m : Msg) : m.cells[3]? = some (.int .u32 m.line) := rfl

theorem wants_ok' (w : World) : Calls Try.prog 28 #[] w fun e w' => ∃ r, e = .returned (.map (some r)) ∧ Mod (fun _ => False) w w' ∧ w'.heap[r]? = some wantsMap ∧ Old w' r :=
  (wants_ok w).mono (by rintro e w' ⟨rfl, rfl⟩; exact ⟨_, rfl, (Mod.refl _ _).alloc _, blk_new _ _, by simp [Old]⟩)

/-- What the region holds: nothing that was there has changed, and so a cell that was there is as it was. -/
theorem keep1 {w0 w' : World} {a : Addr} {v : Value} (hb : w0.cell? a = some v) (h : Mod (fun _ => False) w0 w') : Mod (fun _ => False) w0 w' ∧ w'.cell? a = some v := ⟨h, h.cell hb (fun x => x)⟩

theorem keepR {w0 w' : World} {b o : Nat} {cs : List Value} (hb : w0.rangeAt b o cs) (h : Mod (fun _ => False) w0 w') : Mod (fun _ => False) w0 w' ∧ w'.rangeAt b o cs := ⟨h, h.range hb (fun x => x)⟩

section
attribute [local go_sem] cells_0 cells_1 cells_2 cells_3 wants_look blk_past wantV heap_drew
set_option maxHeartbeats 1000000 in
theorem check_ok (w : World) (m : Msg) (hm : m.Fits) : Calls Try.prog 11 #[.agg m.cells.toArray] w fun e w' => e = .returned (.int .i64 (checkNum m)) ∧ Mod (fun _ => False) w w' := by
  go_enter Try.func11, Try.ntmps11
  go_upto_region 1 with fail
  have hm0 : Mod (fun _ => False) w (w.alloc (Obj.cells m.cells.toArray 26)) := (Mod.refl _ _).alloc _
  have hb := blk_new w (Obj.cells m.cells.toArray 26)
  generalize hw0 : w.alloc (Obj.cells m.cells.toArray 26) = w0 at hm0 hb ⊢
  generalize w.heap.size = b at hb ⊢
  clear hw0
  have hc0 : w0.cell? ⟨b, 0, none⟩ = some (.int .i64 m.kind) := cell_of w0 hb 0
  have hc1 : w0.cell? ⟨b, 1, none⟩ = some (.int .i64 m.fro) := cell_of w0 hb 1
  have hc2 : w0.cell? ⟨b, 2, none⟩ = some (.int .i64 m.to) := cell_of w0 hb 2
  have hr4 : w0.rangeAt b 4 (u8s m.bytes) := fun j v hv => by
    rw [cell_of w0 hb]
    simp only [Msg.cells, List.getElem?_toArray]
    rw [List.getElem?_append_right (by simp)]
    simpa using hv
  clear hb
  go_cut [3, 4] (fun v3 v4 wx => ∃ x, v3 = .pointer (some ⟨x, 0, none⟩) ∧ v4 = .bool (known m.kind) ∧ Mod (fun _ => False) w0 wx ∧
    wx.cell? ⟨x, 0, none⟩ = some (.bool (isHome m.kind)) ∧ wx.cell? ⟨x, 1, none⟩ = some (.bool (hasBytes m.kind)))
  case first =>
    go_region_held3 (fun w' => Mod (fun _ => False) w0 w' ∧ w'.cell? ⟨b, 0, none⟩ = some (.int .i64 m.kind)) ((go_split_ands; refine keep1 hc0 ?_; (repeat first | exact Mod.refl _ _ | assumption | apply Mod.drew | apply Mod.drewN | apply Mod.alloc | (refine Mod.setCell ?_ (Or.inr (by (first | (with_reducible exact Nat.le_refl _) | ((try simp only [World.size_alloc, World.size_setCell, World.size_drew] at *); omega)))) _) | (refine Mod.trans ?_ (by assumption)))))
      ((go_at_call 28; refine (wants_ok' _).mono ?_; rintro e w1 ⟨r, rfl, hmw, hr, hrs⟩
        have hsz1 := hmw.size
        try (have hnew := hmw.at (show (World.drew _).heap[_]? = _ from blk_new _ _) (fun x => x)
             have hn0 := cell_of w1 hnew 0
             have hn1 := cell_of w1 hnew 1
             have hf0 := free_of w1 hnew 0
             have hf1 := free_of w1 hnew 1
             simp only [List.getElem?_toArray, List.getElem?_cons_zero, List.getElem?_cons_succ] at hn0 hn1)))
    all_goals (go_wp2_with fail; go_split_ands; go_meet; case rel => exact ⟨_, rfl, rfl, by assumption, by go_simp, by go_simp⟩)
  case rest =>
    obtain ⟨x, rfl, rfl, hm1, d0, d1⟩ := hcut
    replace hc1 := hm1.cell hc1 (fun x => x)
    replace hc2 := hm1.cell hc2 (fun x => x)
    replace hr4 := hm1.range hr4 (fun x => x)
    have hmf := hm0.trans hm1
    clear hc0 hm1 hm0
    have hn16 := neq16 (xs := m.bytes) (ys := zero16) (hx := hm.sixteen) (hy := rfl)
    rw [zero16_cells] at hn16
    have hi16 : (Try.prog.info? 24).map (·.size) = some (u8s m.bytes).length := by rw [info16, u8s_length, hm.sixteen]
    cases hik : known m.kind
    · have hres := checkNum_bad (m := m) (by simp [msgOk, hik, not_home hik])
      go_wp2
      go_ret
      exact ⟨by rw [hres]; rfl, hmf⟩
    cases hih : isHome m.kind
    · rcases (by omega : m.fro = 4 ∨ m.fro ≠ 4) with hf | hf
      · rcases (by omega : m.to < 0 ∨ (0 ≤ m.to ∧ m.to < 4) ∨ 4 ≤ m.to) with ht | ht | ht
        · have hres := checkNum_bad (m := m) (by simp [msgOk, hih]; omega)
          go_wp2
          go_ret
          exact ⟨by rw [hres]; rfl, hmf⟩
        · cases hib : hasBytes m.kind
          · by_cases hz : m.bytes = zero16
            · have hz' : decide (m.bytes = zero16) = true := by simpa using hz
              have hres := checkNum_ok (m := m) (by simp [msgOk, hih, hik, hf, hz]; omega)
              clear hz
              go_wp2_with (refine wpL_loadMid rfl 24 _ rfl b 4 rfl _ hr4 Try.underlying24 rfl hi16 ?_)
              go_ret
              exact ⟨by rw [hres]; rfl, hmf⟩
            · have hz' : decide (m.bytes = zero16) = false := by simpa using hz
              have hres := checkNum_bad (m := m) (by simp [msgOk, hib, hz])
              clear hz
              go_wp2_with (refine wpL_loadMid rfl 24 _ rfl b 4 rfl _ hr4 Try.underlying24 rfl hi16 ?_)
              go_ret
              exact ⟨by rw [hres]; rfl, hmf⟩
          · have hres := checkNum_ok (m := m) (by simp [msgOk, hih, hik, hf, hib]; omega)
            go_wp2
            go_ret
            exact ⟨by rw [hres]; rfl, hmf⟩
        · have hres := checkNum_bad (m := m) (by simp [msgOk, hih]; omega)
          go_wp2
          go_ret
          exact ⟨by rw [hres]; rfl, hmf⟩
      · have hres := checkNum_bad (m := m) (by simp [msgOk, hih, hf])
        go_wp2
        go_ret
        exact ⟨by rw [hres]; rfl, hmf⟩
    · rcases (by omega : m.to = 4 ∨ m.to ≠ 4) with hf | hf
      · rcases (by omega : m.fro < 0 ∨ (0 ≤ m.fro ∧ m.fro < 4) ∨ 4 ≤ m.fro) with ht | ht | ht
        · have hres := checkNum_bad (m := m) (by simp [msgOk, hih]; omega)
          go_wp2
          go_ret
          exact ⟨by rw [hres]; rfl, hmf⟩
        · cases hib : hasBytes m.kind
          · by_cases hz : m.bytes = zero16
            · have hz' : decide (m.bytes = zero16) = true := by simpa using hz
              have hres := checkNum_ok (m := m) (by simp [msgOk, hih, hik, hf, hz]; omega)
              clear hz
              go_wp2_with (refine wpL_loadMid rfl 24 _ rfl b 4 rfl _ hr4 Try.underlying24 rfl hi16 ?_)
              go_ret
              exact ⟨by rw [hres]; rfl, hmf⟩
            · have hz' : decide (m.bytes = zero16) = false := by simpa using hz
              have hres := checkNum_bad (m := m) (by simp [msgOk, hib, hz])
              clear hz
              go_wp2_with (refine wpL_loadMid rfl 24 _ rfl b 4 rfl _ hr4 Try.underlying24 rfl hi16 ?_)
              go_ret
              exact ⟨by rw [hres]; rfl, hmf⟩
          · have hres := checkNum_ok (m := m) (by simp [msgOk, hih, hik, hf, hib]; omega)
            go_wp2
            go_ret
            exact ⟨by rw [hres]; rfl, hmf⟩
        · have hres := checkNum_bad (m := m) (by simp [msgOk, hih]; omega)
          go_wp2
          go_ret
          exact ⟨by rw [hres]; rfl, hmf⟩
      · have hres := checkNum_bad (m := m) (by simp [msgOk, hih, hf])
        go_wp2
        go_ret
        exact ⟨by rw [hres]; rfl, hmf⟩
end
end Go.Proofs.Ytklokcndhkhdmaa
