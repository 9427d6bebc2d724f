/- The reference's line, the law's own example, and what a law on images is told of its arguments. -/
import Derived.Test.YtbpjbhcehgeggaaImgL
namespace Go.Proofs.Ytbpjbhcehgeggaa
open Go.RowKit
set_option linter.unusedVariables false
set_option linter.unusedSimpArgs false

theorem store_list (n : Nat) (ls : List Int) (j : Nat) (x : Int) (hj : j < n) (hl : ls.length = n) (m : List Int) (hm : m.length = n) (hx : ls[j]? = some x) :
    (over m 0 (ls.take j)).set j x = over m 0 (ls.take (j + 1)) := by
  have hjl : j < ls.length := by omega
  have h1 : (ls.take j).length = j := by simp; omega
  have := over_set m 0 (ls.take j) x (by omega)
  rw [h1, Nat.zero_add] at this
  rw [this, List.take_succ_eq_append_getElem hjl]
  simp [List.getElem?_eq_getElem hjl] at hx
  rw [hx]

theorem refline_ok (g k cap : Nat) (bs : List Int) (w : World) (hg : w.heap[g]? = some (.cells (u8s bs).toArray 5 (0, 0))) (hk : k < bs.length / 16) (hn : bs.length ≤ 4096) :
    Calls Try.prog 11 #[.slice (some ⟨g, 0, none⟩) bs.length cap, .int .u32 k] w fun e w' => e = .returned (.agg (u8s ((bs.drop (k * 16)).take 16)).toArray) ∧ Mod (fun _ => False) w w' := by
  have hsl : ((bs.drop (k * 16)).take 16).length = 16 := by simp; omega
  have hm0 : Mod (fun _ => False) w ((w.alloc (Obj.cells (u8s zero16).toArray 24)).alloc (Obj.cells (u8s zero16).toArray 24)) := ((Mod.refl _ _).alloc _).alloc _
  have hb0 : ((w.alloc (Obj.cells (u8s zero16).toArray 24)).alloc (Obj.cells (u8s zero16).toArray 24)).heap[w.heap.size]? = some (.cells (u8s zero16).toArray 24 (0, 0)) := blk_old _ _ (blk_new _ _)
  have hb1 : ((w.alloc (Obj.cells (u8s zero16).toArray 24)).alloc (Obj.cells (u8s zero16).toArray 24)).heap[w.heap.size + 1]? = some (.cells (u8s zero16).toArray 24 (0, 0)) := by
    have := blk_new (w.alloc (Obj.cells (u8s zero16).toArray 24)) (Obj.cells (u8s zero16).toArray 24)
    simpa using this
  have hglt := lt_of_block hg
  obtain ⟨ls, hls⟩ : ∃ ls, ls = (bs.drop (k * 16)).take 16 := ⟨_, rfl⟩
  rw [← hls] at hsl ⊢
  have hget : ∀ j, j < 16 → ∃ x, ls[j]? = some x ∧ bs[16 * k + j]? = some x := by
    intro j hj
    refine ⟨ls[j], List.getElem?_eq_getElem (by omega), ?_⟩
    have e : ls[j]? = some ls[j] := List.getElem?_eq_getElem (by omega)
    rw [← e, hls, List.getElem?_take_of_lt hj, List.getElem?_drop, Nat.mul_comm]
  clear hls
  go_enter Try.func11, Try.ntmps11
  go_wp2_with fail
  rw [← zero16_cells]
  generalize (w.alloc (Obj.cells (u8s zero16).toArray 24)).alloc (Obj.cells (u8s zero16).toArray 24) = w1 at *
  go_loopw [6] (fun i wr => ∃ j : Nat, j ≤ 16 ∧ i = .int .i64 j ∧ wr.heap[w.heap.size + 1]? = some (.cells (u8s (over zero16 0 (ls.take j))).toArray 24 (0, 0)) ∧ Mod (fun x => x = w.heap.size + 1) w1 wr) (fun i _ => 16 - (intOf i).toNat)
  case atStart => exact ⟨0, by omega, rfl, by simpa [over] using hb1, Mod.refl _ _⟩
  case round =>
    obtain ⟨j, hj, rfl, hc, hmo⟩ := hrel
    have hg1 := hmo.at (hm0.at hg (fun x => x)) (by omega)
    have hb2 := hmo.at hb0 (by omega)
    by_cases hlt : j < 16
    · obtain ⟨x, hx1, hx2⟩ := hget j hlt
      have hkj : 16 * k + j < bs.length := by omega
      have c1 := cell_of wr hg1 (16 * k + j)
      rw [show (u8s bs).toArray[16 * k + j]? = some (.int .u8 x) by simp [u8s, hx2]] at c1
      have hov : (over zero16 0 (ls.take j)).length = 16 := over_length _ _ _ (by simp; simp [zero16]; omega)
      obtain ⟨y, c2⟩ : ∃ y, wr.cell? ⟨w.heap.size + 1, j, none⟩ = some y := ⟨_, by rw [cell_of wr hc]; simp only [List.getElem?_toArray]; exact List.getElem?_eq_getElem (by simp; omega)⟩
      have c3 := free_of wr hc j
      have hst := store_list 16 ls j x hlt hsl zero16 rfl hx1
      have HS := Lib.hid hst
      clear hst hget hov hx1 hx2
      go_wp2_with fail
      go_roundw
      case rel =>
        refine ⟨j + 1, by omega, by go_num, ?_, hmo.setCell (.inl rfl) _⟩
        rw [heap_setCell_same _ _ _ _ _ _ hc, ← HS.out]
        simp [u8s, List.map_set]
      case measure => simp [intOf]; omega
    · obtain rfl : j = 16 := by omega
      have hov : over zero16 0 (ls.take 16) = ls := by
        rw [List.take_of_length_le (by omega)]; simp [over, hsl, zero16]
      rw [hov] at hc
      have hl : (u8s ls).toArray.size = 16 := by simp [hsl]
      clear hget hov
      go_wp2_with (first
        | (refine wpL_load rfl 24 _ rfl (w.heap.size + 1) rfl _ hc Try.underlying24 rfl 16 size16 hl ?_)
        | (refine wpL_store rfl 24 _ _ rfl (w.heap.size) rfl _ rfl _ hb2 16 size16 hl rfl (u8s_one _) ?_))
      have hb3 := setRow_heap wr w.heap.size _ (u8s ls).toArray _ _ hb2
      refine bodyPost_ret (v := .agg (u8s ls).toArray) (results_cell_row Try.results11 _ _ w.heap.size 24 _ _ _ rfl hb3 Try.underlying24 rfl (by rw [size16, hl])) rfl ⟨rfl, ?_⟩
      exact (((hm0.mono (T := fun x => x = w.heap.size + 1) (fun _ _ x => x.elim)).trans hmo).mono (fun k hk e => by omega)).setRow (.inr (Nat.le_refl _)) _

/-- The law's own example. -/
theorem works_ok (w : World) : Calls Try.prog 5 #[] w fun e w' => e = .returned (.bool true) ∧ Mod (fun _ => False) w w' := by
  go_enter Try.func5, Try.ntmps5
  go_wp2_with fail
  refine (new_ok 16 w (by omega) (by omega) (by decide)).mono ?_
  rintro e w1 ⟨rfl, hi, hm, hs⟩
  go_wp2_with fail
  refine (write_yes (w.heap.size + 1) w.heap.size 4 4 305419896 _ _ hi (.inr (.inr rfl)) rfl (by simp) (by omega) (by omega)).mono ?_
  rintro e w2 ⟨rfl, hi2, hm2⟩
  have hi2' : Img w2 (w.heap.size + 1) w.heap.size [0, 0, 0, 0, 120, 86, 52, 18, 0, 0, 0, 0, 0, 0, 0, 0] := hi2
  clear hi2
  go_wp2_with fail
  refine (read_yes (w.heap.size + 1) w.heap.size 4 1 _ _ hi2' (.inl rfl) rfl (by simp)).mono ?_
  rintro e w3 ⟨rfl, hm3⟩
  have hi3 := hi2'.keep hm3 (fun x => x) (fun x => x)
  simp only [List.drop_succ_cons, List.drop_zero, List.take_succ_cons, List.take_zero, leSum]
  go_wp2_with fail
  refine (read_yes (w.heap.size + 1) w.heap.size 6 2 _ _ hi3 (.inr (.inl rfl)) rfl (by simp)).mono ?_
  rintro e w4 ⟨rfl, hm4⟩
  have hi4 := hi3.keep hm4 (fun x => x) (fun x => x)
  simp only [List.drop_succ_cons, List.drop_zero, List.take_succ_cons, List.take_zero, leSum]
  go_wp2_with fail
  refine (read_no (w.heap.size + 1) w.heap.size 2 4 120 _ _ hi4 (by omega) (by omega) (by decide) (by omega)).mono ?_
  rintro e w5 ⟨rfl, hm5⟩
  have hi5 := hi4.keep hm5 (fun x => x) (fun x => x)
  go_wp2_with (first
    | (go_at_call 10; refine (num_any _ _).mono ?_; rintro e w' ⟨rfl, rfl⟩)
    | (go_at_call 17; refine (size_any _ _ _ _ hi5).mono ?_; rintro e w' ⟨rfl, rfl⟩))
  go_ret
  refine ⟨rfl, ?_⟩
  exact ((((hm.mono (T := fun x => x = w.heap.size) (fun _ _ x => x.elim)).trans hm2).mono (T := fun _ => False) (fun k hk e => by omega)).trans hm3).trans (hm4.trans hm5)
end Go.Proofs.Ytbpjbhcehgeggaa
