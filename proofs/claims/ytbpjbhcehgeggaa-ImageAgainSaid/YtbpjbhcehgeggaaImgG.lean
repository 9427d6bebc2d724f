/- Contracts of image's Bytes, Copy, Same. -/
import Derived.Test.YtbpjbhcehgeggaaImgF
namespace Go.Proofs.Ytbpjbhcehgeggaa
open Go.RowKit
set_option linter.unusedVariables false
set_option linter.unusedSimpArgs false
attribute [local go_sem] World.cell? World.frozen? heap_drew
attribute [local go_sem ↓] blk_new

theorem grown_mod {w w' : World} {row : Option Nat} (h : w.grownBy w' row) : Mod (fun k => some k = row) w w' :=
  ⟨h.os, h.tape, h.output, h.size, fun k hk hs => h.block k hk hs⟩

theorem u8_parts : ∃ i, Try.prog.info? 5 = some i ∧ i.zero = some (.int .u8 0) ∧ i.size = 1 ∧ i.bytes = 1 := info_parts info_u8

theorem clone_ok (d cap : Nat) (bs : List Int) (rest : List Value) (w : World) (hd : w.heap[d]? = some (.cells (u8s bs ++ rest).toArray 5 (0, 0))) (hn : bs.length ≤ 4096) (h0 : 0 < bs.length) :
    Calls Try.prog 27 #[.slice (some ⟨d, 0, none⟩) bs.length cap] w fun e w' => ∃ g c rs, e = .returned (.slice (some ⟨g, 0, none⟩) bs.length c) ∧ w.heap.size ≤ g ∧
      w'.heap[g]? = some (.cells (u8s bs ++ rs).toArray 5 (0, 0)) ∧ (u8s bs ++ rs).length = c ∧ c ≤ maxLen ∧ Mod (fun _ => False) w w' := by
  obtain ⟨i, hi, hz, hs1, hb1⟩ := u8_parts
  have hnil := Lib.run_eql_slice_nil (P := Try.prog)
  have hown : (w.alloc (Obj.cells #[] 5)).ownsRow w.heap.size 5 1 (.slice (some ⟨w.heap.size, 0, none⟩) 0 0) 0 [] :=
    World.ownsRow_made w #[] 0 (Nat.le_refl _) (by simp [maxLen]) rfl
  obtain ⟨v', w2, hrun, hown2, hgrow, -⟩ := run_append_own (P := Try.prog) (w.alloc (Obj.cells #[] 5)) w.heap.size 22 22 5 i (.int .u8 0) 1 1 under_bytes hi hz hs1 hb1 rfl (by omega)
    (.slice (some ⟨w.heap.size, 0, none⟩) 0 0) 0 [] hown ⟨d, 0, none⟩ bs.length cap (u8s bs) (by simp) (src_of (blk_old w _ hd)) (u8s_one bs) (by unfold maxLen; omega) (by omega) (by simp)
  simp only [Nat.zero_add, List.nil_append] at hown2
  clear hown
  go_enter Try.func27, Try.ntmps27
  go_wp2_with (at_builtin; refine wpL_append rfl _ _ _ _ rfl _ _ rfl rfl _ rfl _ hrun ?_)
  go_ret
  have hm : Mod (fun _ => False) w w2 := (((Mod.refl (fun _ => False) w).alloc _).mono (T := fun k => k = w.heap.size) (fun _ _ x => x.elim)).trans ((grown_mod hgrow).mono (fun k _ e => by simpa [Value.ownBlock] using e)) |>.mono (fun k hk e => by omega)
  rcases hown2.2 with ⟨-, h1⟩ | ⟨g, c, cur, rfl, hb, hg, hnc, hcm, hcs, htake⟩
  · omega
  · refine ⟨g, c, cur.toList.drop bs.length, rfl, hb, ?_, ?_, hcm, hm⟩
    · rw [hg, ← htake]
      simp
    · rw [← htake]
      simp [hcs]

theorem bytes_ok (p d : Nat) (bs : List Int) (w : World) (h : Img w p d bs) (h0 : 0 < bs.length) :
    Calls Try.prog 22 #[.pointer (some ⟨p, 0, none⟩)] w fun e w' => ∃ g c rs, e = .returned (.slice (some ⟨g, 0, none⟩) bs.length c) ∧ w.heap.size ≤ g ∧
      w'.heap[g]? = some (.cells (u8s bs ++ rs).toArray 5 (0, 0)) ∧ (u8s bs ++ rs).length = c ∧ c ≤ maxLen ∧ Mod (fun _ => False) w w' := by
  obtain ⟨cap, rest, e1, e2, e3, e4⟩ := h.ex
  go_enter Try.func22, Try.ntmps22
  go_wp2_with (go_at_call 21; refine (none_not p _ _ _ _ (by rw [cell_of w e1]; rfl)).mono ?_; rintro e w' ⟨rfl, rfl⟩)
  refine (clone_ok d cap bs rest _ e2 h.small h0).mono ?_
  rintro e w1 ⟨g, c, rs, rfl, k1, k2, k3, k4, k5⟩
  go_wp2_with fail
  go_ret
  exact ⟨g, c, rs, rfl, k1, k2, k3, k4, k5⟩

theorem copy_ok (p d : Nat) (bs : List Int) (w : World) (h : Img w p d bs) (h0 : 0 < bs.length) :
    Calls Try.prog 12 #[.pointer (some ⟨p, 0, none⟩)] w fun e w' => ∃ p' d', e = .returned (.pointer (some ⟨p', 0, none⟩)) ∧ w.heap.size ≤ p' ∧ w.heap.size ≤ d' ∧
      Img w' p' d' bs ∧ Mod (fun _ => False) w w' := by
  obtain ⟨cap, rest, e1, e2, e3, e4⟩ := h.ex
  go_enter Try.func12, Try.ntmps12
  go_wp2_with (go_at_call 21; refine (none_not p _ _ _ _ (by rw [cell_of w e1]; rfl)).mono ?_; rintro e w' ⟨rfl, rfl⟩)
  refine (bytes_ok p d bs _ h h0).mono ?_
  rintro e w1 ⟨g, c, rs, rfl, k1, k2, k3, k4, k5⟩
  go_wp2_with fail
  go_ret
  have hsz := k5.size
  refine ⟨_, g, rfl, hsz, k1, ⟨⟨c, rs, blk_new _ _, blk_old _ _ k2, k3, k4⟩, by have := lt_of_block k2; omega, h.small, h.bytes⟩, k5.alloc _⟩

theorem strOf_inj : ∀ (xs ys : List Int), (∀ x ∈ xs, 0 ≤ x ∧ x ≤ 255) → (∀ x ∈ ys, 0 ≤ x ∧ x ≤ 255) → strOfNums xs = strOfNums ys → xs = ys := by
  intro xs ys hx hy h
  have h' : (xs.map fun n => UInt8.ofNat n.toNat) = (ys.map fun n => UInt8.ofNat n.toNat) := by
    rw [← strOfNums_data, ← strOfNums_data, h]
  clear h
  induction xs generalizing ys with
  | nil => cases ys with
    | nil => rfl
    | cons y ys => simp at h'
  | cons x xs ih => cases ys with
    | nil => simp at h'
    | cons y ys =>
      simp only [List.map_cons, List.cons.injEq] at h'
      have h1 := hx x (by simp)
      have h2 := hy y (by simp)
      have e : x = y := by
        have := congrArg UInt8.toNat h'.1
        simp at this
        omega
      rw [e, ih ys (fun z hz => hx z (by simp [hz])) (fun z hz => hy z (by simp [hz])) h'.2]

theorem equal_ok (d1 d2 c1 c2 : Nat) (b1 b2 : List Int) (r1 r2 : List Value) (w : World) (h1 : w.heap[d1]? = some (.cells (u8s b1 ++ r1).toArray 5 (0, 0))) (h2 : w.heap[d2]? = some (.cells (u8s b2 ++ r2).toArray 5 (0, 0)))
    (hb1 : ∀ x ∈ b1, 0 ≤ x ∧ x ≤ 255) (hb2 : ∀ x ∈ b2, 0 ≤ x ∧ x ≤ 255) :
    Calls Try.prog 26 #[.slice (some ⟨d1, 0, none⟩) b1.length c1, .slice (some ⟨d2, 0, none⟩) b2.length c2] w fun e w' => e = .returned (.bool (decide (b1 = b2))) ∧ w' = w := by
  have q1 := run_convert_bytes_arg (P := Try.prog) w 22 5 under_bytes Try.underlying5 d1 0 b1.length c1 b1 rfl (fun i hi => by rw [cell_of w h1]; simp [List.getElem?_append_left, hi, u8s]) 9 Try.underlying9
  have q2 := run_convert_bytes_arg (P := Try.prog) w 22 5 under_bytes Try.underlying5 d2 0 b2.length c2 b2 rfl (fun i hi => by rw [cell_of w h2]; simp [List.getElem?_append_left, hi, u8s]) 9 Try.underlying9
  have hd : ((strOfNums b1).toList == (strOfNums b2).toList) = decide (b1 = b2) := by
    by_cases e : b1 = b2
    · subst e; simp
    · have : (strOfNums b1).toList ≠ (strOfNums b2).toList := fun q => e (strOf_inj b1 b2 hb1 hb2 (by
        rw [ByteArray.toList_eq, ByteArray.toList_eq] at q; exact ByteArray.ext (Array.ext' q)))
      simp [e, this]
  go_enter Try.func26, Try.ntmps26
  go_wp2_with fail
  go_ret
  exact ⟨rfl, rfl⟩

theorem same_ok (p1 d1 p2 d2 : Nat) (b1 b2 : List Int) (w : World) (h1 : Img w p1 d1 b1) (h2 : Img w p2 d2 b2) :
    Calls Try.prog 15 #[.pointer (some ⟨p1, 0, none⟩), .pointer (some ⟨p2, 0, none⟩)] w fun e w' => e = .returned (.bool (decide (b1 = b2))) ∧ Mod (fun _ => False) w w' := by
  obtain ⟨ca1, re1, x1, x2, x3, x4⟩ := h1.ex
  obtain ⟨ca2, re2, y1, y2, y3, y4⟩ := h2.ex
  go_enter Try.func15, Try.ntmps15
  go_wp2_with fail
  refine (none_not p1 _ _ _ _ (by rw [cell_of w x1]; rfl)).mono ?_
  rintro e w' ⟨rfl, rfl⟩
  go_wp2_with fail
  refine (none_not p2 _ _ _ _ (by rw [cell_of w y1]; rfl)).mono ?_
  rintro e w' ⟨rfl, rfl⟩
  go_wp2_with fail
  go_quiet ((go_at_call 26; exact Calls.quiet_of_same (equal_ok d1 d2 ca1 ca2 b1 b2 re1 re2 _ x2 y2 h1.bytes h2.bytes)))
  go_wp2_with fail
  go_ret
  exact ⟨rfl, ⟨rfl, rfl, rfl, Nat.le_refl _, fun _ _ _ => rfl⟩⟩
end Go.Proofs.Ytbpjbhcehgeggaa
