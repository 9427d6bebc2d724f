/- Contracts of the functions of package image: what each does to memory. -/
import Derived.Test.YtbpjbhcehgeggaaChecked
import Derived.Test.YtbpjbhcehgeggaaBase
namespace Go.Proofs.Ytbpjbhcehgeggaa
open Go.RowKit

theorem under_bytes : Try.prog.underlying 22 = some (.slice 5) := Try.underlying22
theorem info_u8 : (Try.prog.info? 5).map (fun i => (i.zero, i.size, i.bytes)) = some (some (.int .u8 0), 1, 1) := by kernel_rfl

/-- An image at block p whose bytes, bs, lie in block d. -/
structure Img (w : World) (p d : Nat) (bs : List Int) : Prop where
  ex : ∃ cap rest, w.heap[p]? = some (.cells #[.slice (some ⟨d, 0, none⟩) bs.length cap] 49 (0, 0)) ∧
    w.heap[d]? = some (.cells (u8s bs ++ rest).toArray 5 (0, 0)) ∧ (u8s bs ++ rest).length = cap ∧ cap ≤ maxLen
  ne : p ≠ d
  small : bs.length ≤ 4096
  bytes : ∀ x ∈ bs, 0 ≤ x ∧ x ≤ 255

theorem num_any (x : Int) (w : World) : Calls Try.prog 10 #[.int .i64 x] w fun e w' => e = .returned (.int .i64 x) ∧ w = w' := by
  go_enter Try.func10, Try.ntmps10
  go_wp2
  go_ret
  exact ⟨rfl, rfl⟩

theorem none_nil (w : World) : Calls Try.prog 21 #[.pointer none] w fun e w' => e = .returned (.bool true) ∧ w = w' := by
  go_enter Try.func21, Try.ntmps21
  go_wp2
  go_ret
  exact ⟨rfl, rfl⟩

theorem none_not (b : Nat) (a : Addr) (n c : Nat) (w : World) (h : w.cell? ⟨b, 0, none⟩ = some (.slice (some a) n c)) :
    Calls Try.prog 21 #[.pointer (some ⟨b, 0, none⟩)] w fun e w' => e = .returned (.bool false) ∧ w = w' := by
  have hs := Lib.run_eql_slice_nil (P := Try.prog)
  go_enter Try.func21, Try.ntmps21
  go_wp2
  go_ret
  exact ⟨rfl, rfl⟩

/-- image.New at a size that may be. -/
theorem new_ok (n : Nat) (w : World) (h1 : 16 ≤ n) (h2 : n ≤ 4096) (hb : (bits BinOp.and IntKind.i64 (n : Int) ((n : Int) - 1) != 0) = false) :
    Calls Try.prog 16 #[.int .i64 n] w fun e w' => e = .returned (.tuple #[.pointer (some ⟨w.heap.size + 1, 0, none⟩), .int .i64 0]) ∧
      Img w' (w.heap.size + 1) w.heap.size (List.replicate n 0) ∧ Mod (fun _ => False) w w' ∧ w'.heap.size = w.heap.size + 2 := by
  have hmk := fun (wx : World) => run_make_row' (P := Try.prog) (w := wx) 22 5 (.int .u8 0) 1 under_bytes info_u8 rfl .i64 .i64 n (by omega) (by omega)
  go_enter Try.func16, Try.ntmps16
  go_wp2
  go_ret2
  refine ⟨rfl, ⟨⟨n, [], ?_, ?_, by simp, by unfold maxLen; omega⟩, by omega, by simpa using h2, ?_⟩, ((Mod.refl _ _).alloc _).alloc _, by simp⟩
  · have := blk_new (w.alloc (Obj.cells (madeCells #[Value.int IntKind.u8 0] n) 5)) (Obj.cells #[Value.slice (some { block := w.heap.size, off := 0 }) n n] 49)
    simpa using this
  · refine blk_old _ _ ?_
    rw [blk_new]
    have : (madeCells #[Value.int IntKind.u8 0] n) = (u8s (List.replicate n 0)).toArray := by
      apply Array.ext'; rw [toList_madeCells_one]; simp [u8s]
    simp [this]
  · intro x hx; simp at hx; omega

theorem size_any (p d : Nat) (bs : List Int) (w : World) (h : Img w p d bs) : Calls Try.prog 17 #[.pointer (some ⟨p, 0, none⟩)] w fun e w' => e = .returned (.int .i64 bs.length) ∧ w = w' := by
  obtain ⟨cap, rest, h1, -⟩ := h.ex
  have c1 := cell_of w h1 0
  simp at c1
  go_enter Try.func17, Try.ntmps17
  go_wp2
  go_ret
  exact ⟨rfl, rfl⟩

/-- image.Of of bytes that lie in a block g. -/
theorem of_ok (g cap : Nat) (bs : List Int) (rest : List Value) (w : World) (hg : w.heap[g]? = some (.cells (u8s bs ++ rest).toArray 5 (0, 0)))
    (h1 : 16 ≤ bs.length) (h2 : bs.length ≤ 4096) (hb : (bits BinOp.and IntKind.i64 (bs.length : Int) ((bs.length : Int) - 1) != 0) = false) (hbs : ∀ x ∈ bs, 0 ≤ x ∧ x ≤ 255) :
    Calls Try.prog 7 #[.slice (some ⟨g, 0, none⟩) bs.length cap] w fun e w' => e = .returned (.tuple #[.pointer (some ⟨w.heap.size + 1, 0, none⟩), .int .i64 0]) ∧
      Img w' (w.heap.size + 1) w.heap.size bs ∧ Mod (fun _ => False) w w' ∧ w'.heap.size = w.heap.size + 2 := by
  go_enter Try.func7, Try.ntmps7
  go_wp2_with fail
  refine (new_ok bs.length _ h1 h2 hb).mono ?_
  rintro e w1 ⟨rfl, hi, hm, hs⟩
  obtain ⟨cap', rest', e1, e2, e3, e4⟩ := hi.ex
  have c1 := cell_of w1 e1 0
  simp at c1
  have hg1 := hm.at hg (fun x => x)
  have hcp := run_copy_row (P := Try.prog) w1 22 22 3 5 w.heap.size 0 bs.length cap' ⟨g, 0, none⟩ bs.length cap (u8s (List.replicate bs.length 0) ++ rest').toArray 5 (u8s bs)
    under_bytes (by kernel_rfl) e2 (by simp) (src_of hg1) (by simp) (u8s_one bs)
  have e5 : (List.take 0 (u8s (List.replicate bs.length 0) ++ rest') ++ u8s bs ++ List.drop (0 + (u8s bs).length) (u8s (List.replicate bs.length 0) ++ rest')) = u8s bs ++ rest' := by
    simp
  rw [show (u8s (List.replicate bs.length 0) ++ rest').toArray.toList = (u8s (List.replicate bs.length 0) ++ rest') from rfl, e5] at hcp
  clear e5
  go_wp2
  go_ret2
  have hne : w.heap.size + 1 ≠ w.heap.size := by omega
  refine ⟨rfl, ⟨⟨cap', rest', ?_, setRow_heap _ _ _ _ _ _ e2, by simpa using e3, e4⟩, hne, h2, hbs⟩, hm.setRow (.inr (Nat.le_refl _)) _, by simpa using hs⟩
  rw [setRow_other _ _ _ _ hne, e1]
  simp
end Go.Proofs.Ytbpjbhcehgeggaa
