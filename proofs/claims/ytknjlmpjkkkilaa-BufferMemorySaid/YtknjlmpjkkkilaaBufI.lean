/- The buffer's Forward: a range over its back (printed by a program of mine). -/
import Derived.Test.YtknjlmpjkkkilaaBufH
import Derived.Test.YtknjlmpjkkkilaaBr
namespace Go.Proofs.Ytknjlmpjkkkilaa
open Go.RowKit Go.Shelf
set_option linter.unusedVariables false
set_option linter.unusedSimpArgs false

theorem allocs5 (w : World) (a b c d e : Obj) : (((((w.alloc a).alloc b).alloc c).alloc d).alloc e).heap[w.heap.size]? = some a ∧ (((((w.alloc a).alloc b).alloc c).alloc d).alloc e).heap[w.heap.size + 1]? = some b ∧ (((((w.alloc a).alloc b).alloc c).alloc d).alloc e).heap[w.heap.size + 1 + 1]? = some c ∧
    (((((w.alloc a).alloc b).alloc c).alloc d).alloc e).heap[w.heap.size + 1 + 1 + 1]? = some d ∧ (((((w.alloc a).alloc b).alloc c).alloc d).alloc e).heap[w.heap.size + 1 + 1 + 1 + 1]? = some e ∧ Mod (fun _ => False) w (((((w.alloc a).alloc b).alloc c).alloc d).alloc e) := by
  obtain ⟨h1, h2, h3, h4⟩ := allocs3 w a b c
  obtain ⟨k1, k2, k4⟩ := allocs2 (((w.alloc a).alloc b).alloc c) d e
  simp only [World.size_alloc] at k1 k2
  exact ⟨k4.at h1 (fun x => x), k4.at h2 (fun x => x), k4.at h3 (fun x => x), k1, k2, h4.trans k4⟩
theorem own_at {A B : World} {row : Option Nat} (hg : A.grownBy B row) (hr : ∀ r, row = some r → ∃ o, A.heap[r]? = some o ∧ o.isCells = false) {k : Nat} {cs : Array Value} {t : TypeId} {fr : Nat × Nat} (h : A.heap[k]? = some (.cells cs t fr)) : B.heap[k]? = some (.cells cs t fr) := by
  refine (Mod.of_grown hg).at h ?_
  intro e
  obtain ⟨o, h1, h2⟩ := hr k e
  rw [h] at h1
  cases h1
  cases h2
/-- Forward's own cells. -/
structure Fw (a n : Int) (b5 b6 b7 b8 : Nat) (W0 W : World) : Prop where
  h5 : W.heap[b5]? = some (.cells #[.int .i64 n] 3 (0, 0))
  h6 : W.heap[b6]? = some (.cells #[.int .u32 0] 22 (0, 0))
  h7 : W.heap[b7]? = some (.cells #[.int .i64 0] 29 (0, 0))
  h8 : W.heap[b8]? = some (.cells #[.int .u32 a, .int .i64 n, .int .u32 0] 60 (0, 0))
  size : W0.heap.size ≤ W.heap.size
theorem Fw.own {a n : Int} {b5 b6 b7 b8 : Nat} {W0 A B : World} (h : Fw a n b5 b6 b7 b8 W0 A) {row : Option Nat} (hg : A.grownBy B row) (hr : ∀ r, row = some r → ∃ o, A.heap[r]? = some o ∧ o.isCells = false) : Fw a n b5 b6 b7 b8 W0 B :=
  ⟨own_at hg hr h.h5, own_at hg hr h.h6, own_at hg hr h.h7, own_at hg hr h.h8, Nat.le_trans h.size (Mod.of_grown hg).size⟩
theorem Fw.keep0 {a n : Int} {b5 b6 b7 b8 : Nat} {W0 A B : World} (h : Fw a n b5 b6 b7 b8 W0 A) (hm : Mod (fun _ => False) A B) : Fw a n b5 b6 b7 b8 W0 B :=
  ⟨hm.at h.h5 (fun x => x), hm.at h.h6 (fun x => x), hm.at h.h7 (fun x => x), hm.at h.h8 (fun x => x), Nat.le_trans h.size hm.size⟩

theorem keepsFrom_of {A B : World} {b6 b7 B0 : Nat} {c6 c7 : Array Value} {t6 t7 : TypeId} {r6 r7 : Nat × Nat} (hm : Mod (fun k => k = b6 ∨ k = b7) A B) (h6 : A.heap[b6]? = some (.cells c6 t6 r6)) (h7 : A.heap[b7]? = some (.cells c7 t7 r7)) : KeepsFrom B0 A B := by
  refine ⟨hm.size, fun k o hk1 hk2 ho => hm.at hk2 ?_⟩
  rintro (rfl | rfl)
  · rw [hk2] at h6; cases h6; cases ho
  · rw [hk2] at h7; cases h7; cases ho
theorem two_cells {w : World} {b6 b7 : Nat} {x y : Value} {t t' : TypeId} (h6 : w.heap[b6]? = some (.cells #[x] t (0, 0))) (h7 : w.heap[b7]? = some (.cells #[y] t' (0, 0))) (hne : b6 < b7) (u v : Value) :
    ((w.setCell ⟨b6, 0, none⟩ u).setCell ⟨b7, 0, none⟩ v).heap[b6]? = some (.cells #[u] t (0, 0)) ∧ ((w.setCell ⟨b6, 0, none⟩ u).setCell ⟨b7, 0, none⟩ v).heap[b7]? = some (.cells #[v] t' (0, 0)) := by
  have a1 := heap_setCell_same w b6 0 _ _ u h6
  have a2 : (w.setCell ⟨b6, 0, none⟩ u).heap[b7]? = some (.cells #[y] t' (0, 0)) := by rw [Below.heap_setCell _ _ _ _ (show b7 ≠ b6 by omega)]; exact h7
  have a3 := heap_setCell_same _ b7 0 _ _ v a2
  refine ⟨?_, by simpa using a3⟩
  rw [Below.heap_setCell _ _ _ _ (show b6 ≠ b7 by omega)]
  simpa using a1
/-- Nothing yet of what a load wants. -/
def NoneYet (a n : Int) (pre : List FStore) : Prop := ∀ y ∈ pre, oneE y.1.width y.1.value (a - y.1.addr) n = none
/-- The last one has it; the answer is laid. -/
def Found (a n : Int) (b6 b7 : Nat) (W0 : World) (pre : List FStore) (W : World) : Prop := ∃ p0 y r, pre = p0 ++ [y] ∧ NoneYet a n p0 ∧ oneE y.1.width y.1.value (a - y.1.addr) n = some r ∧ W.heap[b6]? = some (.cells #[.int .u32 r.1] 22 (0, 0)) ∧ W.heap[b7]? = some (.cells #[.int .i64 r.2] 29 (0, 0)) ∧ W0.heap.size ≤ W.heap.size
theorem mask_4 (q : Int) (h : 0 ≤ q) (h2 : q ≤ 4294967295) : q % 256 ^ 4 = q := by
  have : (256 : Int) ^ 4 = 4294967296 := by decide
  rw [this]; omega
theorem and_mask (q : Int) (k m : Nat) (hm : m = 2 ^ k - 1) (hm2 : m < 4294967296) (h : 0 ≤ q) (h2 : q ≤ 4294967295) : bits BinOp.and IntKind.u32 q m = ((q.toNat % 2 ^ k : Nat) : Int) := by
  have hb : IntKind.u32.bits = 32 := rfl
  have h32 : (q % 2 ^ 32).toNat = q.toNat := by omega
  have hm32 : (((m : Int) % 2 ^ 32).toNat) = m := by omega
  have hx : q.toNat &&& m = q.toNat % 2 ^ k := by rw [hm]; exact Nat.and_two_pow_sub_one_eq_mod _ _
  have hlt : q.toNat % 2 ^ k ≤ q.toNat := Nat.mod_le _ _
  unfold bits
  simp only [hb, BitVec.toNat_and, BitVec.toNat_ofInt]
  rw [show ((2 ^ 32 : Nat) : Int) = 2 ^ 32 from rfl, h32, hm32, hx]
  exact IntWalk.u32_in _ (by omega)
theorem mask_2 (q : Int) (h : 0 ≤ q) (h2 : q ≤ 4294967295) : q % 256 ^ 2 = bits BinOp.and IntKind.u32 q 65535 := by
  have := and_mask q 16 65535 rfl (by omega) h h2
  rw [show (65535 : Int) = ((65535 : Nat) : Int) from rfl, this]
  have : (256 : Int) ^ 2 = 65536 := by decide
  have h3 : (2 : Nat) ^ 16 = 65536 := by decide
  rw [this, h3]
  omega
theorem mask_1 (q : Int) (h : 0 ≤ q) (h2 : q ≤ 4294967295) : q % 256 ^ 1 = bits BinOp.and IntKind.u32 q 255 := by
  have := and_mask q 8 255 rfl (by omega) h h2
  rw [show (255 : Int) = ((255 : Nat) : Int) from rfl, this]
  have : (256 : Int) ^ 1 = 256 := by decide
  have h3 : (2 : Nat) ^ 8 = 256 := by decide
  rw [this, h3]
  omega
theorem shf0 : IntKind.u64.wrap (8 * IntKind.u64.wrap 0) = 0 := by decide
theorem shf1 : IntKind.u64.wrap (8 * IntKind.u64.wrap 1) = 8 := by decide
theorem shf2 : IntKind.u64.wrap (8 * IntKind.u64.wrap 2) = 16 := by decide
theorem shf3 : IntKind.u64.wrap (8 * IntKind.u64.wrap 3) = 24 := by decide
theorem shfg (v d : Int) (h : 0 ≤ d) (h2 : d ≤ 3) : v / 2 ^ min (IntKind.u64.wrap (8 * IntKind.u64.wrap d)).toNat 32 = v / 256 ^ d.toNat := by
  rcases (by omega : d = 0 ∨ d = 1 ∨ d = 2 ∨ d = 3) with rfl | rfl | rfl | rfl
  · rw [shf0]; rfl
  · rw [shf1]; rfl
  · rw [shf2]; rfl
  · rw [shf3]; rfl
theorem wide_fn (k : Nat) : Fence.wide.fn k = True := eq_true trivial
end Go.Proofs.Ytknjlmpjkkkilaa
