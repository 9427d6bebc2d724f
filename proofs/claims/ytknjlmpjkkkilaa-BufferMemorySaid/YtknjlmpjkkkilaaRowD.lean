/- New blocks: two that are made, one that is written whole. Nothing of the program stands here. -/
import Derived.Test.YtknjlmpjkkkilaaRowC
namespace Go.Proofs.Ytknjlmpjkkkilaa
open Go.RowKit

theorem allocs2 (w : World) (a b : Obj) : ((w.alloc a).alloc b).heap[w.heap.size]? = some a ∧ ((w.alloc a).alloc b).heap[w.heap.size + 1]? = some b ∧ Mod (fun _ => False) w ((w.alloc a).alloc b) := by
  refine ⟨blk_old _ _ (blk_new _ _), ?_, ((Mod.refl _ _).alloc _).alloc _⟩
  have := blk_new (w.alloc a) b
  rw [World.size_alloc] at this
  exact this
theorem Mod.drewN' {S : Nat → Prop} (w : World) (m : Nat) : Mod S w (w.drewN m) := (Mod.refl S w).drewN m
theorem heap_drewN (w : World) (m : Nat) : (w.drewN m).heap = w.heap := rfl
/-- Three cells of a block are written. -/
theorem set3 {w : World} {p o : Nat} {cs : Array Value} {t : TypeId} {x y z : Value} (h : w.heap[p]? = some (.cells cs t (0, 0))) :
    (((w.setCell ⟨p, o, none⟩ x).setCell ⟨p, o + 1, none⟩ y).setCell ⟨p, o + 2, none⟩ z).heap[p]? = some (.cells (((cs.setIfInBounds o x).setIfInBounds (o + 1) y).setIfInBounds (o + 2) z) t (0, 0)) := by
  have h1 := heap_setCell_same w p o _ _ x h
  have h2 := heap_setCell_same _ p (o + 1) _ _ y h1
  exact heap_setCell_same _ p (o + 2) _ _ z h2
theorem Mod.set3 {S : Nat → Prop} {w : World} {p o : Nat} {x y z : Value} (hp : S p) : Mod S w (((w.setCell ⟨p, o, none⟩ x).setCell ⟨p, o + 1, none⟩ y).setCell ⟨p, o + 2, none⟩ z) :=
  (((Mod.refl S w).setCell (.inl hp) _).setCell (.inl hp) _).setCell (.inl hp) _
end Go.Proofs.Ytknjlmpjkkkilaa
