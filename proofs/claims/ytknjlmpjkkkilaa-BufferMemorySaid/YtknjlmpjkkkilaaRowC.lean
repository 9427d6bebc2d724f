/- A whole struct is stored: a rule for the walk. Nothing of the program stands here. -/
import Derived.Test.YtknjlmpjkkkilaaRowA
namespace Go.Proofs.Ytknjlmpjkkkilaa
open Go.RowKit

/-- How many cells a block has that may be written. -/
def rowOf (w : World) (b : Nat) : Option Nat := match w.heap[b]? with | some (.cells cs _ (0, 0)) => some cs.size | _ => none
theorem store_whole {P : Program} (ty : TypeId) (n : Nat) (hi : (P.info? ty).map (·.size) = some n) (b : Nat) (w : World) (cells : Array Value) (h : rowOf w b = some n) (hn : cells.size = n) (h1 : cells.all (·.oneCell') = true) :
    (Instr.storeAt ty (.pointer (some ⟨b, 0, none⟩)) (.agg cells)).run P w = .ok () (w.setRow b cells) := by
  unfold rowOf at h
  split at h
  · rename_i cs t hb
    have hs : cs.size = n := by simpa using h
    have hr := run_storeVar_row (P := P) w b t ty cs cells hb (by rw [hi, hn]) (by omega) h1
    simp only [Instr.storeAt, Instr.sureAddr, Sem.run_bind, Sem.run_pure, Result.andThen_ok, hr]
  · cases h
theorem run_storeAt_open {P : Program} (ty : TypeId) (v x : Value) (w : World) : (Instr.storeAt ty v x).run P w = (Instr.sureAddr v >>= fun a => storeVar ty a x).run P w := rfl
theorem allocs3 (w : World) (a b c : Obj) : (((w.alloc a).alloc b).alloc c).heap[w.heap.size]? = some a ∧ (((w.alloc a).alloc b).alloc c).heap[w.heap.size + 1]? = some b ∧ (((w.alloc a).alloc b).alloc c).heap[w.heap.size + 1 + 1]? = some c ∧ Mod (fun _ => False) w (((w.alloc a).alloc b).alloc c) := by
  refine ⟨blk_old _ _ (blk_old _ _ (blk_new _ _)), ?_, ?_, (((Mod.refl _ _).alloc _).alloc _).alloc _⟩
  · have := blk_new (w.alloc a) b
    rw [World.size_alloc] at this
    exact blk_old _ _ this
  · have := blk_new ((w.alloc a).alloc b) c
    rw [World.size_alloc, World.size_alloc] at this
    exact this
end Go.Proofs.Ytknjlmpjkkkilaa
