/- Deliver, of whatever list: the net's and the document's tell the same. -/
import Derived.Test.YtklokcndhkhdmaaNetQ
import Derived.Test.YtklokcndhkhdmaaRowsLaw
namespace Go.Proofs.Ytklokcndhkhdmaa
open Go.RowKit
set_option linter.unusedVariables false
set_option linter.unusedSimpArgs false

/-- A whole row is written into a block that was made last. -/
theorem wpL_storeNew' {P : Program} {ops : Array Oper} {rest : List Oper} {o : Oper} {a : Act} {w : World} {Q : Exit → Act → World → Prop} (hgd : Region.wanted o (yielded ops a.tmps) = true) (ty : TypeId) (x y : Operand) (ho : o.op = .store ty x y)
    (b : Nat) (hx : a.eval x = .pointer (some ⟨b, 0, none⟩)) (hb : b = w.heap.size) (cells : Array Value) (hy : a.eval y = .agg cells) (old : Array Value) (t : TypeId)
    (n : Nat) (hi : (P.info? ty).map (·.size) = some n) (hn : cells.size = n) (hold : old.size = n) (h1 : ∀ v ∈ cells.toList, v.oneCell' = true)
    (h : wpList P ops Q rest (a.put o.dst undef) (w.alloc (.cells cells t))) : wpList P ops Q (o :: rest) a (w.alloc (.cells old t)) := by
  subst hb
  exact wpL_storeNew hgd ty x y ho hx cells hy old t n hi hn hold h1 h
theorem allocs2 (w : World) (a b : Obj) : ((w.alloc a).alloc b).heap[w.heap.size]? = some a ∧ ((w.alloc a).alloc b).heap[w.heap.size + 1]? = some b ∧ Mod (fun _ => False) w ((w.alloc a).alloc b) := by
  refine ⟨blk_old _ _ (blk_new _ _), ?_, ((Mod.refl _ _).alloc _).alloc _⟩
  have := blk_new (w.alloc a) b
  rw [World.size_alloc] at this
  exact this
/-- What Deliver tells, and what stays. -/
def delMsg (l : List Msg) (pick : Int) : Msg := (l[pickAt pick l.length]?).getD zeroMsg
def delList (l : List Msg) (pick : Int) : List Msg := l.eraseIdx (pickAt pick l.length)
def delOk (l : List Msg) : Bool := !l.isEmpty
theorem delMsg_fits {l : List Msg} (h : ∀ m ∈ l, m.Fits) (pick : Int) : (delMsg l pick).Fits := by
  unfold delMsg
  cases hm : l[pickAt pick l.length]? with
  | none => exact zeroMsg_fits
  | some m => exact h m (List.mem_of_getElem? hm)
theorem deliver_any (w : World) (p : Nat) (o : Option Nat) (l : List Msg) (most : Int) (h : Net w p o l most) (pick : Int) :
    Calls Try.prog 16 #[.pointer (some ⟨p, 0, none⟩), .int .i64 pick] w fun e w' => e = .returned (.tuple #[.agg (delMsg l pick).cells.toArray, .bool (delOk l)]) ∧
      ∃ o', Net w' p o' (delList l pick) most ∧ Mod (fun k => k = p ∨ o = some k) w w' ∧ ∀ g, o' = some g → o = some g ∨ w.heap.size ≤ g := by
  cases l with
  | nil =>
    refine (deliver_empty w p o most h pick).mono ?_
    rintro e w' ⟨rfl, hm⟩
    exact ⟨rfl, o, h.keep hm (fun x => x) (fun _ _ x => x), hm.mono (fun _ _ x => x.elim), fun g hg => .inl hg⟩
  | cons x l =>
    refine (deliver_ok w p o (x :: l) most h (by simp) pick).mono ?_
    rintro e w' ⟨m, hm, rfl, o', h1, h2, h3⟩
    refine ⟨?_, o', h1, h2, h3⟩
    simp only [delMsg, hm, Option.getD_some, delOk]
    rfl
theorem refdel_any (w : World) (v : Value) (l : List Msg) (most pick : Int) (h : Msgs w v l) (hl : l.length ≤ 1000000) :
    Calls Try.prog 24 #[.agg #[.int .i64 most, v], .int .i64 pick] w fun e w' => ∃ v', e = .returned (.tuple #[.agg #[.int .i64 most, v'], .agg (delMsg l pick).cells.toArray, .bool (delOk l)]) ∧ Msgs w' v' (delList l pick) ∧
      Mod (fun _ => False) w w' ∧ ∀ g, ownOf v' = some g → ownOf v = some g ∨ w.heap.size ≤ g := by
  cases l with
  | nil =>
    refine (refdel_none w v most pick h).mono ?_
    rintro e w' ⟨rfl, hm, hmo⟩
    exact ⟨v, rfl, hm, hmo, fun g hg => .inl hg⟩
  | cons x l =>
    refine (refdel_ok w v (x :: l) most pick h hl (by simp)).mono ?_
    rintro e w' ⟨v', m, hm, rfl, h1, h2, h3⟩
    refine ⟨v', ?_, h1, h2, fun g hg => .inr (h3 g hg)⟩
    simp only [delMsg, hm, Option.getD_some, delOk]
    rfl
end Go.Proofs.Ytklokcndhkhdmaa
