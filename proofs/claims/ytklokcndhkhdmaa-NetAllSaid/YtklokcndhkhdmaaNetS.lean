/- played: a net behind calls, and the document's. -/
import Derived.Test.YtklokcndhkhdmaaNetR
import Derived.Test.YtklokcndhkhdmaaNetAct
namespace Go.Proofs.Ytklokcndhkhdmaa
open Go.RowKit
set_option linter.unusedVariables false
set_option linter.unusedSimpArgs false

/-- A net and the document's hold the same. -/
structure Twin (N0 : Nat) (w : World) (p : Nat) (L : List Msg) (most : Int) (v : Value) (o : Option Nat) : Prop where
  net : Net w p o L most
  msgs : Msgs w v L
  apart : ∀ g, ownOf v = some g → o ≠ some g ∧ N0 ≤ g
  own : ∀ g, o = some g → N0 ≤ g
  pN : N0 ≤ p
theorem Twin.keep {N0 : Nat} {w w' : World} {p : Nat} {L : List Msg} {most : Int} {v : Value} {o : Option Nat} (h : Twin N0 w p L most v o) {S : Nat → Prop} (hm : Mod S w w') (hp : ¬ S p) (ho : ∀ g, o = some g → ¬ S g) (hv : ∀ g, ownOf v = some g → ¬ S g) : Twin N0 w' p L most v o :=
  ⟨h.net.keep hm hp ho, h.msgs.keep hm hv, h.apart, h.own, h.pN⟩
theorem Twin.keep0 {N0 : Nat} {w w' : World} {p : Nat} {L : List Msg} {most : Int} {v : Value} {o : Option Nat} (h : Twin N0 w p L most v o) (hm : Mod (fun _ => False) w w') : Twin N0 w' p L most v o :=
  h.keep hm (fun x => x) (fun _ _ x => x) (fun _ _ x => x)
theorem Pair.twin {N0 : Nat} {w : World} {p b : Nat} {L : List Msg} {most : Int} {v : Value} {o : Option Nat} (h : Pair N0 w p b L most v o) : Twin N0 w p L most v o := ⟨h.net, h.msgs, h.apart, h.own, h.pN⟩

theorem Net.o_ne {w : World} {p : Nat} {o : Option Nat} {l : List Msg} {most : Int} (h : Net w p o l most) {R : Nat} {cs : Array Value} {t : TypeId} {fr : Nat × Nat} (hb : w.heap[R]? = some (.cells cs t fr)) (ht : t ≠ 26) : o ≠ some R := by
  obtain ⟨v, h1, h2, h3⟩ := h.ex
  intro ho
  exact h2.ne hb ht R (h3.trans ho) rfl
theorem Net.p_ne {w : World} {p : Nat} {o : Option Nat} {l : List Msg} {most : Int} (h : Net w p o l most) {R : Nat} {cs : Array Value} {t : TypeId} {fr : Nat × Nat} (hb : w.heap[R]? = some (.cells cs t fr)) (ht : t ≠ 71) : R ≠ p := by
  obtain ⟨v, h1, h2, h3⟩ := h.ex
  rintro rfl
  rw [hb] at h1
  simp at h1
  exact ht h1.2.1
theorem Net.at {w w' : World} {p : Nat} {o : Option Nat} {l : List Msg} {most : Int} (h : Net w p o l most) (hm : Mod (fun k => k = p ∨ o = some k) w w') {R : Nat} {cs : Array Value} {t : TypeId} {fr : Nat × Nat} (hb : w.heap[R]? = some (.cells cs t fr)) (ht : t ≠ 26) (ht2 : t ≠ 71) : w'.heap[R]? = some (.cells cs t fr) :=
  hm.at hb (by rintro (hh | hh); exact h.p_ne hb ht2 hh; exact h.o_ne hb ht hh)

theorem Mod.as {S : Nat → Prop} {w a b : World} (h : Mod S w a) (e1 : b.os = a.os) (e2 : b.tape = a.tape) (e3 : b.output = a.output) (e4 : b.heap = a.heap) : Mod S w b :=
  ⟨e1.trans h.os, e2.trans h.tape, e3.trans h.output, by rw [e4]; exact h.size, fun k hk hs => by rw [e4]; exact h.block k hk hs⟩

/-- played's answer. -/
theorem played_ret {a : Act} {w : World} {R : Nat} {x y v4 v6 : Value} {Q : Ending → World → Prop} (h4 : a.tmps[4]? = some v4) (h5 : a.tmps[5]? = some (.pointer (some ⟨R, 0, none⟩))) (h6 : a.tmps[6]? = some v6) (hd : a.defers = [])
    (hb : w.heap[R]? = some (.cells #[x, y] 49 (0, 0))) (h : Q (.returned (.tuple #[v4, .agg #[x, y], v6])) w) : bodyPost Try.prog Try.f21 Q .ret a w := by
  have hlo := run_loadVar_row (P := Try.prog) w R 49 49 _ _ _ hb Try.underlying49 rfl (by rw [info49]; rfl)
  exact bodyPost_ret (v := .tuple #[v4, .agg #[x, y], v6]) (by simp [results, Try.results21, asAddr, hlo, h4, h5, h6]) hd h
end Go.Proofs.Ytklokcndhkhdmaa
