/- A net and the document's, side by side. -/
import Derived.Test.YtklokcndhkhdmaaNetP
namespace Go.Proofs.Ytklokcndhkhdmaa
open Go.RowKit
set_option linter.unusedVariables false
set_option linter.unusedSimpArgs false

/-- A net at p and the document's in the box at b hold the same; all lies beyond N0. -/
structure Pair (N0 : Nat) (w : World) (p b : Nat) (L : List Msg) (most : Int) (v : Value) (o : Option Nat) : Prop where
  net : Net w p o L most
  msgs : Msgs w v L
  box : w.heap[b]? = some (.cells #[.int .i64 most, v] 49 (0, 0))
  apart : ∀ g, ownOf v = some g → o ≠ some g ∧ N0 ≤ g
  own : ∀ g, o = some g → N0 ≤ g
  pN : N0 ≤ p
  bN : N0 ≤ b

variable {N0 : Nat} {w w' : World} {p b : Nat} {L : List Msg} {most : Int} {v : Value} {o : Option Nat}
theorem Pair.keep (h : Pair N0 w p b L most v o) (hm : Mod (fun _ => False) w w') : Pair N0 w' p b L most v o :=
  ⟨h.net.keep hm (fun x => x) (fun _ _ x => x), h.msgs.keep hm (fun _ _ x => x), hm.at h.box (fun x => x), h.apart, h.own, h.pN, h.bN⟩
theorem Pair.pb (h : Pair N0 w p b L most v o) : p ≠ b := by
  rintro rfl
  obtain ⟨v', h1, _⟩ := h.net.ex
  rw [h.box] at h1
  simp at h1
theorem Pair.ob (h : Pair N0 w p b L most v o) : o ≠ some b := by
  rintro rfl
  obtain ⟨v', _, h2, h3⟩ := h.net.ex
  obtain ⟨cap, cur, _, hb, _⟩ := h2.row.block h3
  rw [h.box] at hb
  simp at hb
theorem Pair.pv (h : Pair N0 w p b L most v o) : ∀ g, ownOf v = some g → g ≠ p := by
  rintro g hg rfl
  obtain ⟨v', h1, _⟩ := h.net.ex
  obtain ⟨cap, cur, _, hb, _⟩ := h.msgs.row.block hg
  rw [h1] at hb
  simp at hb
/-- The document's net goes on: its new value lies in the box. -/
theorem Pair.ref (h : Pair N0 w p b L most v o) (hN : N0 ≤ w.heap.size) {v' : Value} {L' : List Msg} (hm : Mod (fun k => k = b) w w') (hb : w'.heap[b]? = some (.cells #[.int .i64 most, v'] 49 (0, 0)))
    (hms : Msgs w' v' L') (hown : ∀ g, ownOf v' = some g → ownOf v = some g ∨ w.heap.size ≤ g) :
    Net w' p o L most ∧ (∀ g, ownOf v' = some g → o ≠ some g ∧ N0 ≤ g) := by
  refine ⟨h.net.keep hm h.pb (fun g hg hh => h.ob (by rw [hg, hh])), fun g hg => ?_⟩
  rcases hown g hg with h1 | h1
  · exact h.apart g h1
  · refine ⟨fun ho => ?_, by omega⟩
    have := h.net.lt.2 g ho
    omega
/-- The net goes on, too: they hold the same again. -/
theorem Pair.net_on {L' : List Msg} {o' : Option Nat} (hv : Msgs w v L') (hb : w.heap[b]? = some (.cells #[.int .i64 most, v] 49 (0, 0))) (hap : ∀ g, ownOf v = some g → o ≠ some g ∧ N0 ≤ g) (hpb : p ≠ b) (hob : o ≠ some b) (hpv : ∀ g, ownOf v = some g → g ≠ p)
    (hN : N0 ≤ w.heap.size) (hpN : N0 ≤ p) (hbN : N0 ≤ b) (hoN : ∀ g, o = some g → N0 ≤ g) (hn : Net w' p o' L' most) (hm : Mod (fun k => k = p ∨ o = some k) w w') (ho' : ∀ g, o' = some g → o = some g ∨ w.heap.size ≤ g) : Pair N0 w' p b L' most v o' := by
  refine ⟨hn, hv.keep hm (fun g hg hh => ?_), hm.at hb ?_, fun g hg => ⟨fun hh => ?_, (hap g hg).2⟩, fun g hg => ?_, hpN, hbN⟩
  · rcases hh with hh | hh
    · exact hpv g hg hh
    · exact (hap g hg).1 hh
  · rintro (hh | hh)
    · exact hpb hh.symm
    · exact hob hh
  · rcases ho' g hh with h1 | h1
    · exact (hap g hg).1 h1
    · have := hv.row.lt hg
      omega
  · rcases ho' g hg with h1 | h1
    · exact hoN g h1
    · omega
/-- One round: the document's net has gone on and lies in the box; the net goes on. -/
theorem Pair.mid {w0 w5 : World} (h : Pair w0.heap.size w p b L most v o) (hmo : Mod (fun _ => False) w0 w) {v' : Value} {L' : List Msg} (hm : Mod (fun k => k = b) w w5)
    (hb : w5.heap[b]? = some (.cells #[.int .i64 most, v'] 49 (0, 0))) (hms : Msgs w5 v' L') (hown : ∀ g, ownOf v' = some g → ownOf v = some g ∨ w.heap.size ≤ g) :
    Net w5 p o L most ∧ Mod (fun _ => False) w0 w5 ∧ ∀ w' o', Net w' p o' L' most → Mod (fun k => k = p ∨ o = some k) w5 w' → (∀ g, o' = some g → o = some g ∨ w5.heap.size ≤ g) →
      Pair w0.heap.size w' p b L' most v' o' ∧ Mod (fun _ => False) w0 w' := by
  have hs0 := hmo.size
  have hs5 := hm.size
  obtain ⟨hn, hap⟩ := h.ref hs0 hm hb hms hown
  have hm0 : Mod (fun _ => False) w0 w5 := hmo.trans' hm (by rintro i hi rfl; have := h.bN; omega)
  refine ⟨hn, hm0, fun w' o' hn' hm' ho' => ⟨Pair.net_on hms hb hap h.pb h.ob ?_ (by omega) h.pN h.bN h.own hn' hm' ho', hm0.trans' hm' ?_⟩⟩
  · obtain ⟨v2, h1, _⟩ := hn.ex
    exact hms.ne h1 (by decide)
  · rintro i hi (rfl | hh)
    · have := h.pN; omega
    · have := h.own i hh; omega
end Go.Proofs.Ytklokcndhkhdmaa
