/- An argument that is a slice of structs, read as a list. Nothing of the program's code stands here. -/
import Derived.Test.YtknjlmpjkkkilaaLaw
import Derived.Test.YtknjlmpjkkkilaaRowA
import Derived.Deep.Slices
namespace Go.Proofs.Ytknjlmpjkkkilaa
open Go.ChangeShapes Go.WideShapes Go.ChangeAt Go.RowKit
set_option linter.unusedVariables false

/-- An argument that is a list: what its elements are, where they lie. -/
structure ArgList {α : Type} (cells : α → List Value) (fits : α → Prop) (sz : Nat) (w : World) (a : Option Addr) (l : List α) : Prop where
  fits : ∀ m ∈ l, fits m
  at_ : ∀ i m, l[i]? = some m → ∃ b o, a = some ⟨b, o, none⟩ ∧ w.rangeAt b (o + i * sz) (cells m)
  len : l.length ≤ maxLen
theorem ArgList.keep {α : Type} {cells : α → List Value} {fits : α → Prop} {sz : Nat} {w w' : World} {a : Option Addr} {l : List α} (h : ArgList cells fits sz w a l) (hm : Mod (fun _ => False) w w') : ArgList cells fits sz w' a l :=
  ⟨h.fits, fun i m hi => by obtain ⟨b, o, e, hr⟩ := h.at_ i m hi; exact ⟨b, o, e, hm.range hr (fun x => x)⟩, h.len⟩

theorem exists_list {α : Type} (P : Nat → α → Prop) (n : Nat) (h : ∀ i, i < n → ∃ m, P i m) : ∃ l : List α, l.length = n ∧ ∀ i m, l[i]? = some m → P i m := by
  induction n with
  | zero => exact ⟨[], rfl, by simp⟩
  | succ n ih =>
    obtain ⟨l, hl, hp⟩ := ih (fun i hi => h i (by omega))
    obtain ⟨m, hm⟩ := h n (by omega)
    refine ⟨l ++ [m], by simp [hl], fun i x hx => ?_⟩
    rw [List.getElem?_append] at hx
    split at hx
    · exact hp i x hx
    · rename_i hi
      have : i = n := by
        have := (List.getElem?_eq_some_iff.1 hx).1
        simp at this
        omega
      subst this
      simp [hl] at hx
      subst hx
      exact hm

theorem open_rows {α : Type} (cells : α → List Value) (fits : α → Prop) (sz : Nat) (hsz : 0 < sz) {t e : TypeId} (ht : Try.prog.underlying t = some (.slice e)) (hC : Try.prog.cellsOf e = sz)
    {H : Type} {enc : TypeId × Value → H} {W : World} {r : Reach} {base b0 : Nat} {v : Value} {d : DataW H} {p : List MemPlace}
    (hdec : ∀ fuel cs x, DataW.trod enc Try.prog W base (fun _ => true) true fuel e cs = some x → ∃ m, cs = cells m ∧ fits m)
    (hv : Value.okWide Try.prog W r b0 t v) (h : DataW.Trod enc Try.prog W base (fun _ => true) true t v d p) :
    ∃ a c, ∃ l : List α, v = .slice a l.length c ∧ ArgList cells fits sz W a l := by
  obtain ⟨a, n, c, rfl⟩ := okWide_slice ht hv
  obtain ⟨fuel, hf⟩ := h
  rcases Go.Deep.open_slice ht hf with ⟨hcs, _⟩ | ⟨x, l, c', m, k, D, Pl, hcs, _, hl, hm, hmm, _, hi⟩
  · simp [Value.cells] at hcs
    obtain ⟨rfl, rfl, rfl⟩ := hcs
    exact ⟨none, 0, [], rfl, by simp, by simp, by simp [maxLen]⟩
  · simp [Value.cells] at hcs
    obtain ⟨rfl, rfl, rfl⟩ := hcs
    simp only [if_true] at hmm
    subst hmm
    have hall : ∀ i, i < n → ∃ q : α, W.cells? base (x.add (i * sz)) sz = some (cells q) ∧ fits q := by
      intro i hin
      obtain ⟨cs', h1, h2⟩ := hi i (by omega)
      obtain ⟨q, rfl, hq⟩ := hdec _ _ _ h2
      rw [hC] at h1
      exact ⟨q, h1, hq⟩
    obtain ⟨L, hL, hP⟩ := exists_list _ n hall
    subst hL
    refine ⟨some x, _, L, rfl, ?_, ?_, by omega⟩
    · intro q hq
      obtain ⟨i, hi'⟩ := List.getElem?_of_mem hq
      exact (hP i q hi').2
    · intro i q hq
      obtain ⟨h1, -⟩ := hP i q hq
      obtain ⟨-, hlen, hcell⟩ := World.cells?_some h1
      obtain ⟨q0, hq0⟩ : ∃ q0, L[0]? = some q0 := ⟨_, List.getElem?_eq_getElem (by have := (List.getElem?_eq_some_iff.1 hq).1; omega)⟩
      obtain ⟨-, hlen0, hcell0⟩ := World.cells?_some (hP 0 q0 hq0).1
      have h00 := hcell0 0 hsz
      rw [List.getElem?_eq_getElem (by omega), Go.Deep.add_add, Nat.zero_mul] at h00
      have hspot := World.cell?_spot h00
      obtain ⟨b, o, spot⟩ := x
      have hsp : spot = none := hspot
      subst hsp
      refine ⟨b, o, rfl, fun j u hu => ?_⟩
      have hj : j < sz := by have := (List.getElem?_eq_some_iff.1 hu).1; omega
      have := hcell j hj
      rw [hu] at this
      rw [Go.Deep.add_add, addr_add] at this
      rw [Nat.add_assoc]
      exact this
end Go.Proofs.Ytknjlmpjkkkilaa
