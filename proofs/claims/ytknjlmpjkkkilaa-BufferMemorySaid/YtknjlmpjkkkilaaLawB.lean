/- An argument that is a slice of bytes. -/
import Derived.Test.YtknjlmpjkkkilaaLaw
namespace Go.Proofs.Ytknjlmpjkkkilaa
open Go.ChangeShapes Go.WideShapes Go.ChangeAt Go.RowKit
set_option linter.unusedVariables false

/-- An argument that is a slice of bytes. -/
theorem open_bytes {H : Type} {enc : TypeId × Value → H} {W : World} {r : Reach} {base b0 : Nat} {v : Value} {d : DataW H} {p : List MemPlace} (hv : Value.okWide Try.prog W r b0 46 v)
    (h : DataW.Trod enc Try.prog W base (fun _ => true) true 46 v d p) : ∃ a n c, v = .slice a n c ∧ n ≤ maxLen ∧
      (0 < n → ∃ b o, a = some ⟨b, o, none⟩ ∧ ∀ i, i < n → ∃ x, W.cell? ⟨b, o + i, none⟩ = some (.int .u8 x) ∧ 0 ≤ x ∧ x ≤ 255) := by
  obtain ⟨a, n, c, rfl⟩ := okWide_slice Try.underlying46 hv
  obtain ⟨fuel, hf⟩ := h
  rcases open_ints Try.underlying46 Try.underlying5 (by kernel_rfl) hf with ⟨hcs, _⟩ | ⟨x, l, c', zs, hcs, _, hl, hm, hz, _, hcell, hwz⟩
  · simp [Value.cells] at hcs
    obtain ⟨rfl, rfl, rfl⟩ := hcs
    exact ⟨none, 0, 0, rfl, by simp [maxLen], fun h => by omega⟩
  · simp [Value.cells] at hcs
    obtain ⟨rfl, rfl, rfl⟩ := hcs
    have hz : zs.length = c := by simpa using hz
    refine ⟨some x, n, c, rfl, by omega, fun h0 => ?_⟩
    have h00 := hcell 0 (by omega)
    have hspot := World.cell?_spot h00
    obtain ⟨b, o, spot⟩ := x
    have hsp : spot = none := by simpa [Addr.add] using hspot
    subst hsp
    refine ⟨b, o, rfl, fun i hi => ⟨zs.getD i 0, ?_, ?_⟩⟩
    · have := hcell i (by omega)
      have hadd : (⟨b, o, none⟩ : Addr).add i = ⟨b, o + i, none⟩ := by unfold Addr.add; split <;> simp_all
      rw [hadd] at this
      exact this
    · have hb := bounds_u8 (hwz (zs.getD i 0) (by rw [List.getD_eq_getElem?_getD, List.getElem?_eq_getElem (by omega)]; exact List.getElem_mem _))
      exact hb

end Go.Proofs.Ytknjlmpjkkkilaa
