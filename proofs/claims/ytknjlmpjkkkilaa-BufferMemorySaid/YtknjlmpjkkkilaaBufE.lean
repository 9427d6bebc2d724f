/- What a load has of stores: in plain numbers. -/
import Derived.Test.YtknjlmpjkkkilaaBufD
namespace Go.Proofs.Ytknjlmpjkkkilaa
open Go.RowKit
set_option linter.unusedVariables false
set_option linter.unusedSimpArgs false

/-- The bytes from the top, of d places; e: how far a load of w places begins behind a store of sw. -/
def accE (sw v e : Int) (w : Nat) : Nat → Int × Int
  | 0 => (0, 0)
  | d + 1 => if e + ((w : Int) - 1 - d) < 0 ∨ sw ≤ e + ((w : Int) - 1 - d) then accE sw v e w d else ((accE sw v e w d).1 * 256 + v / 256 ^ (e + ((w : Int) - 1 - d)).toNat % 256, (accE sw v e w d).2 + 1)
/-- What a load has of one store. -/
def oneE (sw v e w : Int) : Option (Int × Int) :=
  if e + w ≤ 0 ∨ sw ≤ e then none
  else if e < 0 ∨ sw < e + w then some (0, 2)
  else some (v / 256 ^ e.toNat % 256 ^ w.toNat, 1)
/-- What a load has of stores, the last one ahead. -/
def seek : List Store → Int → Int → Int × Int
  | [], _, _ => (0, 0)
  | s :: l, a, w => match oneE s.width s.value (a - s.addr) w with | some r => r | none => seek l a w
def fwd (l : List Store) (a w : Int) : Int × Int := if wideB w = true ∧ a % w = 0 then seek l.reverse a w else (0, 0)

theorem good_width {s : Store} (h : storeNum s = 0) : (s.width = 1 ∧ s.value ≤ 255) ∨ (s.width = 2 ∧ s.value ≤ 65535) ∨ s.width = 4 := by
  unfold storeNum at h
  split at h
  · omega
  · omega
theorem accE_le (sw v e : Int) (w : Nat) : ∀ d, 0 ≤ (accE sw v e w d).2 ∧ (accE sw v e w d).2 ≤ d
  | 0 => by simp [accE]
  | d + 1 => by
    have := accE_le sw v e w d
    unfold accE
    split <;> simp <;> omega
theorem accE_num (sw v e : Int) (w : Nat) : ∀ d, 0 ≤ (accE sw v e w d).1 ∧ (accE sw v e w d).1 < 256 ^ d
  | 0 => by simp [accE]
  | d + 1 => by
    have h := accE_num sw v e w d
    rw [Int.pow_succ]
    unfold accE
    split
    · omega
    · have := Int.emod_nonneg (v / 256 ^ (e + ((w : Int) - 1 - d)).toNat) (show (256 : Int) ≠ 0 by omega)
      have := Int.emod_lt_of_pos (v / 256 ^ (e + ((w : Int) - 1 - d)).toNat) (show (0 : Int) < 256 by omega)
      simp only
      omega

theorem accE_out {sw v e : Int} {w : Nat} (d : Nat) (h : e + ((w : Int) - 1 - d) < 0 ∨ sw ≤ e + ((w : Int) - 1 - d)) : accE sw v e w (d + 1) = accE sw v e w d := by
  rw [accE, if_pos h]

/-- What the bytes say is what the places say. -/
def Agrees (sw v e : Int) (w : Nat) : Prop :=
  (oneE sw v e w = none ∧ (accE sw v e w w).2 = 0) ∨ (oneE sw v e w = some (0, 2) ∧ 0 < (accE sw v e w w).2 ∧ (accE sw v e w w).2 ≠ w) ∨
    ((accE sw v e w w).2 = w ∧ oneE sw v e w = some ((accE sw v e w w).1, 1))
theorem agrees_1_1 (v e : Int) (h0 : 0 ≤ v) (h1 : v ≤ 255) : Agrees 1 v e 1 := by
  rcases (by omega : e + 1 ≤ 0 ∨ 1 ≤ e ∨ e = 0) with h | h | rfl
  · refine .inl ⟨by unfold oneE; rw [if_pos (by omega)], ?_⟩
    have a0 : accE 1 v e 1 0 = (0, 0) := rfl
    have a1 : accE 1 v e 1 1 = accE 1 v e 1 0 := accE_out 0 (by omega)
    rw [a1, a0]
  · refine .inl ⟨by unfold oneE; rw [if_pos (by omega)], ?_⟩
    have a0 : accE 1 v e 1 0 = (0, 0) := rfl
    have a1 : accE 1 v e 1 1 = accE 1 v e 1 0 := accE_out 0 (by omega)
    rw [a1, a0]
  · refine .inr (.inr ⟨by simp [accE], ?_⟩)
    simp [oneE, accE]
    try omega
theorem agrees_1_2 (v e : Int) (h0 : 0 ≤ v) (h1 : v ≤ 65535) : Agrees 2 v e 1 := by
  rcases (by omega : e + 1 ≤ 0 ∨ 2 ≤ e ∨ e = 0 ∨ e = 1) with h | h | rfl | rfl
  · refine .inl ⟨by unfold oneE; rw [if_pos (by omega)], ?_⟩
    have a0 : accE 2 v e 1 0 = (0, 0) := rfl
    have a1 : accE 2 v e 1 1 = accE 2 v e 1 0 := accE_out 0 (by omega)
    rw [a1, a0]
  · refine .inl ⟨by unfold oneE; rw [if_pos (by omega)], ?_⟩
    have a0 : accE 2 v e 1 0 = (0, 0) := rfl
    have a1 : accE 2 v e 1 1 = accE 2 v e 1 0 := accE_out 0 (by omega)
    rw [a1, a0]
  · refine .inr (.inr ⟨by simp [accE], ?_⟩)
    simp [oneE, accE]
    try omega
  · refine .inr (.inr ⟨by simp [accE], ?_⟩)
    simp [oneE, accE]
    try omega
theorem agrees_1_4 (v e : Int) (h0 : 0 ≤ v) (h1 : v ≤ 4294967295) : Agrees 4 v e 1 := by
  rcases (by omega : e + 1 ≤ 0 ∨ 4 ≤ e ∨ e = 0 ∨ e = 1 ∨ e = 2 ∨ e = 3) with h | h | rfl | rfl | rfl | rfl
  · refine .inl ⟨by unfold oneE; rw [if_pos (by omega)], ?_⟩
    have a0 : accE 4 v e 1 0 = (0, 0) := rfl
    have a1 : accE 4 v e 1 1 = accE 4 v e 1 0 := accE_out 0 (by omega)
    rw [a1, a0]
  · refine .inl ⟨by unfold oneE; rw [if_pos (by omega)], ?_⟩
    have a0 : accE 4 v e 1 0 = (0, 0) := rfl
    have a1 : accE 4 v e 1 1 = accE 4 v e 1 0 := accE_out 0 (by omega)
    rw [a1, a0]
  · refine .inr (.inr ⟨by simp [accE], ?_⟩)
    simp [oneE, accE]
    try omega
  · refine .inr (.inr ⟨by simp [accE], ?_⟩)
    simp [oneE, accE]
    try omega
  · refine .inr (.inr ⟨by simp [accE], ?_⟩)
    simp [oneE, accE]
    try omega
  · refine .inr (.inr ⟨by simp [accE], ?_⟩)
    simp [oneE, accE]
    try omega
theorem agrees_2_1 (v e : Int) (h0 : 0 ≤ v) (h1 : v ≤ 255) : Agrees 1 v e 2 := by
  rcases (by omega : e + 2 ≤ 0 ∨ 1 ≤ e ∨ e = -1 ∨ e = 0) with h | h | rfl | rfl
  · refine .inl ⟨by unfold oneE; rw [if_pos (by omega)], ?_⟩
    have a0 : accE 1 v e 2 0 = (0, 0) := rfl
    have a1 : accE 1 v e 2 1 = accE 1 v e 2 0 := accE_out 0 (by omega)
    have a2 : accE 1 v e 2 2 = accE 1 v e 2 1 := accE_out 1 (by omega)
    rw [a2, a1, a0]
  · refine .inl ⟨by unfold oneE; rw [if_pos (by omega)], ?_⟩
    have a0 : accE 1 v e 2 0 = (0, 0) := rfl
    have a1 : accE 1 v e 2 1 = accE 1 v e 2 0 := accE_out 0 (by omega)
    have a2 : accE 1 v e 2 2 = accE 1 v e 2 1 := accE_out 1 (by omega)
    rw [a2, a1, a0]
  · refine .inr (.inl ⟨by simp [oneE], ?_⟩)
    simp [accE]
  · refine .inr (.inl ⟨by simp [oneE], ?_⟩)
    simp [accE]
theorem agrees_2_2 (v e : Int) (h0 : 0 ≤ v) (h1 : v ≤ 65535) : Agrees 2 v e 2 := by
  rcases (by omega : e + 2 ≤ 0 ∨ 2 ≤ e ∨ e = -1 ∨ e = 0 ∨ e = 1) with h | h | rfl | rfl | rfl
  · refine .inl ⟨by unfold oneE; rw [if_pos (by omega)], ?_⟩
    have a0 : accE 2 v e 2 0 = (0, 0) := rfl
    have a1 : accE 2 v e 2 1 = accE 2 v e 2 0 := accE_out 0 (by omega)
    have a2 : accE 2 v e 2 2 = accE 2 v e 2 1 := accE_out 1 (by omega)
    rw [a2, a1, a0]
  · refine .inl ⟨by unfold oneE; rw [if_pos (by omega)], ?_⟩
    have a0 : accE 2 v e 2 0 = (0, 0) := rfl
    have a1 : accE 2 v e 2 1 = accE 2 v e 2 0 := accE_out 0 (by omega)
    have a2 : accE 2 v e 2 2 = accE 2 v e 2 1 := accE_out 1 (by omega)
    rw [a2, a1, a0]
  · refine .inr (.inl ⟨by simp [oneE], ?_⟩)
    simp [accE]
  · refine .inr (.inr ⟨by simp [accE], ?_⟩)
    simp [oneE, accE]
    try omega
  · refine .inr (.inl ⟨by simp [oneE], ?_⟩)
    simp [accE]
theorem agrees_2_4 (v e : Int) (h0 : 0 ≤ v) (h1 : v ≤ 4294967295) : Agrees 4 v e 2 := by
  rcases (by omega : e + 2 ≤ 0 ∨ 4 ≤ e ∨ e = -1 ∨ e = 0 ∨ e = 1 ∨ e = 2 ∨ e = 3) with h | h | rfl | rfl | rfl | rfl | rfl
  · refine .inl ⟨by unfold oneE; rw [if_pos (by omega)], ?_⟩
    have a0 : accE 4 v e 2 0 = (0, 0) := rfl
    have a1 : accE 4 v e 2 1 = accE 4 v e 2 0 := accE_out 0 (by omega)
    have a2 : accE 4 v e 2 2 = accE 4 v e 2 1 := accE_out 1 (by omega)
    rw [a2, a1, a0]
  · refine .inl ⟨by unfold oneE; rw [if_pos (by omega)], ?_⟩
    have a0 : accE 4 v e 2 0 = (0, 0) := rfl
    have a1 : accE 4 v e 2 1 = accE 4 v e 2 0 := accE_out 0 (by omega)
    have a2 : accE 4 v e 2 2 = accE 4 v e 2 1 := accE_out 1 (by omega)
    rw [a2, a1, a0]
  · refine .inr (.inl ⟨by simp [oneE], ?_⟩)
    simp [accE]
  · refine .inr (.inr ⟨by simp [accE], ?_⟩)
    simp [oneE, accE]
    try omega
  · refine .inr (.inr ⟨by simp [accE], ?_⟩)
    simp [oneE, accE]
    try omega
  · refine .inr (.inr ⟨by simp [accE], ?_⟩)
    simp [oneE, accE]
    try omega
  · refine .inr (.inl ⟨by simp [oneE], ?_⟩)
    simp [accE]
theorem agrees_4_1 (v e : Int) (h0 : 0 ≤ v) (h1 : v ≤ 255) : Agrees 1 v e 4 := by
  rcases (by omega : e + 4 ≤ 0 ∨ 1 ≤ e ∨ e = -3 ∨ e = -2 ∨ e = -1 ∨ e = 0) with h | h | rfl | rfl | rfl | rfl
  · refine .inl ⟨by unfold oneE; rw [if_pos (by omega)], ?_⟩
    have a0 : accE 1 v e 4 0 = (0, 0) := rfl
    have a1 : accE 1 v e 4 1 = accE 1 v e 4 0 := accE_out 0 (by omega)
    have a2 : accE 1 v e 4 2 = accE 1 v e 4 1 := accE_out 1 (by omega)
    have a3 : accE 1 v e 4 3 = accE 1 v e 4 2 := accE_out 2 (by omega)
    have a4 : accE 1 v e 4 4 = accE 1 v e 4 3 := accE_out 3 (by omega)
    rw [a4, a3, a2, a1, a0]
  · refine .inl ⟨by unfold oneE; rw [if_pos (by omega)], ?_⟩
    have a0 : accE 1 v e 4 0 = (0, 0) := rfl
    have a1 : accE 1 v e 4 1 = accE 1 v e 4 0 := accE_out 0 (by omega)
    have a2 : accE 1 v e 4 2 = accE 1 v e 4 1 := accE_out 1 (by omega)
    have a3 : accE 1 v e 4 3 = accE 1 v e 4 2 := accE_out 2 (by omega)
    have a4 : accE 1 v e 4 4 = accE 1 v e 4 3 := accE_out 3 (by omega)
    rw [a4, a3, a2, a1, a0]
  · refine .inr (.inl ⟨by simp [oneE], ?_⟩)
    simp [accE]
  · refine .inr (.inl ⟨by simp [oneE], ?_⟩)
    simp [accE]
  · refine .inr (.inl ⟨by simp [oneE], ?_⟩)
    simp [accE]
  · refine .inr (.inl ⟨by simp [oneE], ?_⟩)
    simp [accE]
theorem agrees_4_2 (v e : Int) (h0 : 0 ≤ v) (h1 : v ≤ 65535) : Agrees 2 v e 4 := by
  rcases (by omega : e + 4 ≤ 0 ∨ 2 ≤ e ∨ e = -3 ∨ e = -2 ∨ e = -1 ∨ e = 0 ∨ e = 1) with h | h | rfl | rfl | rfl | rfl | rfl
  · refine .inl ⟨by unfold oneE; rw [if_pos (by omega)], ?_⟩
    have a0 : accE 2 v e 4 0 = (0, 0) := rfl
    have a1 : accE 2 v e 4 1 = accE 2 v e 4 0 := accE_out 0 (by omega)
    have a2 : accE 2 v e 4 2 = accE 2 v e 4 1 := accE_out 1 (by omega)
    have a3 : accE 2 v e 4 3 = accE 2 v e 4 2 := accE_out 2 (by omega)
    have a4 : accE 2 v e 4 4 = accE 2 v e 4 3 := accE_out 3 (by omega)
    rw [a4, a3, a2, a1, a0]
  · refine .inl ⟨by unfold oneE; rw [if_pos (by omega)], ?_⟩
    have a0 : accE 2 v e 4 0 = (0, 0) := rfl
    have a1 : accE 2 v e 4 1 = accE 2 v e 4 0 := accE_out 0 (by omega)
    have a2 : accE 2 v e 4 2 = accE 2 v e 4 1 := accE_out 1 (by omega)
    have a3 : accE 2 v e 4 3 = accE 2 v e 4 2 := accE_out 2 (by omega)
    have a4 : accE 2 v e 4 4 = accE 2 v e 4 3 := accE_out 3 (by omega)
    rw [a4, a3, a2, a1, a0]
  · refine .inr (.inl ⟨by simp [oneE], ?_⟩)
    simp [accE]
  · refine .inr (.inl ⟨by simp [oneE], ?_⟩)
    simp [accE]
  · refine .inr (.inl ⟨by simp [oneE], ?_⟩)
    simp [accE]
  · refine .inr (.inl ⟨by simp [oneE], ?_⟩)
    simp [accE]
  · refine .inr (.inl ⟨by simp [oneE], ?_⟩)
    simp [accE]
theorem agrees_4_4 (v e : Int) (h0 : 0 ≤ v) (h1 : v ≤ 4294967295) : Agrees 4 v e 4 := by
  rcases (by omega : e + 4 ≤ 0 ∨ 4 ≤ e ∨ e = -3 ∨ e = -2 ∨ e = -1 ∨ e = 0 ∨ e = 1 ∨ e = 2 ∨ e = 3) with h | h | rfl | rfl | rfl | rfl | rfl | rfl | rfl
  · refine .inl ⟨by unfold oneE; rw [if_pos (by omega)], ?_⟩
    have a0 : accE 4 v e 4 0 = (0, 0) := rfl
    have a1 : accE 4 v e 4 1 = accE 4 v e 4 0 := accE_out 0 (by omega)
    have a2 : accE 4 v e 4 2 = accE 4 v e 4 1 := accE_out 1 (by omega)
    have a3 : accE 4 v e 4 3 = accE 4 v e 4 2 := accE_out 2 (by omega)
    have a4 : accE 4 v e 4 4 = accE 4 v e 4 3 := accE_out 3 (by omega)
    rw [a4, a3, a2, a1, a0]
  · refine .inl ⟨by unfold oneE; rw [if_pos (by omega)], ?_⟩
    have a0 : accE 4 v e 4 0 = (0, 0) := rfl
    have a1 : accE 4 v e 4 1 = accE 4 v e 4 0 := accE_out 0 (by omega)
    have a2 : accE 4 v e 4 2 = accE 4 v e 4 1 := accE_out 1 (by omega)
    have a3 : accE 4 v e 4 3 = accE 4 v e 4 2 := accE_out 2 (by omega)
    have a4 : accE 4 v e 4 4 = accE 4 v e 4 3 := accE_out 3 (by omega)
    rw [a4, a3, a2, a1, a0]
  · refine .inr (.inl ⟨by simp [oneE], ?_⟩)
    simp [accE]
  · refine .inr (.inl ⟨by simp [oneE], ?_⟩)
    simp [accE]
  · refine .inr (.inl ⟨by simp [oneE], ?_⟩)
    simp [accE]
  · refine .inr (.inr ⟨by simp [accE], ?_⟩)
    simp [oneE, accE]
    try omega
  · refine .inr (.inl ⟨by simp [oneE], ?_⟩)
    simp [accE]
  · refine .inr (.inl ⟨by simp [oneE], ?_⟩)
    simp [accE]
  · refine .inr (.inl ⟨by simp [oneE], ?_⟩)
    simp [accE]
theorem agrees (s : Store) (hs : storeNum s = 0) (hf : s.Fits) (e : Int) (w : Nat) (hw : w = 1 ∨ w = 2 ∨ w = 4) : Agrees s.width s.value e w := by
  have h0 := hf.v0
  have h1 := hf.v1
  rcases good_width hs with ⟨h, h2⟩ | ⟨h, h2⟩ | h <;> rw [h] <;> rcases hw with rfl | rfl | rfl
  · exact agrees_1_1 _ _ h0 h2
  · exact agrees_2_1 _ _ h0 h2
  · exact agrees_4_1 _ _ h0 h2
  · exact agrees_1_2 _ _ h0 h2
  · exact agrees_2_2 _ _ h0 h2
  · exact agrees_4_2 _ _ h0 h2
  · exact agrees_1_4 _ _ h0 h1
  · exact agrees_2_4 _ _ h0 h1
  · exact agrees_4_4 _ _ h0 h1
end Go.Proofs.Ytknjlmpjkkkilaa
