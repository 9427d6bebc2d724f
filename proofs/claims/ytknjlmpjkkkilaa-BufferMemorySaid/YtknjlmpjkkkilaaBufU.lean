/- What a load has of stores that wait is what memory would have, if they were written in order: plain law. -/
import Derived.Test.YtknjlmpjkkkilaaBufG
namespace Go.Proofs.Ytknjlmpjkkkilaa
open Go.RowKit
set_option linter.unusedVariables false
set_option linter.unusedSimpArgs false

/-- The value of n bytes from a, the lowest ahead. -/
def lev (m : Nat → Int) (a : Nat) : Nat → Int
  | 0 => 0
  | n + 1 => m a + 256 * lev m (a + 1) n
/-- Bytes with a store in them. -/
def wrF (m : Nat → Int) (s : Store) : Nat → Int := fun i => if s.addr ≤ (i : Int) ∧ (i : Int) < s.addr + s.width then s.value / 256 ^ ((i : Int) - s.addr).toNat % 256 else m i
def wrsF (m : Nat → Int) (l : List Store) : Nat → Int := l.foldl wrF m
theorem wrsF_snoc (m : Nat → Int) (l : List Store) (s : Store) : wrsF m (l ++ [s]) = wrF (wrsF m l) s := by
  unfold wrsF; rw [List.foldl_append]; rfl
theorem lev_congr (m m' : Nat → Int) : ∀ (n a : Nat), (∀ i, a ≤ i → i < a + n → m i = m' i) → lev m a n = lev m' a n
  | 0, _, _ => rfl
  | n + 1, a, h => by
    rw [lev, lev, h a (by omega) (by omega), lev_congr m m' n (a + 1) (fun i h1 h2 => h i (by omega) (by omega))]
theorem lev_nonneg (m : Nat → Int) (h : ∀ i, 0 ≤ m i ∧ m i ≤ 255) : ∀ n a, 0 ≤ lev m a n ∧ lev m a n < 256 ^ n
  | 0, _ => by simp [lev]
  | n + 1, a => by
    have h1 := lev_nonneg m h n (a + 1)
    have h2 := h a
    rw [lev, Int.pow_succ]
    omega

theorem one_agrees (M : Nat → Int) (s : Store) (hf : s.Fits) (hs : storeNum s = 0) (a w : Nat) (hw : w = 1 ∨ w = 2 ∨ w = 4) :
    (oneE s.width s.value ((a : Int) - s.addr) w = none ∧ lev (wrF M s) a w = lev M a w) ∨ oneE s.width s.value ((a : Int) - s.addr) w = some (0, 2) ∨ oneE s.width s.value ((a : Int) - s.addr) w = some (lev (wrF M s) a w, 1) := by
  obtain ⟨h0, h1, h2, h3⟩ := hf
  have hgw := good_width hs
  unfold oneE
  by_cases c1 : (a : Int) - s.addr + w ≤ 0 ∨ s.width ≤ (a : Int) - s.addr
  · left
    rw [if_pos c1]
    refine ⟨rfl, lev_congr _ _ _ _ fun i hi hj => ?_⟩
    unfold wrF
    rw [if_neg (by omega)]
  · rw [if_neg c1]
    by_cases c2 : (a : Int) - s.addr < 0 ∨ s.width < (a : Int) - s.addr + w
    · right; left
      rw [if_pos c2]
    · right; right
      rw [if_neg c2]
      have hb : ∀ i : Nat, i < w → wrF M s (a + i) = s.value / 256 ^ (((a : Int) - s.addr).toNat + i) % 256 := by
        intro i hi
        unfold wrF
        rw [if_pos (by omega), show (((a + i : Nat) : Int) - s.addr).toNat = ((a : Int) - s.addr).toNat + i by omega]
      obtain ⟨e, he⟩ : ∃ e : Nat, ((a : Int) - s.addr).toNat = e := ⟨_, rfl⟩
      have hea : (a : Int) - s.addr = e := by omega
      rw [he] at hb ⊢
      have he4 : e + w ≤ 4 := by omega
      congr 2
      generalize s.value = v at *
      rw [Int.toNat_natCast]
      rcases hw with rfl | rfl | rfl
      · have b0 := hb 0 (by omega)
        simp only [Nat.add_zero] at b0
        simp only [lev, b0]
        omega
      · have b0 := hb 0 (by omega)
        have b1 := hb 1 (by omega)
        simp only [Nat.add_zero] at b0
        simp only [lev, b0, b1]
        rcases (show e = 0 ∨ e = 1 ∨ e = 2 by omega) with rfl | rfl | rfl <;> simp only [Nat.zero_add, Nat.reduceAdd, Int.reducePow] <;> omega
      · have b0 := hb 0 (by omega)
        have b1 := hb 1 (by omega)
        have b2 := hb 2 (by omega)
        have b3 := hb 3 (by omega)
        obtain rfl : e = 0 := by omega
        simp only [Nat.add_zero, Nat.zero_add] at b0 b1 b2 b3
        simp only [lev, b0, b1, b2, b3, Nat.add_assoc, Nat.reduceAdd, Int.reducePow]
        omega

theorem seek_agrees (m : Nat → Int) (a w : Nat) (hw : w = 1 ∨ w = 2 ∨ w = 4) : ∀ r : List Store, (∀ s ∈ r, Good s) →
    (seek r a w = (0, 0) ∧ lev (wrsF m r.reverse) a w = lev m a w) ∨ seek r a w = (0, 2) ∨ seek r a w = (lev (wrsF m r.reverse) a w, 1)
  | [], _ => .inl ⟨rfl, rfl⟩
  | s :: r, h => by
    have ih := seek_agrees m a w hw r (fun x hx => h x (by simp [hx]))
    have hg := h s (by simp)
    rw [List.reverse_cons, wrsF_snoc]
    rcases one_agrees (wrsF m r.reverse) s hg.1 hg.2 a w hw with ⟨h1, h2⟩ | h1 | h1
    · rw [seek, h1, h2]; exact ih
    · rw [seek, h1]; exact .inr (.inl rfl)
    · rw [seek, h1]; exact .inr (.inr rfl)

/-- THE LAW: what a load has. -/
theorem fwd_agrees (m : Nat → Int) (l : List Store) (hl : ∀ s ∈ l, Good s) (a w : Nat) (hw : w = 1 ∨ w = 2 ∨ w = 4) (ha : (a : Int) % w = 0) :
    ((fwd l a w).2 = 0 ∧ lev (wrsF m l) a w = lev m a w) ∨ (fwd l a w).2 = 2 ∨ ((fwd l a w).2 = 1 ∧ (fwd l a w).1 = lev (wrsF m l) a w) := by
  have hw2 : wideB (w : Int) = true := by rcases hw with rfl | rfl | rfl <;> rfl
  unfold fwd
  rw [if_pos ⟨hw2, ha⟩]
  have h := seek_agrees m a w hw l.reverse (fun s hs => hl s (by simpa using hs))
  rw [List.reverse_reverse] at h
  rcases h with ⟨h1, h2⟩ | h1 | h1
  · exact .inl ⟨by rw [h1], h2⟩
  · exact .inr (.inl (by rw [h1]))
  · exact .inr (.inr ⟨by rw [h1], by rw [h1]⟩)

theorem fwd_last (l : List Store) (s : Store) (hs : Good s) : fwd (l ++ [s]) s.addr s.width = (s.value, 1) := by
  obtain ⟨⟨h0, h1, h2, h3⟩, hn⟩ := hs
  have hgw := good_width hn
  have hal : s.addr % s.width = 0 := by
    unfold storeNum at hn
    split at hn
    · split at hn
      · assumption
      · omega
    · omega
  have hw : wideB s.width = true := by rcases hgw with ⟨h, _⟩ | ⟨h, _⟩ | h <;> rw [h] <;> rfl
  unfold fwd
  rw [if_pos ⟨hw, hal⟩, List.reverse_append, List.reverse_singleton, List.singleton_append, seek]
  have : oneE s.width s.value (s.addr - s.addr) s.width = some (s.value, 1) := by
    unfold oneE
    rw [if_neg (by omega), if_neg (by omega), Int.sub_self]
    generalize s.value = v at *
    rcases hgw with ⟨h, _⟩ | ⟨h, _⟩ | h <;> rw [h] <;> congr 2 <;> simp <;> omega
  rw [this]

/-- The first k bytes of a store are in. -/
def lwr (ms : List Int) (s : Store) : Nat → List Int
  | 0 => ms
  | k + 1 => (lwr ms s k).set (s.addr.toNat + k) (s.value / 256 ^ k % 256)
theorem lwr_length (ms : List Int) (s : Store) : ∀ k, (lwr ms s k).length = ms.length
  | 0 => rfl
  | k + 1 => by rw [lwr, List.length_set, lwr_length]
def byteF (ms : List Int) : Nat → Int := fun i => ms.getD i 0
theorem lwr_at (ms : List Int) (s : Store) (h0 : 0 ≤ s.addr) : ∀ k : Nat, s.addr + k ≤ ms.length → ∀ i, byteF (lwr ms s k) i = if s.addr ≤ (i : Int) ∧ (i : Int) < s.addr + k then s.value / 256 ^ ((i : Int) - s.addr).toNat % 256 else byteF ms i
  | 0, _, i => by rw [if_neg (by omega)]; rfl
  | k + 1, h, i => by
    have ih := lwr_at ms s h0 k (by omega) i
    unfold byteF at ih ⊢
    rw [lwr]
    by_cases hi : s.addr.toNat + k = i
    · subst hi
      rw [if_pos (by omega), List.getD_eq_getElem?_getD, List.getElem?_set_self (by rw [lwr_length]; omega), show (((s.addr.toNat + k : Nat) : Int) - s.addr).toNat = k by omega]
      rfl
    · rw [List.getD_eq_getElem?_getD, List.getElem?_set_ne hi, ← List.getD_eq_getElem?_getD, ih]
      by_cases c : s.addr ≤ (i : Int) ∧ (i : Int) < s.addr + k
      · rw [if_pos c, if_pos (by omega)]
      · rw [if_neg c, if_neg (by omega)]
def lwrs (ms : List Int) (l : List Store) : List Int := l.foldl (fun m s => lwr m s s.width.toNat) ms
theorem lwrs_snoc (ms : List Int) (l : List Store) (s : Store) : lwrs ms (l ++ [s]) = lwr (lwrs ms l) s s.width.toNat := by
  unfold lwrs; rw [List.foldl_append]; rfl
theorem lwrs_length (ms : List Int) : ∀ (l : List Store), (lwrs ms l).length = ms.length := by
  intro l
  induction l generalizing ms with
  | nil => rfl
  | cons s l ih => show (lwrs (lwr ms s s.width.toNat) l).length = _; rw [ih, lwr_length]
theorem lwrs_is (ms : List Int) (hm : 68 ≤ ms.length) (l : List Store) (h : ∀ s ∈ l, Good s ∧ s.addr < 64) : byteF (lwrs ms l) = wrsF (byteF ms) l := by
  induction l generalizing ms with
  | nil => rfl
  | cons s l ih =>
    show byteF (lwrs (lwr ms s s.width.toNat) l) = wrsF (wrF (byteF ms) s) l
    rw [ih _ (by rw [lwr_length]; exact hm) (fun x hx => h x (by simp [hx]))]
    congr 1
    obtain ⟨⟨hf, hn⟩, ha⟩ := h s (by simp)
    have hgw := good_width hn
    have h0 := hf.a0
    funext i
    rw [lwr_at ms s h0 _ (by omega)]
    unfold wrF
    rw [show ((s.width.toNat : Nat) : Int) = s.width by omega]
def Bytes8 (ms : List Int) : Prop := ∀ x ∈ ms, 0 ≤ x ∧ x ≤ 255
theorem byteF_in {ms : List Int} (h : Bytes8 ms) (i : Nat) : 0 ≤ byteF ms i ∧ byteF ms i ≤ 255 := by
  unfold byteF
  rw [List.getD_eq_getElem?_getD]
  rcases hg : ms[i]? with _ | x
  · simp
  · exact h x (List.mem_of_getElem? hg)
theorem lwr_bytes {ms : List Int} (h : Bytes8 ms) (s : Store) : ∀ k, Bytes8 (lwr ms s k)
  | 0 => h
  | k + 1 => by
    intro x hx
    rcases List.mem_or_eq_of_mem_set hx with hx | rfl
    · exact lwr_bytes h s k x hx
    · omega
theorem lwrs_bytes {ms : List Int} (h : Bytes8 ms) (l : List Store) : Bytes8 (lwrs ms l) := by
  induction l generalizing ms with
  | nil => exact h
  | cons s l ih => exact ih (lwr_bytes h s _)
end Go.Proofs.Ytknjlmpjkkkilaa
