/- Contracts of image's Write and Read: bytes of a value. -/
import Derived.Test.YtbpjbhcehgeggaaImgC
import Derived.Test.YtbpjbhcehgeggaaMaps
import Derived.Lib.Hide
import Derived.RegionTactic
import Derived.ChangeAlike
namespace Go.Proofs.Ytbpjbhcehgeggaa
open Go.RowKit
set_option linter.unusedVariables false
set_option linter.unusedSimpArgs false
attribute [local go_sem] World.cell? World.frozen? heap_drew newKey_nil newKey_cons

/-- The lowest bytes of a word, the lowest one ahead. -/
def le (v : Int) (n : Nat) : List Int := (List.range n).map fun k => v / 2 ^ (8 * k) % 256
@[simp] theorem le_length (v : Int) (n : Nat) : (le v n).length = n := by simp [le]
theorem le_succ (v : Int) (n : Nat) : le v (n + 1) = le v n ++ [v / 2 ^ (8 * n) % 256] := by simp [le, List.range_succ]
theorem le_range (v : Int) (n : Nat) : ∀ x ∈ le v n, 0 ≤ x ∧ x ≤ 255 := by
  intro x hx; simp only [le, List.mem_map] at hx; obtain ⟨k, _, rfl⟩ := hx; omega

theorem over_set {α : Type} (l : List α) (o : Nat) (m : List α) (x : α) (h : o + m.length < l.length) : (over l o m).set (o + m.length) x = over l o (m ++ [x]) := by
  have h1 : (l.take o).length = o := by simp; omega
  simp only [over]
  rw [List.set_append_right _ _ (by omega), List.set_append_right _ _ (by omega), h1]
  simp only [Nat.add_sub_cancel_left, Nat.sub_self, List.append_assoc, List.length_append, List.length_singleton]
  rw [List.drop_eq_getElem_cons h]
  simp [Nat.add_assoc]

theorem write1_ok (d o c n : Nat) (v : Int) (cur : List Value) (t2 : TypeId) (w : World) (hn : n ≤ 4) (h0 : 0 ≤ v) (h4 : v ≤ 4294967295) (hdc : d ≠ c)
    (hd : w.heap[d]? = some (.cells cur.toArray 5 (0, 0))) (ho : o + n ≤ cur.length) (hc : w.heap[c]? = some (.cells #[.int .u32 v] t2 (0, 0))) :
    Calls Try.prog 24 #[.slice (some ⟨d, o, none⟩) n n, .pointer (some ⟨c, 0, none⟩)] w fun e w' => e = .returned (.tuple #[]) ∧
      w'.heap[d]? = some (.cells (over cur o (u8s (le v n))).toArray 5 (0, 0)) ∧ Mod (· = d) w w' := by
  go_enter Try.func24, Try.ntmps24
  go_wp2_with fail
  go_loopw [6] (fun i wr => ∃ k : Nat, k ≤ n ∧ i = .int .i64 k ∧ wr.heap[d]? = some (.cells (over cur o (u8s (le v k))).toArray 5 (0, 0)) ∧ Mod (· = d) w wr) (fun i _ => n - (intOf i).toNat)
  case atStart => exact ⟨0, by omega, rfl, by simpa [over, le, u8s] using hd, Mod.refl _ _⟩
  case round =>
    obtain ⟨k, hk, rfl, hd1, hm1⟩ := hrel
    have hc1 := hm1.at hc (fun e => hdc e.symm)
    by_cases hlt : k < n
    · obtain ⟨x, hx⟩ : ∃ x, (over cur o (u8s (le v k)))[o + k]? = some x := ⟨_, List.getElem?_eq_getElem (by rw [over_length _ _ _ (by simp; omega)]; omega)⟩
      go_wp2_with fail
      go_roundw
      case rel =>
        refine ⟨k + 1, by omega, by go_num, ?_, hm1.setCell (.inl rfl) _⟩
        rw [heap_setCell_same _ _ _ _ _ _ hd1]
        have := over_set cur o (u8s (le v k)) (.int .u8 (v / 2 ^ (8 * k) % 256)) (by simp; omega)
        simp only [u8s_length, le_length] at this
        simp only [List.setIfInBounds_toArray, this, le_succ]
        simp [u8s]
      case measure => simp [intOf]; omega
    · obtain rfl : k = n := by omega
      go_wp2_with fail
      go_end0
      exact ⟨rfl, hd1, hm1⟩

/-- The value of bytes, the lowest one ahead. -/
def leSum : List Int → Int
  | [] => 0
  | x :: xs => x + 256 * leSum xs
theorem pow8 (n : Nat) : (2 : Int) ^ (8 * (n + 1)) = 256 * 2 ^ (8 * n) := by
  rw [Nat.mul_add, Int.pow_add]; simp [Int.mul_comm]
theorem leSum_snoc (x : Int) : ∀ l : List Int, leSum (l ++ [x]) = leSum l + x * 2 ^ (8 * l.length)
  | [] => by simp [leSum]
  | y :: l => by
    simp only [List.cons_append, leSum, leSum_snoc x l, List.length_cons, pow8]
    rw [Int.mul_add, ← Int.add_assoc, Int.mul_left_comm]
theorem leSum_bound : ∀ l : List Int, (∀ x ∈ l, 0 ≤ x ∧ x ≤ 255) → 0 ≤ leSum l ∧ leSum l < 2 ^ (8 * l.length)
  | [], _ => by simp [leSum]
  | y :: l, h => by
    have h1 := h y (by simp)
    have h2 := leSum_bound l (fun x hx => h x (by simp [hx]))
    simp only [leSum, List.length_cons, pow8]
    omega
theorem or_u32 (k : Nat) (hk : k < 4) (s x : Int) (h0 : 0 ≤ s) (h1 : s < 2 ^ (8 * k)) (hx0 : 0 ≤ x) (hx1 : x ≤ 255) :
    bits .or .u32 s (x * 2 ^ (8 * k) % 4294967296) = s + x * 2 ^ (8 * k) := by
  have hc : bits .or .u32 s (x * 2 ^ (8 * k) % 4294967296) = bits .or .u32 (x * 2 ^ (8 * k) % 4294967296) s := by simp only [bits, BitVec.or_comm]
  rw [hc]
  have hw : ∀ n : Int, 0 ≤ n → n < 2 ^ 32 → IntKind.u32.wrap n = n := fun n a b => IntWalk.u32_in n (by omega)
  match k, hk with
  | 0, _ => rw [bits_join .u32 32 (by decide) hw 0 _ _ (by omega) (by first | (simp; done) | (simp; omega)) (by omega) h0 (by simpa using h1) (by simp at h1 ⊢; omega)]; simp at h1 ⊢; omega
  | 1, _ => rw [bits_join .u32 32 (by decide) hw 8 _ _ (by omega) (by first | (simp; done) | (simp; omega)) (by omega) h0 (by simpa using h1) (by simp at h1 ⊢; omega)]; simp at h1 ⊢; omega
  | 2, _ => rw [bits_join .u32 32 (by decide) hw 16 _ _ (by omega) (by first | (simp; done) | (simp; omega)) (by omega) h0 (by simpa using h1) (by simp at h1 ⊢; omega)]; simp at h1 ⊢; omega
  | 3, _ => rw [bits_join .u32 32 (by decide) hw 24 _ _ (by omega) (by first | (simp; done) | (simp; omega)) (by omega) h0 (by simpa using h1) (by simp at h1 ⊢; omega)]; simp at h1 ⊢; omega

theorem read1_ok (d o c n : Nat) (cur : List Value) (bs : List Int) (t2 t1 : TypeId) (w : World) (hn : n ≤ 4) (hdc : d ≠ c)
    (hd : w.heap[d]? = some (.cells cur.toArray t1 (0, 0))) (hl : bs.length = n) (hs : ∀ j v, (u8s bs)[j]? = some v → cur[o + j]? = some v) (hb : ∀ x ∈ bs, 0 ≤ x ∧ x ≤ 255) (hc : w.heap[c]? = some (.cells #[.int .u32 0] t2 (0, 0))) :
    Calls Try.prog 25 #[.slice (some ⟨d, o, none⟩) n n, .pointer (some ⟨c, 0, none⟩)] w fun e w' => e = .returned (.tuple #[]) ∧
      w'.heap[c]? = some (.cells #[.int .u32 (leSum bs)] t2 (0, 0)) ∧ Mod (· = c) w w' := by
  go_enter Try.func25, Try.ntmps25
  go_wp2_with fail
  go_loopw [7] (fun i wr => ∃ k : Nat, k ≤ n ∧ i = .int .i64 k ∧ wr.heap[c]? = some (.cells #[.int .u32 (leSum (bs.take k))] t2 (0, 0)) ∧ Mod (· = c) w wr) (fun i _ => n - (intOf i).toNat)
  case atStart => exact ⟨0, by omega, rfl, by simpa [leSum] using hc, Mod.refl _ _⟩
  case round =>
    obtain ⟨k, hk, rfl, hc1, hm1⟩ := hrel
    have hd1 := hm1.at hd hdc
    by_cases hlt : k < n
    · have hlk : k < bs.length := by omega
      have hx : cur[o + k]? = some (.int .u8 bs[k]) := hs k _ (by simp [u8s, hlk])
      have hbx := hb bs[k] (List.getElem_mem hlk)
      have hsum := leSum_bound (bs.take k) (fun x hx => hb x (List.mem_of_mem_take hx))
      have hlen : (bs.take k).length = k := by simp; omega
      rw [hlen] at hsum
      have hor := or_u32 k (by omega) (leSum (bs.take k)) bs[k] hsum.1 hsum.2 hbx.1 hbx.2
      have hsnoc : leSum (bs.take (k + 1)) = leSum (bs.take k) + bs[k] * 2 ^ (8 * k) := by
        rw [List.take_succ_eq_append_getElem hlk, leSum_snoc, hlen]
      have HS := Lib.hid hsnoc
      have HO := Lib.hid hor
      clear hs hlen hsnoc hor hsum
      generalize bs[k] = x at *
      generalize leSum (bs.take k) = s at *
      go_wp2_with fail
      go_region
      go_wp2_with fail
      go_roundw
      case rel =>
        refine ⟨k + 1, by omega, by go_num, ?_, (hm1.setCell (.inl rfl) _).drew⟩
        rw [heap_drew, heap_setCell_same _ _ _ _ _ _ hc1, HO.out, HS.out]
        rfl
      case measure => simp [intOf]; omega
    · obtain rfl : k = n := by omega
      rw [← hl, List.take_length] at hc1
      go_wp2_with fail
      go_end0
      exact ⟨rfl, hc1, hm1⟩
end Go.Proofs.Ytbpjbhcehgeggaa
