/- The buffer: a ring of four stores; New, Len, at, Push. -/
import Derived.Test.YtknjlmpjkkkilaaBufA
import Derived.Test.YtknjlmpjkkkilaaRowD
namespace Go.Proofs.Ytknjlmpjkkkilaa
open Go.RowKit
set_option linter.unusedVariables false
set_option linter.unusedSimpArgs false

def zeroStore : Store := ⟨0, 0, 0⟩
theorem zeroStore_fits : zeroStore.Fits := ⟨by decide, by decide, by decide, by decide⟩
/-- The cells of a ring of four, of the first one's place, of how many there are. -/
def ringCells (r : List Store) (f n : Nat) : List Value := r.flatMap Store.cells ++ [.int .i64 f, .int .i64 n]
/-- A buffer lies at p: these stores wait. -/
structure Buf (w : World) (p : Nat) (l : List Store) : Prop where
  ex : ∃ (r : List Store) (f : Nat), w.heap[p]? = some (.cells (ringCells r f l.length).toArray 63 (0, 0)) ∧ r.length = 4 ∧ f < 4 ∧ ∀ k, k < l.length → r[(f + k) % 4]? = l[k]?
  four : l.length ≤ 4
  fits : ∀ s ∈ l, s.Fits
theorem Buf.keep {w w' : World} {S : Nat → Prop} {p : Nat} {l : List Store} (h : Buf w p l) (hm : Mod S w w') (hp : ¬ S p) : Buf w' p l := by
  obtain ⟨r, f, h1, h2⟩ := h.ex
  exact ⟨⟨r, f, hm.at h1 hp, h2⟩, h.four, h.fits⟩
theorem Buf.lt {w : World} {p : Nat} {l : List Store} (h : Buf w p l) : p < w.heap.size := by
  obtain ⟨r, f, h1, h2⟩ := h.ex
  exact lt_of_block h1

theorem ring4 {r : List Store} (h : r.length = 4) : ∃ a b c d, r = [a, b, c, d] := by
  match r, h with
  | [a, b, c, d], _ => exact ⟨a, b, c, d, rfl⟩
/-- The k-th place of a ring. -/
theorem ringCells_at {r : List Store} (f n : Nat) (q : Nat) (s : Store) (hr : r[q]? = some s) (h4 : r.length = 4) : ∀ j v, s.cells[j]? = some v → (ringCells r f n)[q * 3 + j]? = some v := by
  obtain ⟨a, b, c, d, rfl⟩ := ring4 h4
  intro j v hj
  have hq : q < 4 := by have := (List.getElem?_eq_some_iff.1 hr).1; simpa using this
  have hj3 : j < 3 := by have := (List.getElem?_eq_some_iff.1 hj).1; simpa [Store.cells] using this
  rcases (by omega : q = 0 ∨ q = 1 ∨ q = 2 ∨ q = 3) with rfl | rfl | rfl | rfl <;> (simp at hr; subst hr; rcases (by omega : j = 0 ∨ j = 1 ∨ j = 2) with rfl | rfl | rfl <;> exact hj)
theorem ringCells_first {r : List Store} (f n : Nat) (h4 : r.length = 4) : (ringCells r f n)[12]? = some (.int .i64 f) := by
  obtain ⟨a, b, c, d, rfl⟩ := ring4 h4
  rfl
theorem ringCells_n {r : List Store} (f n : Nat) (h4 : r.length = 4) : (ringCells r f n)[13]? = some (.int .i64 n) := by
  obtain ⟨a, b, c, d, rfl⟩ := ring4 h4
  rfl
/-- A store is written into the ring. -/
theorem ringCells_set {r : List Store} (f n : Nat) (q : Nat) (hq : q < 4) (s : Store) (h4 : r.length = 4) :
    (((ringCells r f n).toArray.setIfInBounds (q * 3) (.int .u32 s.addr)).setIfInBounds (q * 3 + 1) (.int .i64 s.width)).setIfInBounds (q * 3 + 2) (.int .u32 s.value) = (ringCells (r.set q s) f n).toArray := by
  obtain ⟨a, b, c, d, rfl⟩ := ring4 h4
  rcases (by omega : q = 0 ∨ q = 1 ∨ q = 2 ∨ q = 3) with rfl | rfl | rfl | rfl <;> rfl
theorem ringCells_setN {r : List Store} (f n m : Nat) (h4 : r.length = 4) : (ringCells r f n).toArray.setIfInBounds 13 (.int .i64 m) = (ringCells r f m).toArray := by
  obtain ⟨a, b, c, d, rfl⟩ := ring4 h4
  rfl
theorem ringCells_setF {r : List Store} (f g n : Nat) (h4 : r.length = 4) : (ringCells r f n).toArray.setIfInBounds 12 (.int .i64 g) = (ringCells r g n).toArray := by
  obtain ⟨a, b, c, d, rfl⟩ := ring4 h4
  rfl

theorem new_ok (w : World) : Calls Try.prog 9 #[] w fun e w' => ∃ p, e = .returned (.pointer (some ⟨p, 0, none⟩)) ∧ Buf w' p [] ∧ w.heap.size ≤ p ∧ Mod (fun _ => False) w w' := by
  go_enter Try.func9, Try.ntmps9
  go_wp2
  go_ret
  exact ⟨_, rfl, ⟨⟨[zeroStore, zeroStore, zeroStore, zeroStore], 0, blk_new _ _, rfl, by omega, by simp⟩, by simp, by simp⟩, Nat.le_refl _, (Mod.refl _ _).alloc _⟩
theorem len_nil (w : World) : Calls Try.prog 21 #[.pointer none] w fun e w' => e = .returned (.int .i64 0) ∧ w' = w := by
  go_enter Try.func21, Try.ntmps21
  go_wp2
  go_ret
  exact ⟨rfl, rfl⟩
theorem len_ok (w : World) (p : Nat) (l : List Store) (h : Buf w p l) : Calls Try.prog 21 #[.pointer (some ⟨p, 0, none⟩)] w fun e w' => e = .returned (.int .i64 l.length) ∧ w' = w := by
  obtain ⟨r, f, h1, h2, h3, h4⟩ := h.ex
  have hc : w.cell? ⟨p, 13, none⟩ = some (.int .i64 l.length) := by rw [cell_of w h1, List.getElem?_toArray]; exact ringCells_n f _ h2
  clear h1
  go_enter Try.func21, Try.ntmps21
  go_wp2
  go_ret
  exact ⟨rfl, rfl⟩
/-- The k-th store's place. -/
theorem at_ok (w : World) (p : Nat) (r : List Store) (f n k : Nat) (h1 : w.heap[p]? = some (.cells (ringCells r f n).toArray 63 (0, 0))) (h2 : r.length = 4) (hf : f < 4) (hk : k ≤ 4) :
    Calls Try.prog 26 #[.pointer (some ⟨p, 0, none⟩), .int .i64 k] w fun e w' => e = .returned (.pointer (some ⟨p, (f + k) % 4 * 3, none⟩)) ∧ ∃ m, w' = w.drewN m := by
  have hc : w.cell? ⟨p, 12, none⟩ = some (.int .i64 f) := by rw [cell_of w h1, List.getElem?_toArray]; exact ringCells_first f _ h2
  clear h1
  have e1 : IntKind.i64.wrap ((f : Int) + k) = (f : Int) + k := by rw [IntKind.wrap_i64]; omega
  have e2 : (0 : Int) ≤ (f : Int) + k := by omega
  have e3 : ((f : Int) + k).tmod 4 = (((f + k) % 4 : Nat) : Int) := by rw [Int.tmod_eq_emod_of_nonneg (by omega)]; omega
  have e4 : (f + k) % 4 < 4 := Nat.mod_lt _ (by omega)
  generalize (f + k) % 4 = q at *
  have e5 : (0 : Int) ≤ (q : Int) := by omega
  have e6 : (q : Int) < 4 := by omega
  go_enter Try.func26, Try.ntmps26
  go_wp2_with fail
  go_quiet (fail)
  go_wp2
  go_ret
  exact ⟨rfl, _, rfl⟩

/-- What Push tells, and what waits behind it. -/
def pushNum (l : List Store) (s : Store) : Int := if storeNum s = 0 then (if 4 ≤ l.length then 240 else 0) else storeNum s
def pushList (l : List Store) (s : Store) : List Store := if pushNum l s = 0 then l ++ [s] else l
theorem storeNum_cases (s : Store) : storeNum s = 0 ∨ storeNum s = 2 ∨ storeNum s = 120 := by
  unfold storeNum
  split
  · split <;> simp
  · simp

theorem push_nil (w : World) (a n v : Int) : Calls Try.prog 10 #[.pointer none, .agg #[.int .u32 a, .int .i64 n, .int .u32 v]] w fun e w' => e = .returned (.int .i64 1) ∧ Mod (fun _ => False) w w' := by
  go_enter Try.func10, Try.ntmps10
  go_wp2
  go_ret
  exact ⟨rfl, by (repeat first | exact Mod.refl _ _ | assumption | apply Mod.drew | apply Mod.drewN | apply Mod.alloc | (refine Mod.setCell ?_ (Or.inr (by (first | (with_reducible exact Nat.le_refl _) | ((try simp only [World.size_alloc, World.size_setCell, World.size_drew] at *); omega)))) _) | (refine Mod.trans ?_ (by assumption)))⟩
section
attribute [local go_sem] heap_drew blk_past cell_past free_past
set_option maxHeartbeats 1000000 in
theorem push_ok (w : World) (p : Nat) (l : List Store) (h : Buf w p l) (s : Store) (hs : s.Fits) :
    Calls Try.prog 10 #[.pointer (some ⟨p, 0, none⟩), .agg s.cells.toArray] w fun e w' => e = .returned (.int .i64 (pushNum l s)) ∧ Buf w' p (pushList l s) ∧ Mod (fun k => k = p) w w' := by
  have hright := right_ok (s := s) (h := hs)
  obtain ⟨a, n, v⟩ := s
  simp only [Store.cells] at hright ⊢
  go_enter Try.func10, Try.ntmps10
  go_upto_region 4 with fail
  obtain ⟨hbS, hbW, hmA⟩ := allocs2 w (Obj.cells #[Value.int IntKind.u32 a, Value.int IntKind.i64 n, Value.int IntKind.u32 v] 24) (Obj.cells #[Value.int IntKind.u32 a, Value.int IntKind.i64 n, Value.int IntKind.u32 v] 60)
  have hpl := h.lt
  have hbp : w.heap.size + 1 ≠ p := by omega
  clear hbS
  generalize w.heap.size + 1 = b5 at *
  generalize w.heap.size = b3 at *
  generalize (w.alloc (Obj.cells #[Value.int IntKind.u32 a, Value.int IntKind.i64 n, Value.int IntKind.u32 v] 24)).alloc (Obj.cells #[Value.int IntKind.u32 a, Value.int IntKind.i64 n, Value.int IntKind.u32 v] 60) = w1 at *
  replace h := h.keep hmA (fun x => x)
  have c0 : w1.cell? ⟨b5, 0, none⟩ = some (.int .u32 a) := cell_of w1 hbW 0
  have c1 : w1.cell? ⟨b5, 1, none⟩ = some (.int .i64 n) := cell_of w1 hbW 1
  have c2 : w1.cell? ⟨b5, 2, none⟩ = some (.int .u32 v) := cell_of w1 hbW 2
  go_wp2_with fail
  refine (hright _).mono ?_
  rintro e w2 ⟨rfl, hm2⟩
  replace hbW := hm2.at hbW (fun x => x)
  replace h := h.keep hm2 (fun x => x)
  replace hmA := hmA.trans hm2
  have hmp : Mod (fun k => k = p) w w2 := hmA.mono (fun _ _ x => x.elim)
  clear hm2 c0 c1 c2 hright
  rcases storeNum_cases ⟨a, n, v⟩ with hn | hn | hn
  · obtain ⟨r, f, h1, h2, h3, h4⟩ := h.ex
    have hc : w2.cell? ⟨p, 13, none⟩ = some (.int .i64 l.length) := by rw [cell_of w2 h1, List.getElem?_toArray]; exact ringCells_n f _ h2
    have hl4 := h.four
    have hnn : ((0 : Int) != 0) = false := rfl
    rw [hn]
    rcases (by omega : l.length = 4 ∨ l.length < 4) with hl | hl
    · have hres : pushNum l ⟨a, n, v⟩ = 240 := by simp [pushNum, hn, hl]
      have hres2 : pushList l ⟨a, n, v⟩ = l := by simp [pushList, hres]
      rw [hl] at hc
      go_wp2
      go_ret
      rw [hres, hres2]
      exact ⟨rfl, h, hmp⟩
    · have hres : pushNum l ⟨a, n, v⟩ = 0 := by simp [pushNum, hn]; omega
      have hres2 : pushList l ⟨a, n, v⟩ = l ++ [⟨a, n, v⟩] := by simp [pushList, hres]
      have hne : ((l.length : Int) == 4) = false := by simp; omega
      go_upto_region 9 with fail
      go_cut [] (fun wx => wx.heap[p]? = some (.cells (ringCells (r.set ((f + l.length) % 4) ⟨a, n, v⟩) f l.length).toArray 63 (0, 0)) ∧ Mod (fun k => k = p) w2 wx)
      case first =>
        have c0 : w2.cell? ⟨b5, 0, none⟩ = some (.int .u32 a) := cell_of w2 hbW 0
        have c1 : w2.cell? ⟨b5, 1, none⟩ = some (.int .i64 n) := cell_of w2 hbW 1
        have c2 : w2.cell? ⟨b5, 2, none⟩ = some (.int .u32 v) := cell_of w2 hbW 2
        have hat := fun m => at_ok (w2.drewN m) p r f l.length l.length h1 h2 h3 (by omega)
        obtain ⟨s0, hs0⟩ : ∃ s0, r[(f + l.length) % 4]? = some s0 := ⟨_, List.getElem?_eq_getElem (by rw [h2]; exact Nat.mod_lt _ (by omega))⟩
        have hold := ringCells_at f l.length _ s0 hs0 h2
        have hset := ringCells_set f l.length ((f + l.length) % 4) (Nat.mod_lt _ (by omega)) ⟨a, n, v⟩ h2
        generalize (f + l.length) % 4 = q at *
        have g0 := free_of w2 h1 (q * 3)
        have g1 := free_of w2 h1 (q * 3 + 1)
        have g2 := free_of w2 h1 (q * 3 + 2)
        have k0 : w2.cell? ⟨p, q * 3, none⟩ = some (.int .u32 s0.addr) := by rw [cell_of w2 h1, List.getElem?_toArray]; exact hold 0 _ rfl
        have k1 : w2.cell? ⟨p, q * 3 + 1, none⟩ = some (.int .i64 s0.width) := by rw [cell_of w2 h1, List.getElem?_toArray]; exact hold 1 _ rfl
        have k2 : w2.cell? ⟨p, q * 3 + 2, none⟩ = some (.int .u32 s0.value) := by rw [cell_of w2 h1, List.getElem?_toArray]; exact hold 2 _ rfl
        clear hold
        go_region_with (go_at_call 26; refine (hat _).mono ?_; rintro e wb ⟨rfl, m, rfl⟩)
        all_goals (
          go_wp2_with fail
          go_meet
          case rel => exact ⟨by rw [← hset]; exact set3 (w := w2) h1, (Mod.drewN' w2 _).trans (Mod.set3 (S := fun k => k = p) rfl)⟩)
      case rest =>
        obtain ⟨hbp', hmc⟩ := hcut
        have h2' : (r.set ((f + l.length) % 4) ⟨a, n, v⟩).length = 4 := by rw [List.length_set]; exact h2
        have hc' : wc.cell? ⟨p, 13, none⟩ = some (.int .i64 l.length) := by rw [cell_of wc hbp', List.getElem?_toArray]; exact ringCells_n f _ h2'
        have hf' := free_of wc hbp' 13
        have hnew := heap_setCell_same wc p 13 _ _ (.int .i64 (l.length + 1 : Nat)) hbp'
        rw [ringCells_setN _ _ _ h2'] at hnew
        clear hbp'
        have e1 : ((l.length + 1 : Nat) : Int) = (l.length : Int) + 1 := by omega
        rw [e1] at hnew
        go_wp2
        go_ret
        rw [hres, hres2]
        refine ⟨rfl, ⟨⟨_, f, by rw [List.length_append]; exact hnew, h2', h3, ?_⟩, by simp; omega, ?_⟩, ((hmp.trans hmc).setCell (.inl rfl) _)⟩
        · intro k hk
          simp only [List.length_append, List.length_cons, List.length_nil, Nat.zero_add] at hk
          rcases (by omega : k = l.length ∨ k < l.length) with rfl | hk'
          · rw [List.getElem?_set_self (by rw [h2]; exact Nat.mod_lt _ (by omega))]
            simp
          · rw [List.getElem?_set_ne (by omega), h4 k hk', List.getElem?_append_left hk']
        · intro s hs'
          rcases List.mem_append.1 hs' with hh | hh
          · exact h.fits s hh
          · simp at hh; subst hh; exact hs
  · have hres : pushNum l ⟨a, n, v⟩ = 2 := by simp [pushNum, hn]
    have hres2 : pushList l ⟨a, n, v⟩ = l := by simp [pushList, hres]
    rw [hn]
    go_wp2
    go_ret
    rw [hres, hres2]
    exact ⟨rfl, h, hmp⟩
  · have hres : pushNum l ⟨a, n, v⟩ = 120 := by simp [pushNum, hn]
    have hres2 : pushList l ⟨a, n, v⟩ = l := by simp [pushList, hres]
    rw [hn]
    go_wp2
    go_ret
    rw [hres, hres2]
    exact ⟨rfl, h, hmp⟩
end
end Go.Proofs.Ytknjlmpjkkkilaa
