/- slices.Reverse of stores. -/
import Derived.Test.YtknjlmpjkkkilaaBufK
namespace Go.Proofs.Ytknjlmpjkkkilaa
open Go.RowKit
set_option linter.unusedVariables false
set_option linter.unusedSimpArgs false

theorem flat_set (s : Store) : ∀ (c : List Store) (q : Nat), q < c.length → (((flat c).set (q * 3) (.int .u32 s.addr)).set (q * 3 + 1) (.int .i64 s.width)).set (q * 3 + 2) (.int .u32 s.value) = flat (c.set q s)
  | [], q, h => absurd h (by simp)
  | x :: c, 0, _ => by simp [flat, Store.cells]
  | x :: c, q + 1, h => by
    have ih := flat_set s c q (by simpa using h)
    rw [List.set_cons_succ, flat_cons, flat_cons, ← ih]
    rw [show (q + 1) * 3 = q * 3 + 1 + 1 + 1 by omega]
    simp [Store.cells]
theorem arr_set (cur : Array Value) (c : List Store) (q : Nat) (s : Store) (h : cur.toList.take (c.length * 3) = flat c) (hq : q < c.length) :
    (((cur.setIfInBounds (q * 3) (.int .u32 s.addr)).setIfInBounds (q * 3 + 1) (.int .i64 s.width)).setIfInBounds (q * 3 + 2) (.int .u32 s.value)).toList.take ((c.set q s).length * 3) = flat (c.set q s) := by
  rw [← flat_set s c q hq, ← h, List.length_set]
  simp only [Array.toList_setIfInBounds, List.take_set]

/-- What a list is when its first j and its last j are swapped. -/
def Swapped (l c : List Store) (j : Nat) : Prop := c.length = l.length ∧ ∀ t, t < l.length → c[t]? = if t < j ∨ l.length ≤ t + j then l[l.length - 1 - t]? else l[t]?
theorem Swapped.zero (l : List Store) : Swapped l l 0 := ⟨rfl, fun t ht => by rw [if_neg (by omega)]⟩
theorem Swapped.all {l c : List Store} {j : Nat} (h : Swapped l c j) (h1 : 2 * j ≤ l.length) (h2 : l.length ≤ 2 * j + 1) : c = l.reverse := by
  apply List.ext_getElem?
  intro t
  rcases (by omega : t < l.length ∨ l.length ≤ t) with ht | ht
  · rw [h.2 t ht, List.getElem?_reverse ht]
    split
    · rfl
    · rename_i hn
      rw [show l.length - 1 - t = t by omega]
  · rw [List.getElem?_eq_none (by rw [h.1]; exact ht), List.getElem?_eq_none (by rw [List.length_reverse]; exact ht)]
theorem Swapped.step {l c : List Store} {j : Nat} (h : Swapped l c j) (h1 : 2 * j + 1 < l.length) {x y : Store} (hx : c[j]? = some x) (hy : c[l.length - 1 - j]? = some y) : Swapped l ((c.set j y).set (l.length - 1 - j) x) (j + 1) := by
  have h0 := h.1
  have a1 := h.2 j (by omega)
  have a2 := h.2 (l.length - 1 - j) (by omega)
  rw [hx, if_neg (by omega)] at a1
  rw [hy, if_neg (by omega)] at a2
  refine ⟨by simp [h0], fun t ht => ?_⟩
  rcases (by omega : t = l.length - 1 - j ∨ t ≠ l.length - 1 - j) with rfl | ht2
  · rw [List.getElem?_set_self (by simp; omega), if_pos (by omega), show l.length - 1 - (l.length - 1 - j) = j by omega, a1]
  · rw [List.getElem?_set_ne (by omega)]
    rcases (by omega : t = j ∨ t ≠ j) with rfl | ht3
    · rw [List.getElem?_set_self (by omega), if_pos (by omega), a2]
    · rw [List.getElem?_set_ne (by omega), h.2 t ht]
      by_cases hc : t < j ∨ l.length ≤ t + j
      · rw [if_pos hc, if_pos (by omega)]
      · rw [if_neg hc, if_neg (by omega)]

/-- A round's swap: where the cells of element i are. -/
structure SlotAt (w : World) (g i : Nat) (x : Store) : Prop where
  k0 : w.cell? ⟨g, i * 3, none⟩ = some (.int .u32 x.addr)
  k1 : w.cell? ⟨g, i * 3 + 1, none⟩ = some (.int .i64 x.width)
  k2 : w.cell? ⟨g, i * 3 + 2, none⟩ = some (.int .u32 x.value)

theorem SlotAt.of {w : World} {g i : Nat} {x : Store} (h : w.rangeAt g (i * 3) x.cells) : SlotAt w g i x := ⟨h 0 _ rfl, h 1 _ rfl, h 2 _ rfl⟩

theorem set6 {w : World} {p o o' : Nat} {cs : Array Value} {t : TypeId} {x y z x' y' z' : Value} (h : w.heap[p]? = some (.cells cs t (0, 0))) :
    (((((((w.setCell ⟨p, o, none⟩ x).setCell ⟨p, o + 1, none⟩ y).setCell ⟨p, o + 2, none⟩ z).setCell ⟨p, o', none⟩ x').setCell ⟨p, o' + 1, none⟩ y').setCell ⟨p, o' + 2, none⟩ z').drew).heap[p]? = some (.cells ((((((cs.setIfInBounds o x).setIfInBounds (o + 1) y).setIfInBounds (o + 2) z).setIfInBounds o' x').setIfInBounds (o' + 1) y').setIfInBounds (o' + 2) z') t (0, 0)) := by
  have h1 := set3 (o := o) (x := x) (y := y) (z := z) h
  have h2 := set3 (o := o') (x := x') (y := y') (z := z') h1
  rw [heap_drew]
  exact h2
theorem mod6 {w : World} {p o o' : Nat} {x y z x' y' z' : Value} :
    Mod (fun b => b = p) w (((((((w.setCell ⟨p, o, none⟩ x).setCell ⟨p, o + 1, none⟩ y).setCell ⟨p, o + 2, none⟩ z).setCell ⟨p, o', none⟩ x').setCell ⟨p, o' + 1, none⟩ y').setCell ⟨p, o' + 2, none⟩ z').drew) := by
  have h1 : Mod (fun b => b = p) w _ := Mod.set3 (w := w) (p := p) (o := o) (x := x) (y := y) (z := z) (S := fun b => b = p) rfl
  exact (h1.trans (Mod.set3 (p := p) (o := o') (x := x') (y := y') (z := z') (S := fun b => b = p) rfl)).drew
section
attribute [local go_sem] heap_drew blk_past cell_past free_past
set_option maxRecDepth 100000 in
set_option maxHeartbeats 2000000 in
theorem reverse_ok (w : World) (v : Value) (l : List Store) (h : Stores w v l) (hl : l.length ≤ 1000000) :
    Calls Try.prog 35 #[v] w fun e w' => (∃ u, e = .returned u) ∧ Stores w' v l.reverse ∧ Mod (fun b => ownOf v = some b) w w' := by
  obtain ⟨q, cc, rfl, hcc⟩ := h.len
  go_enter Try.func35, Try.ntmps35
  go_wp2_with fail
  go_loopw [2, 3] (fun x y wr => ∃ (j : Nat) (c : List Store), 2 * j ≤ l.length ∧ x = .int .i64 j ∧ y = .int .i64 ((l.length : Int) - 1 - j) ∧ Swapped l c j ∧ Stores wr (.slice q l.length cc) c ∧ Mod (fun b => ownOf (.slice q l.length cc) = some b) w wr) (fun x _ _ => l.length - (intOf x).toNat)
  case atStart => exact ⟨0, l, by omega, rfl, by simp, Swapped.zero l, h, Mod.refl _ _⟩
  case round =>
    obtain ⟨j, c, hj, rfl, rfl, hsw, hst, hmo⟩ := hrel
    by_cases hlt : 2 * j + 1 < l.length
    · obtain ⟨k, hk⟩ : ∃ k, l.length - 1 - j = k := ⟨_, rfl⟩
      have hkz : (l.length : Int) - 1 - j = (k : Int) := by omega
      rw [hkz]
      obtain ⟨g, cap, x, hv, hx, hxf, hxr, how, hcap⟩ := hst.at (show j < c.length by rw [hsw.1]; omega)
      obtain ⟨g2, cap2, y, hv2, hy, hyf, hyr, how2, hcap2⟩ := hst.at (show k < c.length by rw [hsw.1]; omega)
      rw [hsw.1] at hv hv2
      simp only [Value.slice.injEq, true_and] at hv hv2
      obtain ⟨rfl, rfl⟩ := hv
      obtain ⟨hgg, -⟩ := hv2
      cases hgg
      have hsx := SlotAt.of hxr
      have hsy := SlotAt.of hyr
      obtain ⟨cap', cur, hv3, hb, hcs1, hcs2, hcs3, hcs4⟩ := hst.row.block how
      have hb0 : (0 : Int) ≤ (j : Int) := by omega
      have hb1 : (j : Int) < (l.length : Int) := by omega
      have hb2 : (0 : Int) ≤ (k : Int) := by omega
      have hb3 : (k : Int) < (l.length : Int) := by omega
      have hjk : j < k := by omega
      have d1 : ∀ n m : Nat, n < 3 → m < 3 → j * 3 + n ≠ k * 3 + m := by omega
      obtain ⟨k0, k1, k2⟩ := hsx
      obtain ⟨m0, m1, m2⟩ := hsy
      have f0 := free_of wr hb (j * 3)
      have f1 := free_of wr hb (j * 3 + 1)
      have f2 := free_of wr hb (j * 3 + 2)
      have e0 := free_of wr hb (k * 3)
      have e1 := free_of wr hb (k * 3 + 1)
      have e2 := free_of wr hb (k * 3 + 2)
      go_upto_region 3 with fail
      obtain rfl : cap' = cap := by simp at hv3; omega
      have HC := Lib.hid (And.intro hsw (And.intro hst (And.intro hmo (And.intro hx (And.intro hy (And.intro hxf (And.intro hyf (And.intro hcs4 (And.intro hcs2 hcs3)))))))))
      clear hsw hst hmo hx hy hxr hyr hv3 hcs1 hcs2 hcs3 hcs4 hxf hyf h
      go_region
      all_goals (go_wp2_with fail)
      all_goals go_roundw
      case rel =>
        obtain ⟨hsw, hst, hmo, hx, hy, hxf, hyf, hcs4, hcs2, hcs3⟩ := HC.out
        have hcl := hsw.1
        have hw2 := set6 (w := wr) (p := g) (o := j * 3) (o' := k * 3) (x := .int .u32 y.addr) (y := .int .i64 y.width) (z := .int .u32 y.value) (x' := .int .u32 x.addr) (y' := .int .i64 x.width) (z' := .int .u32 x.value) hb
        have hm2 := mod6 (w := wr) (p := g) (o := j * 3) (o' := k * 3) (x := .int .u32 y.addr) (y := .int .i64 y.width) (z := .int .u32 y.value) (x' := .int .u32 x.addr) (y' := .int .i64 x.width) (z' := .int .u32 x.value)
        have hm3 := hmo.trans (hm2.mono (fun b _ (e : b = g) => (by rw [e]; exact how : ownOf (Value.slice (some { block := g, off := 0 }) l.length (cap' + 1)) = some b)))
        have hj' := hsw.step hlt hx (by rw [hk]; exact hy)
        rw [hk] at hj'
        refine ⟨j + 1, (c.set j y).set k x, by omega, by go_num, congrArg (Value.int .i64) (by omega), hj', ⟨⟨?_, .inr ⟨g, cap', _, by rw [List.length_set, List.length_set, hcl], hw2, by rw [List.length_set, List.length_set]; exact hcap, hcs2, by simpa using hcs3, ?_⟩⟩, ?_⟩, hm3⟩
        · rw [flat_length]
        · exact arr_set _ (c.set j y) k x (arr_set cur c j y hcs4 (by omega)) (by rw [List.length_set]; omega)
        · intro m hm
          rcases List.mem_or_eq_of_mem_set hm with hm | rfl
          · rcases List.mem_or_eq_of_mem_set hm with hm | rfl
            · exact hst.fits m hm
            · exact hyf
          · exact hxf
      case measure => simp [intOf]; omega
    · have hd : c = l.reverse := hsw.all hj (by omega)
      subst hd
      have hng : ((j : Int) < (l.length : Int) - 1 - j) = False := by simp; omega
      go_wp2
      go_end0
      exact ⟨⟨_, rfl⟩, hst, hmo⟩
end
end Go.Proofs.Ytknjlmpjkkkilaa
