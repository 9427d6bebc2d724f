/- Lists of stores seen from wherever; the document's Push. -/
import Derived.Test.YtknjlmpjkkkilaaBufC
namespace Go.Proofs.Ytknjlmpjkkkilaa
open Go.RowKit
set_option linter.unusedVariables false
set_option linter.unusedSimpArgs false

/-- What a block is made of. -/
def typeAt (w : World) (b : Nat) : Option TypeId := match w.heap[b]? with | some (.cells _ t _) => some t | _ => none
theorem typeAt_of {w : World} {b : Nat} {cs : Array Value} {t : TypeId} {fr : Nat × Nat} (h : w.heap[b]? = some (.cells cs t fr)) : typeAt w b = some t := by
  unfold typeAt
  rw [h]
theorem typeAt_ne {w : World} {b p : Nat} {cs : Array Value} {t : TypeId} {fr : Nat × Nat} (h : typeAt w b = some 24) (hp : w.heap[p]? = some (.cells cs t fr)) (ht : t ≠ 24) : b ≠ p := by
  rintro rfl
  rw [typeAt_of hp] at h
  exact ht (Option.some.inj h)

/-- A slice's value shows these stores. -/
structure Seen (w : World) (v : Value) (l : List Store) : Prop where
  ex : ∃ q c, v = .slice q l.length c ∧ l.length ≤ c ∧ (q = none → l = [] ∧ c = 0) ∧ (∀ a, q = some a → ∃ g o, a = ⟨g, o, none⟩) ∧ c ≤ maxLen ∧
    ∀ i m, l[i]? = some m → ∃ g o, q = some ⟨g, o, none⟩ ∧ w.rangeAt g (o + i * 3) m.cells ∧ typeAt w g = some 24
  fits : ∀ m ∈ l, m.Fits
theorem Seen.keep {w w' : World} {S : Nat → Prop} {v : Value} {l : List Store} (h : Seen w v l) (hm : Mod S w w') (hs : ∀ g, typeAt w g = some 24 → ¬ S g) : Seen w' v l := by
  obtain ⟨q, c, h1, h2, h3, h4, h5, h6⟩ := h.ex
  refine ⟨⟨q, c, h1, h2, h3, h4, h5, fun i m hi => ?_⟩, h.fits⟩
  obtain ⟨g, o, e1, e2, e3⟩ := h6 i m hi
  refine ⟨g, o, e1, hm.range e2 (hs g e3), ?_⟩
  unfold typeAt at e3 ⊢
  split at e3
  · rename_i cs t fr hb
    rw [hm.at hb (hs g (typeAt_of hb |>.trans e3))]
    exact e3
  · cases e3
theorem Seen.keep0 {w w' : World} {v : Value} {l : List Store} (h : Seen w v l) (hm : Mod (fun _ => False) w w') : Seen w' v l := h.keep hm (fun _ _ x => x)
/-- It stays, if a block of another type alone is written. -/
theorem Seen.keepP {w w' : World} {v : Value} {l : List Store} (h : Seen w v l) {p : Nat} {cs : Array Value} {t : TypeId} {fr : Nat × Nat} (hm : Mod (fun k => k = p) w w') (hp : w.heap[p]? = some (.cells cs t fr)) (ht : t ≠ 24) : Seen w' v l :=
  h.keep hm (fun g hg e => typeAt_ne hg hp ht e)
theorem Stores.seen {w : World} {v : Value} {l : List Store} (h : Stores w v l) : Seen w v l := by
  obtain ⟨q, c, hv, h1, h2, h3, h4⟩ := h.row.form
  refine ⟨⟨q, c, hv, h1, fun e => ?_, fun a ha => ?_, h2, fun i m hi => ?_⟩, h.fits⟩
  · obtain ⟨e1, e2⟩ := h3 e
    exact ⟨List.eq_nil_of_length_eq_zero e1, e2⟩
  · obtain ⟨g, rfl⟩ := h4 a ha
    exact ⟨g, 0, rfl⟩
  · obtain ⟨g, cap, m', hv', hm', _, hr, hg, _⟩ := h.at (List.getElem?_eq_some_iff.1 hi).1
    rw [hi] at hm'
    cases hm'
    rw [hv] at hv'
    simp only [Value.slice.injEq] at hv'
    obtain ⟨cap', cur, _, hb, _⟩ := h.row.block hg
    exact ⟨g, 0, hv'.1, by simpa using hr, typeAt_of hb⟩
theorem flat_split (l : List Store) (j : Nat) (u : Value) (h : (flat l)[j]? = some u) : ∃ i r m, j = i * 3 + r ∧ l[i]? = some m ∧ m.cells[r]? = some u := by
  induction l generalizing j with
  | nil => simp at h
  | cons x l ih =>
    have hx := x.cells_length
    rw [flat_cons, List.getElem?_append] at h
    split at h
    · exact ⟨0, j, x, by omega, rfl, h⟩
    · obtain ⟨i, r, m, e1, e2, e3⟩ := ih _ h
      exact ⟨i + 1, r, m, by omega, e2, e3⟩
theorem Seen.src {w : World} {v : Value} {l : List Store} (h : Seen w v l) : Src w 3 v l.length (flat l) := by
  obtain ⟨q, c, rfl, h2, h3, h4, h5, h6⟩ := h.ex
  refine ⟨flat_length l, q, c, rfl, fun e => by rw [(h3 e).1]; rfl, ?_⟩
  rintro a rfl j u hu
  obtain ⟨i, r, m, rfl, hi, hr⟩ := flat_split l j u hu
  obtain ⟨g, o, e, hg, _⟩ := h6 i m hi
  cases e
  rw [addr_add, ← Nat.add_assoc]
  exact hg r u hr
theorem Seen.len {w : World} {v : Value} {l : List Store} (h : Seen w v l) : ∃ q c, v = .slice q l.length c ∧ l.length ≤ c := by
  obtain ⟨q, c, h1, h2, _⟩ := h.ex
  exact ⟨q, c, h1, h2⟩
theorem Seen.at {w : World} {v : Value} {l : List Store} (h : Seen w v l) {i : Nat} (hi : i < l.length) : ∃ g o c m, v = .slice (some ⟨g, o, none⟩) l.length c ∧ l[i]? = some m ∧ m.Fits ∧ w.rangeAt g (o + i * 3) m.cells ∧ l.length ≤ c := by
  obtain ⟨q, c, h1, h2, h3, h4, h5, h6⟩ := h.ex
  have hm : l[i]? = some l[i] := List.getElem?_eq_getElem hi
  obtain ⟨g, o, rfl, hr, _⟩ := h6 i _ hm
  exact ⟨g, o, c, l[i], h1, hm, h.fits _ (List.getElem_mem _), hr, h2⟩
theorem Seen.empty (w : World) : Seen w (.slice none 0 0) [] := (Stores.empty w).seen

section
attribute [-go_sem] Instr.loadAt Instr.buildSlice
attribute [local go_sem 500] run_loadAt_open
attribute [local go_sem] heap_drew blk_past cell_past free_past cellsAt
attribute [local go_sem 2000] build_one build_none
attribute [local go_sem ↓] Go.wp_at_zero Go.wp_at_succ
set_option maxHeartbeats 4000000 in
theorem refpush_ok (w : World) (v : Value) (l : List Store) (s : Store) (h : Seen w v l) (hs : s.Fits) (hl : l.length ≤ 1000000) :
    Calls Try.prog 12 #[v, .agg s.cells.toArray] w fun e w' => ∃ v', e = .returned (.tuple #[v', .int .i64 (pushNum l s)]) ∧ Seen w' v' (pushList l s) ∧ Mod (fun _ => False) w w' := by
  obtain ⟨q, c, rfl, hc⟩ := h.len
  have hcheck := check_ok (s := s) (h := hs)
  obtain ⟨a, n, x⟩ := s
  simp only [Store.cells] at hcheck ⊢
  go_enter Try.func12, Try.ntmps12
  go_upto_region 1 with fail
  have hmA : Mod (fun _ => False) w (w.alloc (Obj.cells #[Value.int IntKind.u32 a, Value.int IntKind.i64 n, Value.int IntKind.u32 x] 24)) := (Mod.refl _ _).alloc _
  have hb := blk_new w (Obj.cells #[Value.int IntKind.u32 a, Value.int IntKind.i64 n, Value.int IntKind.u32 x] 24)
  generalize w.heap.size = b at *
  generalize w.alloc (Obj.cells #[Value.int IntKind.u32 a, Value.int IntKind.i64 n, Value.int IntKind.u32 x] 24) = w0 at *
  replace h := h.keep0 hmA
  have c0 : w0.cell? ⟨b, 0, none⟩ = some (.int .u32 a) := cell_of w0 hb 0
  have c1 : w0.cell? ⟨b, 1, none⟩ = some (.int .i64 n) := cell_of w0 hb 1
  have c2 : w0.cell? ⟨b, 2, none⟩ = some (.int .u32 x) := cell_of w0 hb 2
  go_wp2_with fail
  refine (hcheck _).mono ?_
  rintro e w1 ⟨rfl, hm1⟩
  replace h := h.keep0 hm1
  replace hmA := hmA.trans hm1
  replace c0 := hm1.cell c0 (fun x => x)
  replace c1 := hm1.cell c1 (fun x => x)
  replace c2 := hm1.cell c2 (fun x => x)
  replace hb := hm1.at hb (fun x => x)
  clear hm1 hcheck
  rcases storeNum_cases ⟨a, n, x⟩ with hn | hn | hn
  · by_cases h4 : 4 ≤ l.length
    · have hres : pushNum l ⟨a, n, x⟩ = 240 := by simp [pushNum, hn, h4]
      have hres2 : pushList l ⟨a, n, x⟩ = l := by simp [pushList, hres]
      have hi : (4 : Int) ≤ (l.length : Int) := by omega
      rw [hn]
      clear h4
      go_wp2
      go_ret2
      rw [hres, hres2]
      exact ⟨_, rfl, h, hmA⟩
    · have hres : pushNum l ⟨a, n, x⟩ = 0 := by simp [pushNum, hn]; omega
      have hres2 : pushList l ⟨a, n, x⟩ = l ++ [⟨a, n, x⟩] := by simp [pushList, hres]
      have hi : (l.length : Int) < 4 := by omega
      rw [hn]
      go_upto_region 6 with fail
      have hbo : Old w1 b := lt_of_block hb
      clear h4 c0 c1 c2
      go_cut [4, 5] (fun v4 v5 wx => v5 = .int .i64 0 ∧ Stores wx v4 (l ++ [⟨a, n, x⟩]) ∧ Mod (fun _ => False) w1 wx)
      case first =>
        have hlb : ∀ w' : World, w'.heap[b]? = some (.cells #[Value.int IntKind.u32 a, Value.int IntKind.i64 n, Value.int IntKind.u32 x] 24 (0, 0)) → (Instr.loadAt 24 (.pointer (some ⟨b, 0, none⟩))).run Try.prog w' = .ok (.agg #[Value.int IntKind.u32 a, Value.int IntKind.i64 n, Value.int IntKind.u32 x]) w' := fun w' hh =>
          load_store_at ⟨a, n, x⟩ b 0 w' (fun j v hv => by rw [cell_of w' hh]; simpa [Store.cells] using hv)
        go_region_law (first
          | (refine step_stores (by rfl) (.tmp 17) (.tmp 18) (by rfl) (by rfl) (.slice (some ⟨_, 0, none⟩) 0 0) (.slice q l.length c) (by rfl) (by rfl) [] l (Stores.none_of _ _) h.fits ((h.keep0 (by (repeat first | exact Mod.refl _ _ | assumption | apply Mod.drew | apply Mod.drewN | apply Mod.alloc | (refine Mod.setCell ?_ (Or.inr (by (first | (with_reducible exact Nat.le_refl _) | ((try simp only [World.size_alloc, World.size_setCell, World.size_drew] at *); omega)))) _) | (refine Mod.trans ?_ (by assumption))))).src) (by simp; omega) ?_
             intro v20 w4 hms4 hmo4 hov4
             have hmz4 : Mod (fun _ => False) w1 w4 := Mod.trans' (by (repeat first | exact Mod.refl _ _ | assumption | apply Mod.drew | apply Mod.drewN | apply Mod.alloc | (refine Mod.setCell ?_ (Or.inr (by (first | (with_reducible exact Nat.le_refl _) | ((try simp only [World.size_alloc, World.size_setCell, World.size_drew] at *); omega)))) _) | (refine Mod.trans ?_ (by assumption)))) hmo4 (by intro i _ hi; simp [ownOf] at hi)
             have hov20 : ∀ b, ownOf v20 = some b → w1.heap.size ≤ b := by intro b hb; rcases hov4 b hb with h1 | h1; (simp [ownOf] at h1); ((try simp only [World.size_alloc, World.size_drew] at h1); omega)
             have hbN4 := hmz4.at hb (fun x => x)
             try have hnew4 := hmo4.at (o := .cells #[Value.int IntKind.u32 a, Value.int IntKind.i64 n, Value.int IntKind.u32 x] 24 (0, 0)) (by first | exact blk_new _ _ | exact blk_old _ _ (blk_new _ _) | fail) (by simp [ownOf])
             try simp only [World.size_alloc, World.size_drew] at hnew4
             obtain ⟨q20, c20, hv20, _⟩ := hms4.len
             subst hv20)
          | (refine step_stores (by rfl) (.tmp 19) (.tmp 21) (by rfl) (by rfl) _ _ (by rfl) (by rfl) l [⟨a, n, x⟩] (hms4.keep (S := fun _ => False) (by (repeat first | exact Mod.refl _ _ | assumption | apply Mod.drew | apply Mod.drewN | apply Mod.alloc | (refine Mod.setCell ?_ (Or.inr (by (first | (with_reducible exact Nat.le_refl _) | ((try simp only [World.size_alloc, World.size_setCell, World.size_drew] at *); omega)))) _) | (refine Mod.trans ?_ (by assumption)))) (fun _ _ x => x)) (by simpa using hs) (Src.store (m := ⟨a, n, x⟩) (by first | exact blk_new _ _ | assumption | exact blk_old _ _ (blk_new _ _))) (by simp; omega) ?_
             intro v23 w6 hms6 hmo6 hov6
             have hmz6 : Mod (fun _ => False) w1 w6 := Mod.trans' (by (repeat first | exact Mod.refl _ _ | assumption | apply Mod.drew | apply Mod.drewN | apply Mod.alloc | (refine Mod.setCell ?_ (Or.inr (by (first | (with_reducible exact Nat.le_refl _) | ((try simp only [World.size_alloc, World.size_setCell, World.size_drew] at *); omega)))) _) | (refine Mod.trans ?_ (by assumption)))) hmo6 (by intro i hi1 hi; have := hov20 i hi; omega)
             obtain ⟨q23, c23, hv23, _⟩ := hms6.len
             subst hv23)
          | fail)
        all_goals (
          go_wp2_with fail
          go_meet
          case rel =>
            simp only [List.length_append, List.length_cons, List.length_nil, Nat.zero_add] at hms6
            exact ⟨rfl, hms6, hmz6⟩)
      case rest =>
        obtain ⟨rfl, hms6, hmz6⟩ := hcut
        go_wp2
        go_ret2
        rw [hres, hres2]
        exact ⟨_, rfl, hms6.seen, hmA.trans hmz6⟩
  · have hres : pushNum l ⟨a, n, x⟩ = 2 := by simp [pushNum, hn]
    have hres2 : pushList l ⟨a, n, x⟩ = l := by simp [pushList, hres]
    rw [hn]
    go_wp2
    go_ret2
    rw [hres, hres2]
    exact ⟨_, rfl, h, hmA⟩
  · have hres : pushNum l ⟨a, n, x⟩ = 120 := by simp [pushNum, hn]
    have hres2 : pushList l ⟨a, n, x⟩ = l := by simp [pushList, hres]
    rw [hn]
    go_wp2
    go_ret2
    rw [hres, hres2]
    exact ⟨_, rfl, h, hmA⟩
end
end Go.Proofs.Ytknjlmpjkkkilaa
