/- Stores compared; lists of stores as rows. -/
import Derived.Test.YtknjlmpjkkkilaaBufB
import Derived.Test.YtknjlmpjkkkilaaRowB
import Derived.Test.YtknjlmpjkkkilaaRowsLaw
namespace Go.Proofs.Ytknjlmpjkkkilaa
open Go.RowKit
set_option linter.unusedVariables false
set_option linter.unusedSimpArgs false

theorem Store.cells_length (s : Store) : s.cells.length = 3 := rfl
theorem Store.cells_one (s : Store) : ∀ u ∈ s.cells, u.oneCell' = true := by
  intro u hu
  simp only [Store.cells, List.mem_cons, List.not_mem_nil, or_false] at hu
  rcases hu with rfl | rfl | rfl <;> rfl
theorem Store.ext_iff' (x y : Store) : x = y ↔ x.addr = y.addr ∧ x.width = y.width ∧ x.value = y.value := by
  cases x; cases y; simp

theorem eqF_nil {P : Program} (w : World) (d : Nat) (xs ys : Array Value) : (Op.eqFields d xs ys []).run P w = .ok true w := rfl
theorem eqF {P : Program} (w : World) (d : Nat) (xs ys : Array Value) (f : Field) (fs : List Field) (a b : Value) (r q : Bool) (hn : f.name ≠ "_") (ha : (part f.type xs f.offset).run P w = .ok a w) (hb : (part f.type ys f.offset).run P w = .ok b w)
    (hr : (Op.equalIn d f.type a b).run P w = .ok r w) (hq : (Op.eqFields d xs ys fs).run P w = .ok q w) : (Op.eqFields d xs ys (f :: fs)).run P w = .ok (r && q) w := by
  rw [Op.eqFields]
  simp only [hn, ne_eq, not_false_eq_true, if_true, Sem.run_bind, ha, hb, hr, Result.andThen_ok]
  cases r
  · simp
  · simpa using hq

theorem eql_store (w : World) (x y : Store) :
    (binOp .eql 24 (.agg x.cells.toArray) (.agg y.cells.toArray)).run Try.prog w = .ok (.bool (decide (x = y))) w := by
  have hS : Try.prog.underlying 24 = some (.struct (Try.prog.fieldsOf 24)) := by kernel_rfl
  have hp : Try.prog.stoodInHeld 24 = false := by kernel_rfl
  rw [run_eql_struct, show (10000 : Nat) = 9999 + 1 from rfl, run_equalIn_agg w 9999 _ _ _ hS hp]
  simp only [Program.fieldsOf, Try.underlying24]
  have k1 := run_part_cell w 22 .u32 Try.underlying22 x.cells.toArray 0 (.int .u32 x.addr) rfl
  have k2 := run_part_cell w 22 .u32 Try.underlying22 y.cells.toArray 0 (.int .u32 y.addr) rfl
  have f1 := run_part_cell w 3 .i64 Try.underlying3 x.cells.toArray 1 (.int .i64 x.width) rfl
  have f2 := run_part_cell w 3 .i64 Try.underlying3 y.cells.toArray 1 (.int .i64 y.width) rfl
  have l1 := run_part_cell w 22 .u32 Try.underlying22 x.cells.toArray 2 (.int .u32 x.value) rfl
  have l2 := run_part_cell w 22 .u32 Try.underlying22 y.cells.toArray 2 (.int .u32 y.value) rfl
  have qk : (Op.equalIn 9999 22 (.int .u32 x.addr) (.int .u32 y.addr)).run Try.prog w = .ok (x.addr == y.addr) w := run_equalIn_int (P := Try.prog) w 9998 22 .u32 .u32 x.addr y.addr Try.underlying22
  have qf : (Op.equalIn 9999 3 (.int .i64 x.width) (.int .i64 y.width)).run Try.prog w = .ok (x.width == y.width) w := run_equalIn_int (P := Try.prog) w 9998 3 .i64 .i64 x.width y.width Try.underlying3
  have ql : (Op.equalIn 9999 22 (.int .u32 x.value) (.int .u32 y.value)).run Try.prog w = .ok (x.value == y.value) w := run_equalIn_int (P := Try.prog) w 9998 22 .u32 .u32 x.value y.value Try.underlying22
  have hf := eqF (P := Try.prog) w 9999 x.cells.toArray y.cells.toArray ⟨"Addr", 22, 0, false, "", "", 0⟩ _ _ _ _ _ (by simp) k1 k2 qk
    (eqF w 9999 x.cells.toArray y.cells.toArray ⟨"Width", 3, 1, false, "", "", 8⟩ _ _ _ _ _ (by simp) f1 f2 qf
    (eqF w 9999 x.cells.toArray y.cells.toArray ⟨"Value", 22, 2, false, "", "", 16⟩ _ _ _ _ _ (by simp) l1 l2 ql (eqF_nil w 9999 _ _)))
  rw [hf]
  simp only [Result.andThen_ok]
  rw [show (decide (x = y)) = (x.addr == y.addr && (x.width == y.width && (x.value == y.value && true))) from by
    rw [Bool.eq_iff_iff]; simp [Store.ext_iff']]
theorem neq_store (w : World) (x y : Store) :
    (binOp .neq 24 (.agg x.cells.toArray) (.agg y.cells.toArray)).run Try.prog w = .ok (.bool (!decide (x = y))) w := by
  have h := eql_store w x y
  rw [run_eql_struct] at h
  rw [run_neq_struct]
  generalize (Op.equalIn 10000 24 (.agg x.cells.toArray) (.agg y.cells.toArray)).run Try.prog w = r at h ⊢
  cases r with
  | ok b w' => simp at h ⊢; exact ⟨by rw [h.1], h.2⟩
  | halt a w' => simp [Result.andThen] at h

/-! ### Lists of stores as rows -/
def flat (l : List Store) : List Value := l.flatMap Store.cells
@[simp] theorem flat_nil : flat [] = [] := rfl
@[simp] theorem flat_cons (m : Store) (l : List Store) : flat (m :: l) = m.cells ++ flat l := by simp [flat]
theorem flat_append (l k : List Store) : flat (l ++ k) = flat l ++ flat k := by simp [flat]
theorem flat_length (l : List Store) : (flat l).length = l.length * 3 := by
  induction l with
  | nil => rfl
  | cons m l ih =>
    rw [flat_cons, List.length_append, m.cells_length, ih, List.length_cons]
    omega
theorem flat_one (m : Store) : flat [m] = m.cells := by simp
theorem flat_cells (l : List Store) : ∀ u ∈ flat l, u.oneCell' = true := by
  intro u hu
  simp only [flat, List.mem_flatMap] at hu
  obtain ⟨m, _, hm⟩ := hu
  exact m.cells_one u hm
/-- The cells of the i-th store. -/
theorem flat_at (l : List Store) (i : Nat) (m : Store) (hi : l[i]? = some m) (j : Nat) (u : Value) (hu : m.cells[j]? = some u) : (flat l)[i * 3 + j]? = some u := by
  induction l generalizing i with
  | nil => simp at hi
  | cons x l ih =>
    have hx := x.cells_length
    cases i with
    | zero =>
      simp at hi
      subst hi
      have hj : j < x.cells.length := (List.getElem?_eq_some_iff.1 hu).1
      rw [flat_cons, List.getElem?_append_left (by omega)]
      simpa using hu
    | succ i =>
      simp at hi
      rw [flat_cons, List.getElem?_append_right (by omega), show (i + 1) * 3 + j - x.cells.length = i * 3 + j by omega]
      exact ih i hi
theorem flat_drop (l : List Store) (k : Nat) : (flat l).drop (k * 3) = flat (l.drop k) := by
  induction l generalizing k with
  | nil => simp
  | cons x l ih =>
    have hx := x.cells_length
    cases k with
    | zero => simp
    | succ k =>
      rw [List.drop_succ_cons, ← ih, flat_cons, show (k + 1) * 3 = x.cells.length + k * 3 by omega, List.drop_append]
      simp

/-- A slice's value holds these stores. -/
structure Stores (w : World) (v : Value) (l : List Store) : Prop where
  row : Row w 24 3 v l.length (flat l)
  fits : ∀ m ∈ l, m.Fits
theorem Stores.keep {w w' : World} {S : Nat → Prop} {v : Value} {l : List Store} (h : Stores w v l) (hm : Mod S w w') (hs : ∀ g, ownOf v = some g → ¬ S g) : Stores w' v l := ⟨h.row.keep hm hs, h.fits⟩
theorem Stores.keep0 {w w' : World} {v : Value} {l : List Store} (h : Stores w v l) (hm : Mod (fun _ => False) w w') : Stores w' v l := h.keep hm (fun _ _ x => x)
theorem Stores.empty (w : World) : Stores w (.slice none 0 0) [] := ⟨Row.empty _ _ _, by simp⟩
theorem Stores.none_of (w : World) (g : Nat) : Stores w (.slice (some ⟨g, 0, none⟩) 0 0) [] := ⟨⟨rfl, .inl ⟨rfl, .inr ⟨g, rfl⟩⟩⟩, by simp⟩
theorem Stores.len {w : World} {v : Value} {l : List Store} (h : Stores w v l) : ∃ q c, v = .slice q l.length c ∧ l.length ≤ c := by
  obtain ⟨q, c, hv, h1, _⟩ := h.row.form
  exact ⟨q, c, hv, h1⟩
theorem Stores.at {w : World} {v : Value} {l : List Store} (h : Stores w v l) {i : Nat} (hi : i < l.length) : ∃ g cap m, v = .slice (some ⟨g, 0, none⟩) l.length (cap + 1) ∧ l[i]? = some m ∧ m.Fits ∧ w.rangeAt g (i * 3) m.cells ∧ ownOf v = some g ∧ l.length ≤ cap + 1 := by
  obtain ⟨g, cap, hv, hg, h1, h2⟩ := h.row.full (by omega)
  have hm : l[i]? = some l[i] := List.getElem?_eq_getElem hi
  exact ⟨g, cap, l[i], hv, hm, h.fits _ (List.getElem_mem _), h.row.range hg _ _ (flat_at l i _ hm), hg, h1⟩
theorem Stores.ne {w : World} {v : Value} {l : List Store} (h : Stores w v l) {R : Nat} {cs : Array Value} {t : TypeId} {fr : Nat × Nat} (hb : w.heap[R]? = some (.cells cs t fr)) (ht : t ≠ 24) : ∀ g, ownOf v = some g → ¬ g = R := by
  rintro g hg rfl
  obtain ⟨cap, cur, _, h1, _⟩ := h.row.block hg
  rw [hb] at h1
  simp at h1
  exact ht h1.2.1
abbrev StoreArgs (w : World) (a : Option Addr) (l : List Store) : Prop := ArgList Store.cells Store.Fits 3 w a l
theorem Stores.args {w : World} {q : Option Addr} {n c : Nat} {l : List Store} (h : Stores w (.slice q n c) l) : StoreArgs w q l := by
  refine ⟨h.fits, fun i m hi => ?_, h.row.len_le⟩
  have hl := (List.getElem?_eq_some_iff.1 hi).1
  obtain ⟨g, cap, m', hv, hm, hf, hr, _⟩ := h.at hl
  rw [hi] at hm
  cases hm
  simp only [Value.slice.injEq] at hv
  exact ⟨g, 0, hv.1, by simpa using hr⟩
theorem ArgList.at {α : Type} {cells : α → List Value} {fits : α → Prop} {sz : Nat} {w : World} {a : Option Addr} {l : List α} (h : ArgList cells fits sz w a l) {i : Nat} (hi : i < l.length) : ∃ g o m, a = some ⟨g, o, none⟩ ∧ l[i]? = some m ∧ fits m ∧ w.rangeAt g (o + i * sz) (cells m) := by
  obtain ⟨g, o, e, hr⟩ := h.at_ i l[i] (List.getElem?_eq_getElem hi)
  exact ⟨g, o, l[i], e, List.getElem?_eq_getElem hi, h.fits _ (List.getElem_mem _), hr⟩

theorem storeInfo : (Try.prog.info? 24).map (fun i => (i.zero.map (fun z => z.cells.size), i.size, i.bytes)) = some (some 3, 3, 24) := by kernel_rfl
theorem info24 : (Try.prog.info? 24).map (·.size) = some 3 := by kernel_rfl
theorem info60 : (Try.prog.info? 60).map (·.size) = some 3 := by kernel_rfl
theorem storeZero : ∃ i z, Try.prog.info? 24 = some i ∧ i.zero = some z ∧ i.size = 3 ∧ i.bytes = 24 ∧ z.cells.size = 3 := by
  have h := storeInfo
  cases hi : Try.prog.info? 24 with
  | none => rw [hi] at h; cases h
  | some i =>
    rw [hi] at h
    simp only [Option.map_some, Option.some.injEq, Prod.mk.injEq] at h
    obtain ⟨h1, h2, h3⟩ := h
    cases hz : i.zero with
    | none => rw [hz] at h1; cases h1
    | some z =>
      rw [hz] at h1
      simp only [Option.map_some, Option.some.injEq] at h1
      exact ⟨i, z, rfl, hz, h2, h3, h1⟩
theorem stores_append (w : World) (v x : Value) (l k : List Store) (hv : Stores w v l) (hk : ∀ m ∈ k, m.Fits) (hx : Src w 3 x k.length (flat k)) (hn : l.length + k.length ≤ 1000000000) :
    ∃ v' w', (Builtin.append_ #[32, 32] 32 #[v, x]).run Try.prog w = .ok v' w' ∧ Stores w' v' (l ++ k) ∧ Mod (fun b => ownOf v = some b) w w' ∧
      (∀ b, ownOf v' = some b → ownOf v = some b ∨ w.heap.size ≤ b) := by
  obtain ⟨i, z, h1, h2, h3, h4, h5⟩ := storeZero
  obtain ⟨v', w', hrun, hr, hm, ho⟩ := row_append (P := Try.prog) w 32 32 24 i z 3 24 Try.underlying32 h1 h2 h3 h4 h5 (by omega) v x l.length k.length (flat l) (flat k) hv.row hx (flat_cells k)
    (by simp only [maxLen]; omega) (by omega)
  exact ⟨v', w', hrun, ⟨by rw [List.length_append, flat_append]; exact hr, by intro m hm; rcases List.mem_append.1 hm with h | h; exact hv.fits m h; exact hk m h⟩, hm, ho⟩

theorem load_store_at (m : Store) (b o : Nat) (w : World) (hb : w.rangeAt b o m.cells) :
    (Instr.loadAt 24 (.pointer (some ⟨b, o, none⟩))).run Try.prog w = .ok (.agg m.cells.toArray) w :=
  run_loadAt_mid w b o _ m.cells _ hb Try.underlying24 rfl (by rw [info24, m.cells_length])
theorem build_one (w : World) (cells : Array Value) (h : cells.size = 3) : (Instr.buildSlice 32 1 #[(0, .agg cells)]).run Try.prog w = .ok (.slice (some ⟨w.heap.size, 0, none⟩) 1 1) (w.alloc (.cells cells 24)) := by
  obtain ⟨i, z, h1, h2, h3, h4, h5⟩ := storeZero
  exact run_buildSlice_one w _ _ i z 3 Try.underlying32 h1 h2 h3 h5 (by omega) (by omega) cells h
theorem build_none (w : World) : (Instr.buildSlice 32 0 #[]).run Try.prog w = .ok (.slice (some ⟨w.heap.size, 0, none⟩) 0 0) (w.alloc (.cells #[] 24)) := by
  have hs : (sizeOf 24).run Try.prog w = .ok 3 w := Try.sizeOf24 w
  unfold Instr.buildSlice
  simp only [Sem.run_bind, run_underlying Try.underlying32, Result.andThen_ok, hs]
  simp [Instr.fill, newRow]
  rw [Array.eq_empty_of_size_eq_zero (xs := Array.map _ (Array.range 0)) (by simp)]
theorem Src.store {w : World} {m : Store} {B : Nat} {t : TypeId} {fr : Nat × Nat} {c : Nat} (hb : w.heap[B]? = some (.cells m.cells.toArray t fr)) : Src w 3 (.slice (some ⟨B, 0, none⟩) 1 c) [m].length (flat [m]) := by
  rw [flat_one]
  exact Src.one hb m.cells_length
/-- Stores are appended, at a step of a region that draws. -/
theorem step_stores {ops : Array Oper} {o : Oper} {a : Act} {w : World} {K : Act → World → Prop} {Q : Exit → Act → World → Prop} {E : Prop} (hgd : o.guard = none) (s x : Operand)
    (ho : o.op = .call { callee := .builtin .append, args := #[s, x], argTypes := #[32, 32] }) (hty : o.type = 32) (v xv : Value) (hs : a.eval s = v) (hx : a.eval x = xv)
    (l k : List Store) (hv : Stores w v l) (hk : ∀ m ∈ k, m.Fits) (hsrc : Src w 3 xv k.length (flat k)) (hn : l.length + k.length ≤ 1000000000)
    (h : ∀ v' w', Stores w' v' (l ++ k) → Mod (fun b => ownOf v = some b) w w' → (∀ b, ownOf v' = some b → ownOf v = some b ∨ w.heap.size ≤ b) → K (a.put o.dst v') w') :
    if Region.wanted o (yielded ops a.tmps) = true then Oper.wp Try.prog o a w K Q else E := by
  obtain ⟨v', w', hrun, h1, h2, h3⟩ := stores_append w v xv l k hv hk hsrc hn
  exact step_append_run hgd s x _ _ ho v xv hs hx _ hty v' w' hrun (h v' w' h1 h2 h3)
end Go.Proofs.Ytknjlmpjkkkilaa
