/- Messages compared; lists of messages as rows; the net's New, none, Len. -/
import Derived.Test.YtklokcndhkhdmaaNetB
namespace Go.Proofs.Ytklokcndhkhdmaa
open Go.RowKit
set_option linter.unusedVariables false
set_option linter.unusedSimpArgs false

theorem Msg.ext_iff' (x y : Msg) : x = y ↔ x.kind = y.kind ∧ x.fro = y.fro ∧ x.to = y.to ∧ x.line = y.line ∧ x.bytes = y.bytes := by
  cases x; cases y; simp
theorem part_bytes (w : World) (m : Msg) (h : m.Fits) : (part 24 m.cells.toArray 4).run Try.prog w = .ok (.agg (u8s m.bytes).toArray) w := by
  have h1 : m.cells.toArray.extract 4 20 = (u8s m.bytes).toArray := by
    simp [Msg.cells]
    rw [List.take_of_length_le (by simp [h.sixteen])]
  have h2 : m.cells.length = 20 := by simp [Msg.cells, h.sixteen]
  unfold part
  rw [Sem.run_bind, Try.isAgg24 w]
  simp only [Result.andThen_ok, if_true, Sem.run_bind, Try.sizeOf24 w]
  rw [show 4 + 16 = 20 from rfl, h1]
  rfl

theorem eqF_nil {P : Program} (w : World) (d : Nat) (xs ys : Array Value) : (Op.eqFields d xs ys []).run P w = .ok true w := rfl
theorem eqF {P : Program} (w : World) (d : Nat) (xs ys : Array Value) (f : Field) (fs : List Field) (a b : Value) (r q : Bool) (hn : f.name ≠ "_") (ha : (part f.type xs f.offset).run P w = .ok a w) (hb : (part f.type ys f.offset).run P w = .ok b w)
    (hr : (Op.equalIn d f.type a b).run P w = .ok r w) (hq : (Op.eqFields d xs ys fs).run P w = .ok q w) : (Op.eqFields d xs ys (f :: fs)).run P w = .ok (r && q) w := by
  rw [Op.eqFields]
  simp only [hn, ne_eq, not_false_eq_true, if_true, Sem.run_bind, ha, hb, hr, Result.andThen_ok]
  cases r
  · simp
  · simpa using hq

theorem eql_msg (w : World) (x y : Msg) (hx : x.Fits) (hy : y.Fits) :
    (binOp .eql 26 (.agg x.cells.toArray) (.agg y.cells.toArray)).run Try.prog w = .ok (.bool (decide (x = y))) w := by
  have hS : Try.prog.underlying 26 = some (.struct (Try.prog.fieldsOf 26)) := by kernel_rfl
  have hp : Try.prog.stoodInHeld 26 = false := by kernel_rfl
  have hb := part_bytes w x hx
  have hb' := part_bytes w y hy
  have he : (Op.equalIn 9999 24 (.agg (u8s x.bytes).toArray) (.agg (u8s y.bytes).toArray)).run Try.prog w = .ok (decide (x.bytes = y.bytes)) w := run_equalIn_ints (P := Try.prog) w 9997 24 5 16 .u8 .u8 Try.underlying24 Try.underlying5 (by kernel_rfl) x.bytes y.bytes hx.sixteen hy.sixteen
  rw [run_eql_struct, show (10000 : Nat) = 9999 + 1 from rfl, run_equalIn_agg w 9999 _ _ _ hS hp]
  simp only [Program.fieldsOf, Try.underlying26]
  have k1 := run_part_cell w 22 .i64 Try.underlying22 x.cells.toArray 0 (.int .i64 x.kind) rfl
  have k2 := run_part_cell w 22 .i64 Try.underlying22 y.cells.toArray 0 (.int .i64 y.kind) rfl
  have f1 := run_part_cell w 3 .i64 Try.underlying3 x.cells.toArray 1 (.int .i64 x.fro) rfl
  have f2 := run_part_cell w 3 .i64 Try.underlying3 y.cells.toArray 1 (.int .i64 y.fro) rfl
  have t1 := run_part_cell w 3 .i64 Try.underlying3 x.cells.toArray 2 (.int .i64 x.to) rfl
  have t2 := run_part_cell w 3 .i64 Try.underlying3 y.cells.toArray 2 (.int .i64 y.to) rfl
  have l1 := run_part_cell w 23 .u32 Try.underlying23 x.cells.toArray 3 (.int .u32 x.line) rfl
  have l2 := run_part_cell w 23 .u32 Try.underlying23 y.cells.toArray 3 (.int .u32 y.line) rfl
  have qk : (Op.equalIn 9999 22 (.int .i64 x.kind) (.int .i64 y.kind)).run Try.prog w = .ok (x.kind == y.kind) w := run_equalIn_int (P := Try.prog) w 9998 22 .i64 .i64 x.kind y.kind Try.underlying22
  have qf : (Op.equalIn 9999 3 (.int .i64 x.fro) (.int .i64 y.fro)).run Try.prog w = .ok (x.fro == y.fro) w := run_equalIn_int (P := Try.prog) w 9998 3 .i64 .i64 x.fro y.fro Try.underlying3
  have qt : (Op.equalIn 9999 3 (.int .i64 x.to) (.int .i64 y.to)).run Try.prog w = .ok (x.to == y.to) w := run_equalIn_int (P := Try.prog) w 9998 3 .i64 .i64 x.to y.to Try.underlying3
  have ql : (Op.equalIn 9999 23 (.int .u32 x.line) (.int .u32 y.line)).run Try.prog w = .ok (x.line == y.line) w := run_equalIn_int (P := Try.prog) w 9998 23 .u32 .u32 x.line y.line Try.underlying23
  have hf := eqF (P := Try.prog) w 9999 x.cells.toArray y.cells.toArray ⟨"Kind", 22, 0, false, "", "", 0⟩ _ _ _ _ _ (by simp) k1 k2 qk
    (eqF w 9999 x.cells.toArray y.cells.toArray ⟨"From", 3, 1, false, "", "", 8⟩ _ _ _ _ _ (by simp) f1 f2 qf
    (eqF w 9999 x.cells.toArray y.cells.toArray ⟨"To", 3, 2, false, "", "", 16⟩ _ _ _ _ _ (by simp) t1 t2 qt
    (eqF w 9999 x.cells.toArray y.cells.toArray ⟨"Line", 23, 3, false, "", "", 24⟩ _ _ _ _ _ (by simp) l1 l2 ql
    (eqF w 9999 x.cells.toArray y.cells.toArray ⟨"Bytes", 24, 4, false, "", "", 28⟩ _ _ _ _ _ (by simp) hb hb' he (eqF_nil w 9999 _ _)))))
  rw [hf]
  simp only [Result.andThen_ok]
  rw [show (decide (x = y)) = (x.kind == y.kind && (x.fro == y.fro && (x.to == y.to && (x.line == y.line && (decide (x.bytes = y.bytes) && true))))) from by
    rw [Bool.eq_iff_iff]; simp [Msg.ext_iff']]
theorem neq_msg (w : World) (x y : Msg) (hx : x.Fits) (hy : y.Fits) :
    (binOp .neq 26 (.agg x.cells.toArray) (.agg y.cells.toArray)).run Try.prog w = .ok (.bool (!decide (x = y))) w := by
  have h := eql_msg w x y hx hy
  rw [run_eql_struct] at h
  rw [run_neq_struct]
  generalize (Op.equalIn 10000 26 (.agg x.cells.toArray) (.agg y.cells.toArray)).run Try.prog w = r at h ⊢
  cases r with
  | ok b w' => simp at h ⊢; exact ⟨by rw [h.1], h.2⟩
  | halt a w' => simp [Result.andThen] at h

/-! ### Lists of messages as rows -/
def flat (l : List Msg) : List Value := l.flatMap Msg.cells
@[simp] theorem flat_nil : flat [] = [] := rfl
@[simp] theorem flat_cons (m : Msg) (l : List Msg) : flat (m :: l) = m.cells ++ flat l := by simp [flat]
theorem flat_append (l k : List Msg) : flat (l ++ k) = flat l ++ flat k := by simp [flat]
theorem cells_length (m : Msg) (h : m.Fits) : m.cells.length = 20 := by simp [Msg.cells, h.sixteen]
theorem flat_length (l : List Msg) (h : ∀ m ∈ l, m.Fits) : (flat l).length = l.length * 20 := by
  induction l with
  | nil => rfl
  | cons m l ih =>
    rw [flat_cons, List.length_append, cells_length m (h m (by simp)), ih (fun x hx => h x (by simp [hx])), List.length_cons]
    omega
theorem flat_one (m : Msg) : flat [m] = m.cells := by simp
theorem cells_one (m : Msg) : ∀ u ∈ m.cells, u.oneCell' = true := by
  intro u hu
  simp only [Msg.cells, List.cons_append, List.nil_append, List.mem_cons] at hu
  rcases hu with rfl | rfl | rfl | rfl | hu
  · rfl
  · rfl
  · rfl
  · rfl
  · exact u8s_one _ u hu
theorem flat_cells (l : List Msg) : ∀ u ∈ flat l, u.oneCell' = true := by
  intro u hu
  simp only [flat, List.mem_flatMap] at hu
  obtain ⟨m, _, hm⟩ := hu
  exact cells_one m u hm
/-- The cells of the i-th message. -/
theorem flat_at (l : List Msg) (h : ∀ m ∈ l, m.Fits) (i : Nat) (m : Msg) (hi : l[i]? = some m) (j : Nat) (u : Value) (hu : m.cells[j]? = some u) : (flat l)[i * 20 + j]? = some u := by
  induction l generalizing i with
  | nil => simp at hi
  | cons x l ih =>
    have hx := cells_length x (h x (by simp))
    cases i with
    | zero =>
      simp at hi
      subst hi
      have hj : j < x.cells.length := (List.getElem?_eq_some_iff.1 hu).1
      rw [flat_cons, List.getElem?_append_left (by omega)]
      simpa using hu
    | succ i =>
      simp at hi
      rw [flat_cons, List.getElem?_append_right (by omega), show (i + 1) * 20 + j - x.cells.length = i * 20 + j by omega]
      exact ih (fun x hx => h x (by simp [hx])) i hi
theorem flat_drop (l : List Msg) (h : ∀ m ∈ l, m.Fits) (k : Nat) : (flat l).drop (k * 20) = flat (l.drop k) := by
  induction l generalizing k with
  | nil => simp
  | cons x l ih =>
    have hx := cells_length x (h x (by simp))
    cases k with
    | zero => simp
    | succ k =>
      rw [List.drop_succ_cons, ← ih (fun x hx => h x (by simp [hx])), flat_cons, show (k + 1) * 20 = x.cells.length + k * 20 by omega, List.drop_append]
      simp
theorem flat_take (l : List Msg) (h : ∀ m ∈ l, m.Fits) (k : Nat) : (flat l).take (k * 20) = flat (l.take k) := by
  induction l generalizing k with
  | nil => simp
  | cons x l ih =>
    have hx := cells_length x (h x (by simp))
    cases k with
    | zero => simp
    | succ k =>
      rw [List.take_succ_cons, flat_cons, flat_cons, ← ih (fun x hx => h x (by simp [hx])), show (k + 1) * 20 = x.cells.length + k * 20 by omega, List.take_append]
      simp
      rw [List.take_of_length_le (by omega)]

/-- A slice's value holds these messages. -/
structure Msgs (w : World) (v : Value) (l : List Msg) : Prop where
  row : Row w 26 20 v l.length (flat l)
  fits : ∀ m ∈ l, m.Fits
theorem Msgs.keep {w w' : World} {S : Nat → Prop} {v : Value} {l : List Msg} (h : Msgs w v l) (hm : Mod S w w') (hs : ∀ g, ownOf v = some g → ¬ S g) : Msgs w' v l := ⟨h.row.keep hm hs, h.fits⟩
theorem Msgs.empty (w : World) : Msgs w (.slice none 0 0) [] := ⟨Row.empty _ _ _, by simp⟩

theorem msgInfo : (Try.prog.info? 26).map (fun i => (i.zero.map (fun z => z.cells.size), i.size, i.bytes)) = some (some 20, 20, 48) := by kernel_rfl
theorem msgZero : ∃ i z, Try.prog.info? 26 = some i ∧ i.zero = some z ∧ i.size = 20 ∧ i.bytes = 48 ∧ z.cells.size = 20 := by
  have h := msgInfo
  cases hi : Try.prog.info? 26 with
  | none => rw [hi] at h; cases h
  | some i =>
    rw [hi] at h
    simp only [Option.map_some, Option.some.injEq, Prod.mk.injEq] at h
    obtain ⟨h1, h2, h3⟩ := h
    cases hz : i.zero with
    | none => rw [hz] at h1; cases h1
    | some z =>
      rw [hz] at h1
      simp only [Option.map_some, Option.some.injEq] at h1
      exact ⟨i, z, rfl, hz, h2, h3, h1⟩
/-- Messages are appended. -/
theorem msgs_append (w : World) (v x : Value) (l k : List Msg) (hv : Msgs w v l) (hk : ∀ m ∈ k, m.Fits) (hx : Src w 20 x k.length (flat k)) (hn : l.length + k.length ≤ 1000000000) :
    ∃ v' w', (Builtin.append_ #[38, 38] 38 #[v, x]).run Try.prog w = .ok v' w' ∧ Msgs w' v' (l ++ k) ∧ Mod (fun b => ownOf v = some b) w w' ∧
      (∀ b, ownOf v' = some b → ownOf v = some b ∨ w.heap.size ≤ b) := by
  obtain ⟨i, z, h1, h2, h3, h4, h5⟩ := msgZero
  obtain ⟨v', w', hrun, hr, hm, ho⟩ := row_append (P := Try.prog) w 38 38 26 i z 20 48 Try.underlying38 h1 h2 h3 h4 h5 (by omega) v x l.length k.length (flat l) (flat k) hv.row hx (flat_cells k)
    (by simp only [maxLen]; omega) (by omega)
  exact ⟨v', w', hrun, ⟨by rw [List.length_append, flat_append]; exact hr, by intro m hm; rcases List.mem_append.1 hm with h | h; exact hv.fits m h; exact hk m h⟩, hm, ho⟩
end Go.Proofs.Ytklokcndhkhdmaa
