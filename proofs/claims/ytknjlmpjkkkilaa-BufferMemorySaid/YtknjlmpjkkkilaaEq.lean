/- '==' between arrays of integers. Nothing of the program stands here. -/
import Derived.Test.YtknjlmpjkkkilaaBase
namespace Go.Proofs.Ytknjlmpjkkkilaa
open Go.RowKit

theorem run_part_cell {P : Program} (w : World) (e : TypeId) (k : IntKind) (he : P.underlying e = some (.int k)) (cs : Array Value) (i : Nat) (v : Value) (h : cs[i]? = some v) :
    (part e cs i).run P w = .ok v w := by
  have hagg : (isAgg e).run P w = .ok false w := by
    unfold isAgg
    rw [Sem.run_bind, run_underlying he w]
    rfl
  simp [part, Sem.run_bind, hagg, h]

theorem run_equalIn_ints {P : Program} (w : World) (d : Nat) (t e : TypeId) (len : Nat) (k k0 : IntKind) (ht : P.underlying t = some (.array len e)) (he : P.underlying e = some (.int k0)) (hs : (P.info? e).map (·.size) = some 1)
    (xs ys : List Int) (hx : xs.length = len) (hy : ys.length = len) :
    (Op.equalIn (d + 2) t (.agg (xs.map (Value.int k)).toArray) (.agg (ys.map (Value.int k)).toArray)).run P w = .ok (decide (xs = ys)) w := by
  have hsz : (sizeOf e).run P w = .ok 1 w := by
    cases hq : P.info? e with
    | none => simp [hq] at hs
    | some i => simp [hq] at hs; simp [sizeOf, typeInfo, hq, hs]
  unfold Op.equalIn
  simp only [Sem.run_bind, run_underlying ht, Result.andThen_ok, hsz]
  have hloop : ∀ l : List Nat, (∀ i ∈ l, i < len) → (forIn (m := Sem) l ((none, ()) : Option Bool × Unit) fun i __s => do
            let __do_lift ← part e (List.map (Value.int k) xs).toArray (i * 1)
            let __do_lift_1 ← part e (List.map (Value.int k) ys).toArray (i * 1)
            let __do_lift ← Op.equalIn (d + 1) e __do_lift __do_lift_1
            if (!__do_lift) = true then pure (ForInStep.done (some false, ())) else pure (ForInStep.yield (none, ()))).run P w =
      .ok (cond (l.all (fun i => xs.getD i 0 == ys.getD i 0)) (none, ()) (some false, ())) w := by
    intro l
    induction l with
    | nil => intro _; simp
    | cons i l ih =>
      intro hl
      have hi := hl i (by simp)
      have h1 := run_part_cell w e k0 he (xs.map (Value.int k)).toArray (i * 1) (.int k (xs.getD i 0)) (by simp [List.getD, show i < xs.length by omega])
      have h2 := run_part_cell w e k0 he (ys.map (Value.int k)).toArray (i * 1) (.int k (ys.getD i 0)) (by simp [List.getD, show i < ys.length by omega])
      have h3 := run_equalIn_int w d e k k0 (xs.getD i 0) (ys.getD i 0) he
      simp only [List.forIn_cons, Sem.run_bind, h1, h2, h3, Result.andThen_ok, List.all_cons]
      by_cases hq : xs.getD i 0 = ys.getD i 0
      · have hb : (xs.getD i 0 == ys.getD i 0) = true := by simpa using hq
        rw [hb]
        simp only [Bool.not_true, Bool.false_eq_true, if_false, Sem.run_pure, Result.andThen_ok, Bool.true_and]
        exact ih (fun j hj => hl j (by simp [hj]))
      · have hb : (xs.getD i 0 == ys.getD i 0) = false := by simpa using hq
        rw [hb]
        simp [Sem.run_pure]
  rw [Std.Legacy.Range.forIn_eq_forIn_range']
  rw [hloop _ (by intro i hi; simp [List.mem_range'] at hi; omega)]
  have hall : (List.range' 0 (Std.Legacy.Range.size [:len]) 1).all (fun i => xs.getD i 0 == ys.getD i 0) = decide (xs = ys) := by
    rw [Bool.eq_iff_iff]
    simp only [List.all_eq_true, decide_eq_true_eq, beq_iff_eq]
    constructor
    · intro h
      apply List.ext_getElem (by omega)
      intro i h1 h2
      have := h i (by simp [List.mem_range', Std.Legacy.Range.size]; omega)
      simpa [List.getD, h1, h2] using this
    · rintro rfl i _; rfl
  rw [hall]
  by_cases hq : xs = ys
  · simp [hq]
  · simp [hq]

/-- '==' between two arrays of integers. -/
theorem run_eql_ints {P : Program} (w : World) (t e : TypeId) (len : Nat) (k k0 : IntKind) (ht : P.underlying t = some (.array len e)) (he : P.underlying e = some (.int k0)) (hs : (P.info? e).map (·.size) = some 1)
    (xs ys : List Int) (hx : xs.length = len) (hy : ys.length = len) :
    (binOp .eql t (.agg (xs.map (Value.int k)).toArray) (.agg (ys.map (Value.int k)).toArray)).run P w = .ok (.bool (decide (xs = ys))) w := by
  rw [run_eql_struct, run_equalIn_ints w 9998 t e len k k0 ht he hs xs ys hx hy]
  rfl
theorem run_neq_ints {P : Program} (w : World) (t e : TypeId) (len : Nat) (k k0 : IntKind) (ht : P.underlying t = some (.array len e)) (he : P.underlying e = some (.int k0)) (hs : (P.info? e).map (·.size) = some 1)
    (xs ys : List Int) (hx : xs.length = len) (hy : ys.length = len) :
    (binOp .neq t (.agg (xs.map (Value.int k)).toArray) (.agg (ys.map (Value.int k)).toArray)).run P w = .ok (.bool (!decide (xs = ys))) w := by
  rw [run_neq_struct, run_equalIn_ints w 9998 t e len k k0 ht he hs xs ys hx hy]
  rfl
end Go.Proofs.Ytknjlmpjkkkilaa
