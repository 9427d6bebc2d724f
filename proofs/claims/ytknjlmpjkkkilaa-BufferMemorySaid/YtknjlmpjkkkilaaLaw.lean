/- From a walk ('it returns true, and changes nothing that was there') to the step that a given statement asks for, whatever the parameters' types; and what is known of arguments of these types. -/
import Derived.Test.YtknjlmpjkkkilaaRows
import Derived.WalkKit
import Derived.ProofKit
import Derived.OpenShut
import Derived.ShutString
import Derived.ChangeOld
import Derived.Below
namespace Go.Proofs.Ytknjlmpjkkkilaa
open Go.ChangeShapes Go.WideShapes Go.ChangeAt Go.RowKit
set_option linter.unusedVariables false

theorem own : ownKnob Try.prog.godebug = none := by kernel_rfl
theorem laidOut : laidOutB Try.prog = true := by kernel_rfl

theorem trodAll_below {H : Type} {enc : TypeId × Value → H} {W W' : World} (hb : Below W.heap.size W W') : ∀ (ts : List TypeId) (vs : List Value) (ds : List (DataW H)) (ps : List MemPlace),
    (∀ t ∈ ts, Try.prog.readableRec t = true ∧ t < Try.prog.types.size) → DataW.TrodAll enc Try.prog W 0 (fun _ => true) true ts vs ds ps →
    DataW.TrodAll enc Try.prog W' 0 (fun b => decide (b < W.heap.size)) true ts vs ds ps
  | [], [], [], ps, _, h => h
  | t :: ts, v :: vs, d :: ds, ps, ht, h => by
    obtain ⟨p, q, h1, h2, h3⟩ := h
    have hlt : ∀ x ∈ p, x.block < W.heap.size := by obtain ⟨m, hm⟩ := h1; exact DataW.trod_lt m _ _ _ hm
    exact ⟨p, q, Below.trod laidOut (ht t (by simp)).1 (ht t (by simp)).2 h1 hb hlt, trodAll_below hb ts vs ds q (fun t' h' => ht t' (by simp [h'])) h2, h3⟩
  | [], [], _ :: _, _, _, h => h.elim
  | [], _ :: _, _, _, _, h => by cases h
  | _ :: _, [], _, _, _, h => by cases h
  | _ :: _, _ :: _, [], _, _, h => by cases h

/-- The step of a law: its walk is enough. -/
theorem law_lifted (f : Nat) (fn : Func) (hfn : Try.prog.funcs[f]? = some fn) (noInit : Try.prog.inits.idxOf? f = none) (spec : ChangeSpec) (hv : spec.vars = []) (hres : fn.resultTypes = #[4])
    (hspec : ∀ (H : Type) (ds : List (DataW H)), ds.length = fn.params.size → spec.fn H ds = { results := [.lit (.bool true)], args := ds })
    (hread : (fn.params.toList.all fun t => Try.prog.readableRec t && decide (t < Try.prog.types.size)) = true)
    (os : Os) (started : os.Started) (H : Type) (enc : TypeId × Value → H)
    (witness : ∃ (w : World) (tape : Tape) (i : Input), w.os = os ∧ (w.forCall tape i).Shaped Try.prog ∧ i.vars = [] ∧ Input.okWide Try.prog (w.forCall tape i) .any w.heap.size f i ∧
      spec.pre6 enc Try.prog fn [] false (w.forCall tape i).memory i.args ∧ ({} : Assume).holds Try.prog (lone (Frame.enter Try.prog f i.args .normal) [] (w.forCall tape i)))
    (walk : ∀ (W : World) (base : Nat) (args : Array Value) (ds : List (DataW H)) (p : List MemPlace), (∀ (j : Nat) t v, fn.params[j]? = some t → args[j]? = some v → Value.okWide Try.prog W .any base t v) →
      DataW.TrodAll enc Try.prog W 0 (fun _ => true) true fn.params.toList args.toList ds p →
      Calls Try.prog f args W fun e W' => e = .returned (.bool true) ∧ Below W.heap.size W W') :
    ReturnsInHanded {} Try.checked os f .any (spec.pre6 enc Try.prog fn [] false) (spec.post enc Try.prog fn false true false false) := by
  refine returnsInHanded_of_change (C := Try.checked) own started noInit hfn witness ?_
  intro W base args ds gs before hval hW hcnd _
  have hW' := hW
  obtain ⟨p, q, hA, hV, rfl, hfz, hnd⟩ := hW
  rw [hv] at hV
  obtain ⟨rfl, rfl⟩ := trodVars_none hV
  have hlen : ∀ (ts : List TypeId) (vs : List Value) (ds : List (DataW H)) (ps : List MemPlace), DataW.TrodAll enc Try.prog W 0 (fun _ => true) true ts vs ds ps → ds.length = ts.length := by
    intro ts
    induction ts with
    | nil => intro vs ds ps h; cases vs <;> cases ds <;> first | rfl | exact h.elim
    | cons t ts ih =>
      intro vs ds ps h
      cases vs with
      | nil => exact h.elim
      | cons v vs =>
        cases ds with
        | nil => exact h.elim
        | cons d ds => obtain ⟨p, q, _, h2, _⟩ := h; simp [ih vs ds q h2]
  have hl := hlen _ _ _ _ hA
  refine (walk W base args ds p hval hA).mono fun e W' ⟨he, bel⟩ => ?_
  subst he
  have hs := hspec H ds (by simpa using hl)
  have hread' : ∀ t ∈ fn.params.toList, Try.prog.readableRec t = true ∧ t < Try.prog.types.size := by
    intro t ht
    have := List.all_eq_true.1 hread t ht
    simpa using this
  refine ⟨_, rfl, ds, [], _, [], p, [], hW', ?_, ?_, ?_, bel.frame _, fun h => by cases h⟩
  · rw [List.append_nil, hs, hres]
    exact trodAll_mk1 (shut_bool Try.underlying4 _)
  · rw [List.append_nil, hs]
    exact trodAll_below bel _ _ _ _ hread' hA
  · rw [List.append_nil, hs, hv]
    rfl

theorem cells?_at {w : World} {base : Nat} {a : Addr} {n : Nat} {cs : List Value} (h : w.cells? base a n = some cs) : cs.length = n ∧ ∀ i, i < n → w.cell? (a.add i) = cs[i]? := by
  unfold World.cells? at h
  split at h
  · refine ⟨by simpa using mapM_some_length h, fun i hi => mapM_some_get h i i (by simp [hi])⟩
  · cases h

/-- An argument that is an array of integers. -/
theorem open_int_array {H : Type} {enc : TypeId × Value → H} {W : World} {base fuel n : Nat} {spare : Nat → Bool} {held : Bool} {t e : TypeId} {k : IntKind} {cs : List Value} {x : DataW H × List MemPlace} (ht : Try.prog.underlying t = some (.array n e)) (he : Try.prog.underlying e = some (.int k))
    (hce : Try.prog.cellsOf e = 1) (hct : Try.prog.cellsOf t = n) (h : DataW.trod enc Try.prog W base spare held fuel t cs = some x) : ∃ ls : List Int, cs = ls.map (Value.int k) ∧ ls.length = n ∧ ∀ y ∈ ls, (Lit.int k y).wf = true := by
  obtain ⟨xs, m, -, -, hl, hx, hi⟩ := DataW.trod_array ht h
  have hget : ∀ i, i < n → ∃ y, cs[i]? = some (.int k y) ∧ (Lit.int k y).wf = true := by
    intro i hin
    have := hi i hin
    rw [List.getElem?_eq_getElem (by omega)] at this
    obtain ⟨y, hy, -, hwf⟩ := DataW.trod_int he this
    rw [hce, Nat.mul_one] at hy
    refine ⟨y, ?_, hwf⟩
    have h2 : ((cs.drop i).take 1)[0]? = some (.int k y) := by rw [hy]; rfl
    rw [List.getElem?_take_of_lt (by omega), List.getElem?_drop] at h2
    simpa using h2
  have hb : ∀ (cs : List Value), (∀ i, i < cs.length → ∃ y, cs[i]? = some (.int k y) ∧ (Lit.int k y).wf = true) → ∃ ls : List Int, cs = ls.map (Value.int k) ∧ ∀ y ∈ ls, (Lit.int k y).wf = true := by
    intro cs
    induction cs with
    | nil => intro _; exact ⟨[], rfl, by simp⟩
    | cons c cs ih =>
      intro hh
      obtain ⟨y, hy, hwf⟩ := hh 0 (by simp)
      obtain ⟨ls, rfl, hls⟩ := ih (fun i hi => by have := hh (i + 1) (by simpa using hi); simpa using this)
      simp at hy
      subst hy
      exact ⟨y :: ls, rfl, by intro z hz; rcases List.mem_cons.1 hz with rfl | hz; exact hwf; exact hls z hz⟩
  obtain ⟨ls, rfl, hls⟩ := hb cs (fun i hi => hget i (by omega))
  exact ⟨ls, rfl, by simpa [hct] using hl, hls⟩
end Go.Proofs.Ytknjlmpjkkkilaa
