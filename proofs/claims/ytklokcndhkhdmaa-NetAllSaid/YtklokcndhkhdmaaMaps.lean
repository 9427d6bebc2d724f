/- Maps keyed by integers that a call makes: a literal that is laid, a key that is looked up. Nothing of the program stands here. -/
import Derived.Test.YtklokcndhkhdmaaBase
namespace Go.Proofs.Ytklokcndhkhdmaa
open Go.RowKit

theorem setObj_alloc (w : World) (o o' : Obj) : ({ w.alloc o with heap := (w.alloc o).heap.setIfInBounds w.heap.size o' } : World) = w.alloc o' := by
  simp only [World.alloc]
  congr 1
  apply Array.ext_getElem?
  intro i
  rw [Array.getElem?_setIfInBounds]
  by_cases h : w.heap.size = i
  · subst h; simp
  · simp [h, Array.getElem?_push, show ¬ i = w.heap.size from fun e => h e.symm]

theorem run_checkKey_int {P : Program} (w : World) (b : Bool) (n : Nat) (K : TypeId) (k k' : IntKind) (x : Int) (hK : P.underlying K = some (.int k)) :
    (Instr.checkKey b (n + 1) K (.int k' x)).run P w = .ok () w := by
  simp only [Instr.checkKey, Sem.run_bind, run_underlying hK, Result.andThen_ok]
  rfl

theorem run_findKey_now {P : Program} (w : World) (K : TypeId) (d : TypeDesc) (x : Value) (es : List MapEntry) (r : Option (Nat × Value)) (hK : P.underlying K = some d) (h : Instr.findNow d x es 0 = some r) :
    (Instr.findKey K x es).run P w = .ok r w := by
  simp [Instr.findKey, Sem.run_bind, run_underlying hK, h]

/-- Has no entry this key (all keys being integers of one kind)? -/
def newKey (k : IntKind) (n : Int) : List MapEntry → Bool
  | [] => true
  | e :: es => (match e.key with | .int k' m => k == k' && !(n == m) | _ => false) && newKey k n es
theorem newKey_nil (k : IntKind) (n : Int) : newKey k n [] = true := id rfl
theorem newKey_cons (k k' : IntKind) (n m : Int) (v : Value) (b : Nat) (es : List MapEntry) : newKey k n (({ key := .int k' m, val := v, born := b } : MapEntry) :: es) = ((decide (k = k') && !(n == m)) && newKey k n es) := by
  cases k <;> cases k' <;> rfl
theorem findNow_new (k : IntKind) (n : Int) : ∀ (es : List MapEntry) (i : Nat), newKey k n es = true → Instr.findNow (.int k) (.int k n) es i = some none
  | [], _, _ => rfl
  | e :: es, i, h => by
    simp only [newKey, Bool.and_eq_true] at h
    obtain ⟨h1, h2⟩ := h
    unfold Instr.findNow
    cases hk : e.key <;> simp only [hk] at h1 <;> try (simp at h1)
    obtain ⟨rfl, h1⟩ := h1
    rename_i m
    have h1' : (n == m) = false := by simpa using h1
    simp only [Instr.sameNow, if_true, h1', findNow_new k n es (i + 1) h2]

/-- A new key is laid into a map that was made last. -/
theorem run_insert_new {P : Program} (T K E : TypeId) (k : IntKind) (hT : P.underlying T = some (.map K E)) (hK : P.underlying K = some (.int k))
    (w : World) (es : List MapEntry) (c : Nat) (n : Int) (v : Value) (hf : newKey k n es = true) :
    (Instr.mapUpdate T (.map (some w.heap.size)) (.int k n) v).run P (w.alloc (.map es.toArray c)) = .ok () (w.alloc (.map (es ++ [({ key := .int k n, val := v, born := c } : MapEntry)]).toArray (c + 1))) := by
  have hg : (getObj w.heap.size).run P (w.alloc (.map es.toArray c)) = .ok (.map es.toArray c) (w.alloc (.map es.toArray c)) := by
    simp only [getObj, Sem.run, heap_alloc_new]
  have hs : ∀ o, (setObj w.heap.size o).run P (w.alloc (.map es.toArray c)) = .ok () (w.alloc o) := by
    intro o
    simp only [setObj, Sem.run, heap_alloc_new]
    rw [setObj_alloc]
  simp [Instr.mapUpdate, Sem.run_bind, run_underlying hT, hg, run_checkKey_int (P := P) _ _ 9999 K k k n hK, run_findKey_now _ K _ _ _ _ hK (findNow_new k n es 0 hf), hs]

theorem run_lookup_hit {P : Program} (T K E : TypeId) (k : IntKind) (hT : P.underlying T = some (.map K E)) (hK : P.underlying K = some (.int k))
    (w : World) (r : Nat) (es : Array MapEntry) (c : Nat) (hr : w.heap[r]? = some (.map es c)) (n : Int) (i : Nat) (v : Value) (hf : Instr.findNow (.int k) (.int k n) es.toList 0 = some (some (i, v))) (ok : Bool) :
    (Instr.lookup T (.map (some r)) (.int k n) ok).run P w = .ok (if ok then .tuple #[v, .bool true] else v) w := by
  have hg : (getObj r).run P w = .ok (.map es c) w := by simp [getObj, Sem.run, hr]
  simp [Instr.lookup, Sem.run_bind, run_underlying hT, hg, run_checkKey_int (P := P) _ _ 9999 K k k n hK, run_findKey_now _ K _ _ _ _ hK hf]

theorem run_lookup_miss {P : Program} (T K E : TypeId) (k : IntKind) (hT : P.underlying T = some (.map K E)) (hK : P.underlying K = some (.int k)) (z : Value) (hz : ∀ w, (zeroValue E).run P w = .ok z w)
    (w : World) (r : Nat) (es : Array MapEntry) (c : Nat) (hr : w.heap[r]? = some (.map es c)) (n : Int) (hf : Instr.findNow (.int k) (.int k n) es.toList 0 = some none) (ok : Bool) :
    (Instr.lookup T (.map (some r)) (.int k n) ok).run P w = .ok (if ok then .tuple #[z, .bool false] else z) w := by
  have hg : (getObj r).run P w = .ok (.map es c) w := by simp [getObj, Sem.run, hr]
  simp [Instr.lookup, Sem.run_bind, run_underlying hT, hg, run_checkKey_int (P := P) _ _ 9999 K k k n hK, run_findKey_now _ K _ _ _ _ hK hf, hz]
end Go.Proofs.Ytklokcndhkhdmaa
