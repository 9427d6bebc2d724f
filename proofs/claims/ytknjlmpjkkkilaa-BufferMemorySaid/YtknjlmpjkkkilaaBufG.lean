/- The buffer's back: it goes over the stores, the last one ahead. -/
import Derived.RangeFuncNested
import Derived.RangeFuncBound
import Derived.RangeFuncCalls
import Derived.RangeFuncLeaves
import Derived.Shelf.Abstract
import Derived.Shelf.RegionOpen
import Derived.WalkKit
import Derived.OwnWalkIn
import Derived.TacticsInMore
import Derived.LoopNIn
import Derived.LoopIn
import Derived.Sort.CutIn
import Derived.Test.YtknjlmpjkkkilaaBufE
import Derived.Test.YtknjlmpjkkkilaaScopeIn
namespace Go.Proofs.Ytknjlmpjkkkilaa
open Go.RowKit Go.Shelf
set_option linter.unusedVariables false
set_option linter.unusedSimpArgs false

/-- What a round keeps: of the blocks below n₀ all but one. -/
structure Kept (n₀ ob : Nat) (w w' : World) : Prop where
  size : w.heap.size ≤ w'.heap.size
  block : ∀ k, k < n₀ → k ≠ ob → w'.heap[k]? = w.heap[k]?
theorem Kept.refl (n₀ ob : Nat) (w : World) : Kept n₀ ob w w := ⟨Nat.le_refl _, fun _ _ _ => rfl⟩
theorem Kept.trans {n₀ ob : Nat} {a b c : World} (h : Kept n₀ ob a b) (k : Kept n₀ ob b c) : Kept n₀ ob a c := ⟨Nat.le_trans h.size k.size, fun i h1 h2 => (k.block i h1 h2).trans (h.block i h1 h2)⟩
theorem Kept.put {n₀ ob : Nat} (W : World) (l : Nat) (o' : Obj) (h : n₀ ≤ l) : Kept n₀ ob W (W.putObj l o') :=
  ⟨by simp, fun k hk _ => World.putObj_heap_other (by omega)⟩
theorem Kept.at {n₀ ob : Nat} {w w' : World} (h : Kept n₀ ob w w') {k : Nat} {o : Obj} (hk : w.heap[k]? = some o) (h1 : k < n₀) (h2 : k ≠ ob) : w'.heap[k]? = some o := by rw [h.block k h1 h2]; exact hk
theorem Kept.of_mod {n₀ ob : Nat} {S : Nat → Prop} {w w' : World} (h : Mod S w w') (hn : n₀ ≤ w.heap.size) (hs : ∀ k, k < n₀ → S k → k = ob) : Kept n₀ ob w w' :=
  ⟨h.size, fun k h1 h2 => h.block k (by omega) (fun s => h2 (hs k h1 s))⟩

/-- A buffer, or none. -/
def BufP (w : World) (v : Option Addr) (l : List Store) : Prop := (v = none ∧ l = []) ∨ ∃ p, v = some ⟨p, 0, none⟩ ∧ Buf w p l
theorem BufP.keep0 {w w' : World} {v : Option Addr} {l : List Store} (h : BufP w v l) (hm : Mod (fun _ => False) w w') : BufP w' v l := by
  rcases h with h | ⟨p, h1, h2⟩
  · exact .inl h
  · exact .inr ⟨p, h1, h2.keep hm (fun x => x)⟩
theorem BufP.kept {n₀ ob : Nat} {w w' : World} {v : Option Addr} {l : List Store} (h : BufP w v l) (hk : Kept n₀ ob w w') (hp : ∀ p, v = some ⟨p, 0, none⟩ → p < n₀ ∧ p ≠ ob) : BufP w' v l := by
  rcases h with h | ⟨p, h1, h2⟩
  · exact .inl h
  · obtain ⟨r, f, e1, e2⟩ := h2.ex
    exact .inr ⟨p, h1, ⟨r, f, hk.at e1 (hp p h1).1 (hp p h1).2, e2⟩, h2.four, h2.fits⟩
theorem BufP.four {w : World} {v : Option Addr} {l : List Store} (h : BufP w v l) : l.length ≤ 4 := by
  rcases h with ⟨_, rfl⟩ | ⟨p, h1, h2⟩
  · simp
  · exact h2.four
theorem len_any (w : World) (v : Option Addr) (l : List Store) (h : BufP w v l) : Calls Try.prog 21 #[.pointer v] w fun e w' => e = .returned (.int .i64 l.length) ∧ w' = w := by
  rcases h with ⟨rfl, rfl⟩ | ⟨p, rfl, h2⟩
  · exact len_nil w
  · exact len_ok w p l h2

/-- A store that may wait. -/
def Good (s : Store) : Prop := s.Fits ∧ storeNum s = 0
abbrev FStore := { s : Store // Good s }

theorem back_ok (w : World) (v : Option Addr) : Calls Try.prog 28 #[.pointer v] w fun e w' => e = .returned (.func (.func 37) #[] #[.pointer (some ⟨w.heap.size, 0, none⟩)]) ∧
    w' = w.alloc (.cells #[.pointer v] 25) := by
  go_enter Try.func28, Try.ntmps28
  go_wp2
  go_ret
  exact ⟨rfl, rfl⟩

theorem drop_rev {l : List Store} {j : Nat} {s : Store} (h : l[j]? = some s) : (l.drop j).reverse = (l.drop (j + 1)).reverse ++ [s] := by
  have hl := (List.getElem?_eq_some_iff.1 h).1
  rw [List.drop_eq_getElem_cons hl, List.reverse_cons]
  congr 2
  rw [List.getElem?_eq_getElem hl] at h
  exact Option.some.inj h

section
attribute [local go_sem] Oper.semAt_some
attribute [local go_sem] heap_drew
set_option maxRecDepth 100000 in
set_option maxHeartbeats 4000000 in
theorem back1_ok (N : Nat) (hN : 1 ≤ N) (l0 bp n₀ ob : Nat) (v : Option Addr) (l : List Store) (J Jx : List FStore → World → Prop) (hg : ∀ s ∈ l, Good s)
    (hp : ∀ p, v = some ⟨p, 0, none⟩ → p < n₀ ∧ p ≠ ob) (hbp : bp < n₀ ∧ bp ≠ ob) (W : World) (hnW : n₀ ≤ W.heap.size)
    (hJ : AbidesFrom W.heap.size J)
    (hY : ∀ pre x W1, J pre W1 → pre.length < l.length → YieldAt Fence.wide (N - 1) Try.prog l0 #[.agg x.1.cells.toArray] W1 fun e W' =>
      (e = .returned (.bool true) ∧ J (pre ++ [x]) W' ∧ Kept n₀ ob W1 W') ∨ (e = .returned (.bool false) ∧ Jx (pre ++ [x]) W'))
    (h : BufP W v l) (hP : W.heap[bp]? = some (.cells #[.pointer v] 25 (0, 0))) (h0 : J [] W) :
    CallsIn Fence.wide N Try.prog 37 #[.func (.yield l0) #[] #[], .pointer (some ⟨bp, 0, none⟩)] W fun e W' => (∃ v, e = .returned v) ∧
      ((∃ ys : List FStore, ys.map (·.1) = l.reverse ∧ J ys W') ∨ (∃ pre : List FStore, (∃ r, pre.map (·.1) ++ r = l.reverse) ∧ Jx pre W')) := by
  have hP0 : W.cell? ⟨bp, 0, none⟩ = some (.pointer v) := cell_of W hP 0
  have h4 := h.four
  refine callsIn_of_wp Try.func37 rfl trivial ?_ rfl
  simp only [Try.ntmps37, List.size_toArray, List.length_cons, List.length_nil, Nat.reduceAdd, Nat.reduceSub, Array.replicate_succ, Array.replicate_zero, List.push_toArray, List.append_toArray, List.nil_append, List.cons_append]
  gi_wp2_with (refine ⟨trivial, ?_⟩; gi_at_call 21; refine (callsIn_wide.2 (len_any _ v l h)).mono ?_; rintro e w1 ⟨rfl, rfl⟩)
  gi_loopw [3] (fun i wr => ∃ (j : Nat) (pre : List FStore), j ≤ l.length ∧ i = .int .i64 ((j : Int) - 1) ∧ pre.map (·.1) = (l.drop j).reverse ∧ J pre wr ∧ Kept n₀ ob w1 wr) (fun i _ => (intOf i + 1).toNat)
  case atStart => exact ⟨l.length, [], by omega, by simp, by simp, h0, Kept.refl _ _ _⟩
  case round =>
    obtain ⟨j, pre, hj, rfl, hpre, hJ1, hk⟩ := hrel
    have hbuf := h.kept hk hp
    have hP' := hk.at hP hbp.1 hbp.2
    have hc' : wr.cell? ⟨bp, 0, none⟩ = some (.pointer v) := cell_of wr hP' 0
    have hsw := hk.size
    have hpl : pre.length ≤ l.length - j := by have := congrArg List.length hpre; simp at this; omega
    cases j with
    | zero =>
      have hz : ((0 : Nat) : Int) - 1 = -1 := rfl
      rw [hz]
      rw [List.drop_zero] at hpre
      gi_wp2
      go_end0
      exact ⟨⟨_, rfl⟩, .inl ⟨pre, hpre, hJ1⟩⟩
    | succ j =>
      have hz : ((j + 1 : Nat) : Int) - 1 = (j : Int) := by omega
      rw [hz]
      clear hz
      rcases hbuf with ⟨_, h00⟩ | ⟨p, rfl, hb⟩
      · subst h00; simp at hj
      obtain ⟨r, f, e1, e2, e3, e4⟩ := hb.ex
      have hjl : j < l.length := by omega
      obtain ⟨s, hs⟩ : ∃ s, l[j]? = some s := ⟨_, List.getElem?_eq_getElem hjl⟩
      have hsg := hg s (List.mem_of_getElem? hs)
      have hrs : r[(f + j) % 4]? = some s := by rw [e4 j hjl]; exact hs
      have hcell := ringCells_at f l.length _ s hrs e2
      have hat := at_ok wr p r f l.length j e1 e2 e3 (by omega)
      generalize (f + j) % 4 = q at *
      have c0 : wr.cell? ⟨p, q * 3, none⟩ = some (.int .u32 s.addr) := by rw [cell_of wr e1, List.getElem?_toArray]; exact hcell 0 _ rfl
      have c1 : wr.cell? ⟨p, q * 3 + 1, none⟩ = some (.int .i64 s.width) := by rw [cell_of wr e1, List.getElem?_toArray]; exact hcell 1 _ rfl
      have c2 : wr.cell? ⟨p, q * 3 + 2, none⟩ = some (.int .u32 s.value) := by rw [cell_of wr e1, List.getElem?_toArray]; exact hcell 2 _ rfl
      have hj0 : (0 : Int) ≤ (j : Int) := by omega
      clear hcell hrs e1 e2 e3 e4
      gi_wp2_with (refine ⟨trivial, ?_⟩; gi_at_call 26; refine (callsIn_wide.2 hat).mono ?_; rintro e w2 ⟨rfl, m, rfl⟩; have hJ5 : J pre (wr.drewN m) := hJ pre wr _ none hJ1 ⟨rfl, rfl, rfl, Nat.le_refl _, fun _ _ _ => rfl⟩ (fun r e => by cases e); have hk5 : Kept n₀ ob w1 (wr.drewN m) := ⟨hk.size, hk.block⟩; obtain ⟨fn, tmps, assign, body, hy, hR⟩ := hY pre ⟨s, hsg⟩ _ hJ5 (by omega); simp only [Store.cells] at hy; clear hJ1 hY)
      refine hR.mono ?_
      rintro e W3 (⟨rfl, hJ3, hk3⟩ | ⟨rfl, hJx3⟩)
      · gi_wp2
        go_roundw
        case rel => exact ⟨j, pre ++ [⟨s, hsg⟩], by omega, by go_num, by rw [List.map_append, hpre, drop_rev hs]; rfl, hJ3, hk5.trans hk3⟩
        case measure => simp [intOf]
      · gi_wp2
        refine bodyPost_ret (results_none rfl _ _ _) rfl ?_
        refine ⟨⟨_, rfl⟩, .inr ⟨pre ++ [⟨s, hsg⟩], ⟨(l.take j).reverse, ?_⟩, hJx3⟩⟩
        rw [List.map_append, hpre, show List.map (fun x : FStore => x.1) [⟨s, hsg⟩] = [s] from rfl, ← drop_rev hs, ← List.reverse_append, List.take_append_drop]
end
end Go.Proofs.Ytknjlmpjkkkilaa
