/- BufferForwards returns true: the walk. -/
import Derived.Test.YtknjlmpjkkkilaaBufS
namespace Go.Proofs.Ytknjlmpjkkkilaa
open Go.RowKit
set_option linter.unusedVariables false
set_option linter.unusedSimpArgs false

section
attribute [local go_sem] heap_drew blk_past cell_past free_past
set_option maxHeartbeats 4000000 in
theorem bufferForwards_walk (a : Option Addr) (c : Nat) (l : List BAct) (x n : Int) (hx : 0 ≤ x) (hx' : x ≤ 4294967295) (w : World) (h : BActs w a l) : Calls Try.prog 4 #[.slice a l.length c, .int .u32 x, .int .i64 n] w fun e w' => e = .returned (.bool true) ∧ Below w.heap.size w w' := by
  by_cases hl : 100 < l.length
  · have hd : ((100 : Int) < (l.length : Int)) := by omega
    go_enter Try.func4, Try.ntmps4
    go_wp2_with fail
    refine (works_ok _).mono ?_
    rintro e w1 ⟨rfl, hm⟩
    go_wp2
    go_ret
    exact ⟨rfl, hm.below⟩
  · have hd : ¬ ((100 : Int) < (l.length : Int)) := by omega
    have hpl := played_ok w a c l h (by omega)
    obtain ⟨lw, hlw⟩ : ∃ lw, playedL l = lw := ⟨_, rfl⟩
    obtain ⟨f, hf⟩ : ∃ f, fwd lw x n = f := ⟨_, rfl⟩
    rw [hlw] at hpl
    go_enter Try.func4, Try.ntmps4
    go_wp2_with fail
    refine hpl.mono ?_
    rintro e w1 ⟨p, v, rfl, hbuf, hseen, hgood, hp, hm⟩
    have h4 := hbuf.four
    go_wp2_with fail
    refine (forward_any _ _ lw x n (.inr ⟨p, rfl, hbuf⟩) hgood hx hx').mono ?_
    rintro e w2 ⟨rfl, hm2⟩
    rw [hf]
    go_wp2_with fail
    refine (refforward_ok _ v lw x n (hseen.keep0 hm2) (fun s hs => (hgood s hs).2) (by omega) hx hx').mono ?_
    rintro e w3 ⟨rfl, hm3⟩
    rw [hf]
    have hmW := (hm.trans hm2).trans hm3
    have hb3 := (hbuf.keep hm2 (fun x => x)).keep hm3 (fun x => x)
    have hs3 := (hseen.keep0 hm2).keep0 hm3
    have e2 : (f.1 == f.1) = true := by simp
    have e3 : (f.2 == f.2) = true := by simp
    go_wp2_with fail
    refine (is_ok _ p _ _ hb3 hs3 hgood).mono ?_
    rintro e w4 ⟨rfl, hm4⟩
    go_wp2_with fail
    refine (works_ok _).mono ?_
    rintro e w5 ⟨rfl, hm5⟩
    go_wp2
    go_ret
    exact ⟨rfl, ((hmW.trans hm4).trans hm5).below⟩
end
end Go.Proofs.Ytknjlmpjkkkilaa
