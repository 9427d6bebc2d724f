/- BufferPushes returns true: the walk. -/
import Derived.Test.YtknjlmpjkkkilaaBufferOneWalk
import Derived.Test.YtknjlmpjkkkilaaRowsLaw
namespace Go.Proofs.Ytknjlmpjkkkilaa
open Go.RowKit
set_option linter.unusedVariables false
set_option linter.unusedSimpArgs false

/-- What waits behind pushes. -/
def pushed (l : List Store) : List Store := l.foldl pushList []
theorem pushed_succ {l : List Store} {j : Nat} {s : Store} (h : l[j]? = some s) : pushed (l.take (j + 1)) = pushList (pushed (l.take j)) s := by
  rw [List.take_add_one, h, pushed, List.foldl_append]
  rfl
section
attribute [local go_sem] heap_drew blk_past cell_past free_past
set_option maxHeartbeats 4000000 in
theorem bufferPushes_walk (a : Option Addr) (c : Nat) (l : List Store) (w : World) (h : StoreArgs w a l) : Calls Try.prog 5 #[.slice a l.length c] w fun e w' => e = .returned (.bool true) ∧ Below w.heap.size w w' := by
  by_cases hl : 20 < l.length
  · have hd : ((20 : Int) < (l.length : Int)) := by omega
    go_enter Try.func5, Try.ntmps5
    go_wp2_with fail
    refine (works_ok _).mono ?_
    rintro e w1 ⟨rfl, hm⟩
    go_wp2
    go_ret
    exact ⟨rfl, hm.below⟩
  · have hd : ¬ ((20 : Int) < (l.length : Int)) := by omega
    go_enter Try.func5, Try.ntmps5
    go_wp2_with fail
    refine (new_ok _).mono ?_
    rintro e w1 ⟨p, rfl, hbuf, hp, hm1⟩
    go_wp2_with fail
    go_loopw [4, 5] (fun x y wr => ∃ j : Nat, j ≤ l.length ∧ y = .int .i64 j ∧ Seen wr x (pushed (l.take j)) ∧ Buf wr p (pushed (l.take j)) ∧ (∀ s ∈ pushed (l.take j), Good s) ∧ Mod (fun _ => False) w wr) (fun _ y _ => l.length - (intOf y).toNat)
    case atStart => exact ⟨0, by omega, rfl, Seen.empty _, hbuf, by simp [pushed], hm1⟩
    case round =>
      obtain ⟨j, hj, rfl, hseen, hbw, hgood, hmo⟩ := hrel
      clear hbuf hm1
      have h4 := hbw.four
      by_cases hlt : j < l.length
      · obtain ⟨g, o, s, rfl, hs, hsf, hsr⟩ := (h.keep hmo).at hlt
        have hj0 : (0 : Int) ≤ (j : Int) := by omega
        have hj1 : (j : Int) < (l.length : Int) := by omega
        have hps := pushed_succ hs
        have hgn := pushNum_good _ hgood s hsf
        rw [← hps] at hgn
        have hrp := fun w x (h : Seen w x (pushed (l.take j))) => refpush_ok w x _ s h hsf (by omega)
        have hpu := fun w (h : Buf w p (pushed (l.take j))) => push_ok w p _ h s hsf
        rw [← hps] at hrp hpu
        obtain ⟨no, hno⟩ : ∃ no, pushNum (pushed (l.take j)) s = no := ⟨_, rfl⟩
        rw [hno] at hrp hpu
        generalize pushed (l.take j) = lw at *
        generalize hln : pushed (l.take (j + 1)) = ln at *
        obtain ⟨sa, sw, sv⟩ := s
        have c0 : wr.cell? ⟨g, o + j * 3, none⟩ = some (.int .u32 sa) := by have := hsr 0 _ rfl; simpa using this
        have c1 : wr.cell? ⟨g, o + j * 3 + 1, none⟩ = some (.int .i64 sw) := by have := hsr 1 _ rfl; simpa using this
        have c2 : wr.cell? ⟨g, o + j * 3 + 2, none⟩ = some (.int .u32 sv) := by have := hsr 2 _ rfl; simpa using this
        simp only [Store.cells] at hrp hpu
        clear hs hsr hps hgood
        go_wp2_with fail
        refine (hrp _ _ hseen).mono ?_
        rintro e w2 ⟨v', rfl, hseen', hm2⟩
        have d0 := hm2.cell c0 (fun x => x)
        have d1 := hm2.cell c1 (fun x => x)
        have d2 := hm2.cell c2 (fun x => x)
        replace hbw := hbw.keep hm2 (fun x => x)
        clear c0 c1 c2 hseen
        go_wp2_with fail
        refine (hpu _ hbw).mono ?_
        rintro e w3 ⟨rfl, hbw', hm3⟩
        have hpc : Seen w3 v' ln := by
          obtain ⟨r, f, e1, _⟩ := hbw.ex
          exact hseen'.keepP hm3 e1 (by decide)
        have hnn : (no != no) = false := by simp
        have hmW := (hmo.trans hm2).own hm3 hp
        clear d0 d1 d2
        go_wp2_with (go_at_call 14; refine (num_ok _ _).mono ?_; rintro e wn ⟨rfl, rfl⟩)
        go_roundw
        case rel => exact ⟨j + 1, by omega, by go_num, by rw [hln]; exact hpc, by rw [hln]; exact hbw', by rw [hln]; exact hgn, hmW⟩
        case measure => simp [intOf]; omega
      · obtain rfl : j = l.length := by omega
        rw [List.take_length] at hseen hbw hgood
        go_wp2_with fail
        refine (is_ok _ p _ _ hbw hseen hgood).mono ?_
        rintro e w2 ⟨rfl, hm2⟩
        go_wp2_with fail
        refine (works_ok _).mono ?_
        rintro e w3 ⟨rfl, hm3⟩
        go_wp2
        go_ret
        exact ⟨rfl, ((hmo.trans hm2).trans hm3).below⟩
end
end Go.Proofs.Ytknjlmpjkkkilaa
