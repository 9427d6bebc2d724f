/- BufferOne returns true: the walk. -/
import Derived.Test.YtknjlmpjkkkilaaBufR
import Derived.Test.YtknjlmpjkkkilaaBufF
namespace Go.Proofs.Ytknjlmpjkkkilaa
open Go.RowKit
set_option linter.unusedVariables false
set_option linter.unusedSimpArgs false

theorem pushNum_good (l : List Store) (hg : ∀ s ∈ l, Good s) (s : Store) (hs : s.Fits) : ∀ x ∈ pushList l s, Good x := by
  intro x hx
  unfold pushList at hx
  split at hx
  · rename_i h0
    rcases List.mem_append.1 hx with hx | hx
    · exact hg x hx
    · rw [List.mem_singleton.1 hx]
      refine ⟨hs, ?_⟩
      unfold pushNum at h0
      split at h0
      · assumption
      · exact h0
  · exact hg x hx
section
attribute [local go_sem] heap_drew blk_past cell_past free_past
set_option maxHeartbeats 2000000 in
theorem bufferOne_walk (s : Store) (hs : s.Fits) (a n : Int) (ha : 0 ≤ a) (ha' : a ≤ 4294967295) (w : World) : Calls Try.prog 3 #[.agg s.cells.toArray, .int .u32 a, .int .i64 n] w fun e w' => e = .returned (.bool true) ∧ Below w.heap.size w w' := by
  obtain ⟨l, hl⟩ : ∃ l, pushList [] s = l := ⟨_, rfl⟩
  obtain ⟨no, hno⟩ : ∃ no, pushNum [] s = no := ⟨_, rfl⟩
  obtain ⟨f, hf⟩ : ∃ f, fwd l a n = f := ⟨_, rfl⟩
  have hgood : ∀ x ∈ l, Good x := by rw [← hl]; exact pushNum_good [] (by simp) s hs
  have hlen : l.length ≤ 1000 := by
    rw [← hl, pushList]
    split <;> simp
  have hpush := fun w p h => push_ok w p [] h s hs
  have hrp := fun w => refpush_ok w (.slice none 0 0) [] s (Seen.empty w) hs (by simp)
  rw [hl, hno] at hrp
  simp only [hl, hno] at hpush
  obtain ⟨sa, sw, sv⟩ := s
  simp only [Store.cells] at hpush hrp ⊢
  go_enter Try.func3, Try.ntmps3
  go_upto_region 1 with fail
  have hb := blk_new w (Obj.cells #[Value.int IntKind.u32 sa, Value.int IntKind.i64 sw, Value.int IntKind.u32 sv] 24)
  have hm : Mod (fun _ => False) w (w.alloc (Obj.cells #[Value.int IntKind.u32 sa, Value.int IntKind.i64 sw, Value.int IntKind.u32 sv] 24)) := (Mod.refl _ _).alloc _
  generalize w.heap.size = b at hb ⊢
  generalize w.alloc (Obj.cells #[Value.int IntKind.u32 sa, Value.int IntKind.i64 sw, Value.int IntKind.u32 sv] 24) = w0 at *
  go_wp2_with fail
  refine (new_ok _).mono ?_
  rintro e w1 ⟨p, rfl, hbuf, hp, hm1⟩
  replace hb := hm1.at hb (fun x => x)
  have c0 : w1.cell? ⟨b, 0, none⟩ = some (.int .u32 sa) := cell_of w1 hb 0
  have c1 : w1.cell? ⟨b, 1, none⟩ = some (.int .i64 sw) := cell_of w1 hb 1
  have c2 : w1.cell? ⟨b, 2, none⟩ = some (.int .u32 sv) := cell_of w1 hb 2
  have hpb : b ≠ p := by
    rintro rfl
    obtain ⟨r, f, e1, _⟩ := hbuf.ex
    rw [hb] at e1
    simp at e1
  go_wp2_with fail
  refine (hpush _ p hbuf).mono ?_
  rintro e w2 ⟨rfl, hbuf2, hm2⟩
  have hmW : Mod (fun _ => False) w w2 := (hm.trans hm1).own hm2 (Nat.le_trans hm.size hp)
  replace hb := hm2.at hb hpb
  clear c0 c1 c2 hm hm1 hm2 hbuf
  go_wp2_with fail
  refine (forward_any _ _ l a n (.inr ⟨p, rfl, hbuf2⟩) hgood ha ha').mono ?_
  rintro e w3 ⟨rfl, hm3⟩
  rw [hf]
  replace hb := hm3.at hb (fun x => x)
  replace hmW := hmW.trans hm3
  clear hm3
  have c0 : w3.cell? ⟨b, 0, none⟩ = some (.int .u32 sa) := cell_of w3 hb 0
  have c1 : w3.cell? ⟨b, 1, none⟩ = some (.int .i64 sw) := cell_of w3 hb 1
  have c2 : w3.cell? ⟨b, 2, none⟩ = some (.int .u32 sv) := cell_of w3 hb 2
  go_wp2_with fail
  refine (hrp _).mono ?_
  rintro e w4 ⟨v4, rfl, hseen, hm4⟩
  replace hmW := hmW.trans hm4
  clear hm4 c0 c1 c2
  go_wp2_with fail
  refine (refforward_ok _ v4 l a n hseen (fun s hs => (hgood s hs).2) hlen ha ha').mono ?_
  rintro e w5 ⟨rfl, hm5⟩
  rw [hf]
  replace hmW := hmW.trans hm5
  have e1 : (no == no) = true := by simp
  have e2 : (f.1 == f.1) = true := by simp
  have e3 : (f.2 == f.2) = true := by simp
  go_wp2_with (first
    | (go_at_call 14; refine (num_ok _ _).mono ?_; rintro e wn ⟨rfl, rfl⟩)
    | (go_at_call 15; refine (works_ok _).mono ?_; rintro e w6 ⟨rfl, hm6⟩))
  go_ret
  exact ⟨rfl, (hmW.trans hm6).below⟩
end
end Go.Proofs.Ytknjlmpjkkkilaa
