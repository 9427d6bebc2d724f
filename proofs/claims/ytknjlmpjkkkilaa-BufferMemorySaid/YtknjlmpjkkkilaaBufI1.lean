/- The buffer's Forward at one width (printed by a program of mine). -/
import Derived.Test.YtknjlmpjkkkilaaBufI
namespace Go.Proofs.Ytknjlmpjkkkilaa
open Go.RowKit Go.Shelf
set_option linter.unusedVariables false
set_option linter.unusedSimpArgs false
section
attribute [local go_sem] Oper.semAt_some wide_fn
attribute [local go_sem] heap_drew blk_past cell_past free_past

set_option maxRecDepth 100000 in
set_option maxHeartbeats 8000000 in
theorem forward_1 (w : World) (v : Option Addr) (l : List Store) (a : Int) (h : BufP w v l) (hg : ∀ s ∈ l, Good s) (ha : 0 ≤ a) (ha' : a ≤ 4294967295) (hal : a % 1 = 0) :
    Calls Try.prog 11 #[.pointer v, .int .u32 a, .int .i64 1] w fun e w' => e = .returned (.tuple #[.int .u32 (seek l.reverse a 1).1, .int .i64 (seek l.reverse a 1).2]) ∧ Mod (fun _ => False) w w' := by
  have hwb : wideB 1 = true := rfl
  have hal' : (a % 1 != 0) = false := by rw [hal]; rfl
  clear hal
  have hall := allocs5 w (Obj.cells #[Value.int IntKind.i64 1] 3) (Obj.cells #[Value.int IntKind.u32 0] 22) (Obj.cells #[Value.int IntKind.i64 0] 29) (Obj.cells #[Value.int IntKind.u32 a, Value.int IntKind.i64 1, Value.int IntKind.u32 0] 60) (Obj.cells #[Value.pointer v] 25)
  have hsz : (((((w.alloc (Obj.cells #[Value.int IntKind.i64 1] 3)).alloc (Obj.cells #[Value.int IntKind.u32 0] 22)).alloc (Obj.cells #[Value.int IntKind.i64 0] 29)).alloc (Obj.cells #[Value.int IntKind.u32 a, Value.int IntKind.i64 1, Value.int IntKind.u32 0] 60)).alloc (Obj.cells #[Value.pointer v] 25)).heap.size = w.heap.size + 5 := by simp
  have HA := Lib.hid hall
  have HS := Lib.hid hsz
  clear hall hsz
  refine (callsIn_wide (n := 3)).1 ?_
  refine callsIn_of_wp_marks Try.func11 rfl trivial ?_ rfl
  simp only [Try.ntmps11, List.size_toArray, List.length_cons, List.length_nil, Nat.reduceAdd, Nat.reduceSub, Array.replicate_succ, Array.replicate_zero, List.push_toArray, List.append_toArray, List.nil_append, List.cons_append]
  gi_wp2_with (first
    | (gi_at_call 27; refine (callsIn_wide.2 (width_ok _ _)).mono ?_; rintro e w1 ⟨rfl, rfl⟩)
    | (gi_at_call 28; refine (callsIn_wide.2 (back_ok _ _)).mono ?_; rintro e w1 ⟨rfl, rfl⟩))
  have hall := HA.out
  have hsz := HS.out
  clear HA HS
  obtain ⟨b5, hb5⟩ : ∃ b5, b5 = w.heap.size := ⟨_, rfl⟩
  rw [← hb5] at hall hsz ⊢
  generalize ((((w.alloc (Obj.cells #[Value.int IntKind.i64 1] 3)).alloc (Obj.cells #[Value.int IntKind.u32 0] 22)).alloc (Obj.cells #[Value.int IntKind.i64 0] 29)).alloc (Obj.cells #[Value.int IntKind.u32 a, Value.int IntKind.i64 1, Value.int IntKind.u32 0] 60)).alloc (Obj.cells #[Value.pointer v] 25) = W0 at hall hsz ⊢
  obtain ⟨h5, h6, h7, h8, hP, hm0⟩ := hall
  have hbuf := h.keep0 hm0
  have hB0 : Below b5 w W0 := by rw [hb5]; exact hm0.below
  have hb51 : b5 ≤ w.heap.size := by omega
  have hb52 : w.heap.size ≤ b5 := by omega
  have hpb : ∀ p, v = some ⟨p, 0, none⟩ → p < b5 := by
    rintro p rfl
    rcases h with ⟨h1, _⟩ | ⟨p', h1, h2⟩
    · cases h1
    · cases h1
      have := h2.lt
      omega
  obtain ⟨b6, hb6⟩ : ∃ b6, b5 + 1 = b6 := ⟨_, rfl⟩
  obtain ⟨b7, hb7⟩ : ∃ b7, b6 + 1 = b7 := ⟨_, rfl⟩
  obtain ⟨b8, hb8⟩ : ∃ b8, b7 + 1 = b8 := ⟨_, rfl⟩
  obtain ⟨bp, hbp⟩ : ∃ bp, b8 + 1 = bp := ⟨_, rfl⟩
  rw [hb6, hb7, hb8, hbp] at hP
  rw [hb6, hb7, hb8] at h8
  rw [hb6, hb7] at h7
  rw [hb6] at h6
  rw [hb6, hb7, hb8, hbp]
  have hbe : b5 < b6 ∧ b6 < b7 ∧ b7 < b8 ∧ b8 < bp ∧ bp < W0.heap.size := by omega
  obtain ⟨o56, o67, o78, o8p, opW⟩ := hbe
  clear hb5 hb6 hb7 hb8 hbp hsz
  have hseq : SeqStopsK Fence.wide 2 Try.prog 37 #[.pointer (some ⟨bp, 0, none⟩)] (fun x : FStore => #[Value.agg x.1.cells.toArray]) (Kept W0.heap.size b6) (fun ys => ys.map (·.1) = l.reverse) (fun pre => ∃ r, pre.map (·.1) ++ r = l.reverse) l.length W0 := by
    intro l0 J Jx W hW hJ hJx hY h0
    have hmW : Mod (fun _ => False) W0 W := Mod.of_below hW
    exact back1_ok 2 (by omega) l0 bp W0.heap.size b6 v l J Jx hg (fun p hp => by have := hpb p hp; exact ⟨by omega, by omega⟩) ⟨by omega, by omega⟩ W hW.size hJ hY (hbuf.keep0 hmW) (hmW.at hP (fun x => x)) h0
  refine wpIn_rangeFunc_ownH (w0 := W0) rfl (by omega) (gf := 37) rfl trivial (enters_of Try.func37 (by kernel_rfl) rfl) hseq Kept.trans (fun W l o o' hl _ _ _ => Kept.put W l o' hl) (Below.refl _ _) (fun _ => rfl)
    (fun pre W => Fw a 1 b5 b6 b7 b8 W0 W ∧ NoneYet a 1 pre ∧ Below b5 w W)
    (fun c pre W => c = .ret ∧ Found a 1 b6 b7 W0 pre W ∧ Below b5 w W)
    ?hI ?hIx ⟨⟨h5, h6, h7, h8, Nat.le_refl _⟩, (by intro y hy; cases hy), hB0⟩
    (fun x a' W => ∃ Bx, bp < Bx ∧ W.heap[Bx]? = some (.cells x.1.cells.toArray 60 (0, 0)) ∧ a' = { tmps := (([.pointer v, .int .u32 a, .int .i64 1, undef, undef, .pointer (some ⟨b5, 0, none⟩), .pointer (some ⟨b6, 0, none⟩), .pointer (some ⟨b7, 0, none⟩), .pointer (some ⟨b8, 0, none⟩), .pointer (some ⟨Bx, 0, none⟩), undef, .int .i64 1, .bool true, .bool false, .bool false, .int .u32 a, .int .i64 1, .int .u32 1, .int .u32 (0), .bool false, .bool false, .int .u32 a, .int .i64 1, .agg #[.int .u32 a, .int .i64 1, .int .u32 0], .agg #[.int .u32 a, .int .i64 1, .int .u32 0], .pointer v, .func (.func 37) #[] #[.pointer (some ⟨bp, 0, none⟩)], .agg x.1.cells.toArray] : List Value) ++ [undef, undef, undef, undef, undef, undef, undef, undef, undef, undef, undef, undef, undef, undef, undef, undef, undef, undef, undef, undef, undef, undef, undef, undef, undef, undef, undef, undef, undef, undef, undef, undef, undef, undef, undef, undef, undef, undef, undef, undef, undef, undef, undef, undef, undef]).toArray, defers := [] })
    ?hAx ?assign ?body ?done ?stop
  case hI =>
    intro s A B row hs hg hr
    obtain ⟨hf, h2, h3⟩ := hs
    exact ⟨hf.own hg (fun r e => (hr r e).2), h2, ownFrom_below (by omega) (by omega) s A B row h3 hg hr⟩
  case hIx =>
    intro c s A B row hs hg hr
    obtain ⟨hc, ⟨p0, y, r, e1, e2, e3, e4, e5, e6⟩, h3⟩ := hs
    have hm : Mod (fun k => row = some k) A B := Mod.of_grown hg
    exact ⟨hc, ⟨p0, y, r, e1, e2, e3, own_at hg (fun r e => (hr r e).2) e4, own_at hg (fun r e => (hr r e).2) e5, Nat.le_trans e6 hm.size⟩, ownFrom_below (by omega) (by omega) s A B row h3 hg hr⟩
  case hAx =>
    intro x a' s A B row hs hg hr
    obtain ⟨Bx, h1, h2, h3⟩ := hs
    exact ⟨Bx, h1, own_at hg (fun r e => (hr r e).2) h2, h3⟩
  case assign =>
    rintro l1 pre x W K ⟨hf, hn, hB⟩ hK
    have hW : b5 ≤ W.heap.size := by have := hB.size; omega
    have hpW : bp < W.heap.size := by have := hf.size; omega
    have hmA : Mod (fun _ => False) W (W.alloc (Obj.cells x.1.cells.toArray 60)) := (Mod.refl _ _).alloc _
    have HF := Lib.hid hf
    clear hf
    simp only [Store.cells]
    gi_wp2
    exact hK _ _ ((KeepsOthers.alloc _ _).from _) (Kept.of_mod hmA HF.out.size (fun _ _ f => f.elim)) ⟨HF.out.keep0 hmA, hn, hB.alloc hW _⟩ ⟨W.heap.size, hpW, blk_new _ _, rfl⟩
  case body =>
    rintro l1 pre x a' W hl1 ⟨rr, hrr⟩ ⟨hf, hn, hB⟩ ⟨Bx, hBx, hbx, rfl⟩ hpl
    have hxw := good_width x.2.2
    have hxf := x.2.1
    obtain ⟨sa, hsa⟩ : ∃ t, x.1.addr = t := ⟨_, rfl⟩
    obtain ⟨sw, hsw⟩ : ∃ t, x.1.width = t := ⟨_, rfl⟩
    obtain ⟨sv, hsv⟩ : ∃ t, x.1.value = t := ⟨_, rfl⟩
    obtain ⟨s1, s2, s3, s4⟩ := hxf
    rw [hsa] at s1 s2
    rw [hsv] at s3 s4 hxw
    rw [hsw] at hxw
    have hcl : x.1.cells.toArray = #[.int .u32 sa, .int .i64 sw, .int .u32 sv] := by rw [← hsa, ← hsw, ← hsv]; rfl
    rw [hcl] at hbx ⊢
    have HX := Lib.hid (And.intro hsa (And.intro hsw (And.intro hsv hxw)))
    have hsw1 : 1 ≤ sw := by omega
    have hsw2 : sw ≤ 4 := by omega
    clear hsa hsw hsv hxw hcl
    have c80 : W.cell? ⟨b8, 0, none⟩ = some (.int .u32 a) := cell_of W hf.h8 0
    have c81 : W.cell? ⟨b8, 1, none⟩ = some (.int .i64 1) := cell_of W hf.h8 1
    have c82 : W.cell? ⟨b8, 2, none⟩ = some (.int .u32 0) := cell_of W hf.h8 2
    have cx0 : W.cell? ⟨Bx, 0, none⟩ = some (.int .u32 sa) := cell_of W hbx 0
    have cx1 : W.cell? ⟨Bx, 1, none⟩ = some (.int .i64 sw) := cell_of W hbx 1
    have cx2 : W.cell? ⟨Bx, 2, none⟩ = some (.int .u32 sv) := cell_of W hbx 2
    have HF := Lib.hid hf
    have HN := Lib.hid hn
    clear hf hn
    simp only [List.cons_append, List.nil_append]
    gi_upto_region 6 with fail
    obtain ⟨be, hbe⟩ : ∃ be : Bool, be = true ↔ (a + 1 ≤ sa ∨ sa + sw ≤ a) := ⟨decide (a + 1 ≤ sa ∨ sa + sw ≤ a), by simp⟩
    gi_cut [28] from 29 (fun v28 wx => v28 = .bool be ∧ Mod (fun _ => False) W wx)
    case first =>
      rcases (by omega : a + 1 ≤ sa ∨ (sa < a + 1 ∧ sa + sw ≤ a) ∨ (sa < a + 1 ∧ a < sa + sw)) with hA | ⟨hA, hA2⟩ | ⟨hA, hA2⟩
      · obtain rfl : be = true := hbe.2 (.inl hA)
        clear hbe HX HF HN hpl hrr hl1 hB hseq hbuf h hg hpb hB0 hm0
        gi_region_with_o ((first
          | (gi_at_call 29; (with_reducible refine (CallsIn.inRound l1 (callsIn_wide.2 (until_ok _ a 1 0 ha ha' (by omega) (by omega)))).mono ?_); rintro e wu ⟨rfl, hmu⟩; have hmW := Mod.trans (a := W) (S := fun _ => False) (by (repeat first | exact Mod.refl _ _ | assumption | apply Mod.drew | apply Mod.drewN | apply Mod.alloc | (refine Mod.setCell ?_ (Or.inr (by (first | (with_reducible exact Nat.le_refl _) | ((try simp only [World.size_alloc, World.size_setCell, World.size_drew] at *); omega)))) _) | (refine Mod.trans ?_ (by assumption)))) hmu; have k0 := hmW.cell c80 (fun x => x); have k1 := hmW.cell c81 (fun x => x); have k2 := hmW.cell c82 (fun x => x); have j0 := hmW.cell cx0 (fun x => x); have j1 := hmW.cell cx1 (fun x => x); have j2 := hmW.cell cx2 (fun x => x))
          | (gi_at_call 29; (with_reducible refine (CallsIn.inRound l1 (callsIn_wide.2 (until_ok _ sa sw sv s1 s2 (by omega) (by omega)))).mono ?_); rintro e wu ⟨rfl, hmu⟩; have hmW := Mod.trans (a := W) (S := fun _ => False) (by (repeat first | exact Mod.refl _ _ | assumption | apply Mod.drew | apply Mod.drewN | apply Mod.alloc | (refine Mod.setCell ?_ (Or.inr (by (first | (with_reducible exact Nat.le_refl _) | ((try simp only [World.size_alloc, World.size_setCell, World.size_drew] at *); omega)))) _) | (refine Mod.trans ?_ (by assumption)))) hmu; have k0 := hmW.cell c80 (fun x => x); have k1 := hmW.cell c81 (fun x => x); have k2 := hmW.cell c82 (fun x => x); have j0 := hmW.cell cx0 (fun x => x); have j1 := hmW.cell cx1 (fun x => x); have j2 := hmW.cell cx2 (fun x => x))
          | (gi_at_call 30; (with_reducible refine (CallsIn.inRound l1 (callsIn_wide.2 (from_ok _ a 1 0 ha ha'))).mono ?_); rintro e wu ⟨rfl, hmu⟩; have hmW := Mod.trans (a := W) (S := fun _ => False) (by (repeat first | exact Mod.refl _ _ | assumption | apply Mod.drew | apply Mod.drewN | apply Mod.alloc | (refine Mod.setCell ?_ (Or.inr (by (first | (with_reducible exact Nat.le_refl _) | ((try simp only [World.size_alloc, World.size_setCell, World.size_drew] at *); omega)))) _) | (refine Mod.trans ?_ (by assumption)))) hmu; have k0 := hmW.cell c80 (fun x => x); have k1 := hmW.cell c81 (fun x => x); have k2 := hmW.cell c82 (fun x => x); have j0 := hmW.cell cx0 (fun x => x); have j1 := hmW.cell cx1 (fun x => x); have j2 := hmW.cell cx2 (fun x => x))
          | (gi_at_call 30; (with_reducible refine (CallsIn.inRound l1 (callsIn_wide.2 (from_ok _ sa sw sv s1 s2))).mono ?_); rintro e wu ⟨rfl, hmu⟩; have hmW := Mod.trans (a := W) (S := fun _ => False) (by (repeat first | exact Mod.refl _ _ | assumption | apply Mod.drew | apply Mod.drewN | apply Mod.alloc | (refine Mod.setCell ?_ (Or.inr (by (first | (with_reducible exact Nat.le_refl _) | ((try simp only [World.size_alloc, World.size_setCell, World.size_drew] at *); omega)))) _) | (refine Mod.trans ?_ (by assumption)))) hmu; have k0 := hmW.cell c80 (fun x => x); have k1 := hmW.cell c81 (fun x => x); have k2 := hmW.cell c82 (fun x => x); have j0 := hmW.cell cx0 (fun x => x); have j1 := hmW.cell cx1 (fun x => x); have j2 := hmW.cell cx2 (fun x => x))))
        all_goals (gi_wp2_with fail; gi_meet; case rel => exact ⟨rfl, hmW⟩)
      · obtain rfl : be = true := hbe.2 (.inr hA2)
        clear hbe HX HF HN hpl hrr hl1 hB hseq hbuf h hg hpb hB0 hm0
        gi_region_with_o ((first
          | (gi_at_call 29; (with_reducible refine (CallsIn.inRound l1 (callsIn_wide.2 (until_ok _ a 1 0 ha ha' (by omega) (by omega)))).mono ?_); rintro e wu ⟨rfl, hmu⟩; have hmW := Mod.trans (a := W) (S := fun _ => False) (by (repeat first | exact Mod.refl _ _ | assumption | apply Mod.drew | apply Mod.drewN | apply Mod.alloc | (refine Mod.setCell ?_ (Or.inr (by (first | (with_reducible exact Nat.le_refl _) | ((try simp only [World.size_alloc, World.size_setCell, World.size_drew] at *); omega)))) _) | (refine Mod.trans ?_ (by assumption)))) hmu; have k0 := hmW.cell c80 (fun x => x); have k1 := hmW.cell c81 (fun x => x); have k2 := hmW.cell c82 (fun x => x); have j0 := hmW.cell cx0 (fun x => x); have j1 := hmW.cell cx1 (fun x => x); have j2 := hmW.cell cx2 (fun x => x))
          | (gi_at_call 29; (with_reducible refine (CallsIn.inRound l1 (callsIn_wide.2 (until_ok _ sa sw sv s1 s2 (by omega) (by omega)))).mono ?_); rintro e wu ⟨rfl, hmu⟩; have hmW := Mod.trans (a := W) (S := fun _ => False) (by (repeat first | exact Mod.refl _ _ | assumption | apply Mod.drew | apply Mod.drewN | apply Mod.alloc | (refine Mod.setCell ?_ (Or.inr (by (first | (with_reducible exact Nat.le_refl _) | ((try simp only [World.size_alloc, World.size_setCell, World.size_drew] at *); omega)))) _) | (refine Mod.trans ?_ (by assumption)))) hmu; have k0 := hmW.cell c80 (fun x => x); have k1 := hmW.cell c81 (fun x => x); have k2 := hmW.cell c82 (fun x => x); have j0 := hmW.cell cx0 (fun x => x); have j1 := hmW.cell cx1 (fun x => x); have j2 := hmW.cell cx2 (fun x => x))
          | (gi_at_call 30; (with_reducible refine (CallsIn.inRound l1 (callsIn_wide.2 (from_ok _ a 1 0 ha ha'))).mono ?_); rintro e wu ⟨rfl, hmu⟩; have hmW := Mod.trans (a := W) (S := fun _ => False) (by (repeat first | exact Mod.refl _ _ | assumption | apply Mod.drew | apply Mod.drewN | apply Mod.alloc | (refine Mod.setCell ?_ (Or.inr (by (first | (with_reducible exact Nat.le_refl _) | ((try simp only [World.size_alloc, World.size_setCell, World.size_drew] at *); omega)))) _) | (refine Mod.trans ?_ (by assumption)))) hmu; have k0 := hmW.cell c80 (fun x => x); have k1 := hmW.cell c81 (fun x => x); have k2 := hmW.cell c82 (fun x => x); have j0 := hmW.cell cx0 (fun x => x); have j1 := hmW.cell cx1 (fun x => x); have j2 := hmW.cell cx2 (fun x => x))
          | (gi_at_call 30; (with_reducible refine (CallsIn.inRound l1 (callsIn_wide.2 (from_ok _ sa sw sv s1 s2))).mono ?_); rintro e wu ⟨rfl, hmu⟩; have hmW := Mod.trans (a := W) (S := fun _ => False) (by (repeat first | exact Mod.refl _ _ | assumption | apply Mod.drew | apply Mod.drewN | apply Mod.alloc | (refine Mod.setCell ?_ (Or.inr (by (first | (with_reducible exact Nat.le_refl _) | ((try simp only [World.size_alloc, World.size_setCell, World.size_drew] at *); omega)))) _) | (refine Mod.trans ?_ (by assumption)))) hmu; have k0 := hmW.cell c80 (fun x => x); have k1 := hmW.cell c81 (fun x => x); have k2 := hmW.cell c82 (fun x => x); have j0 := hmW.cell cx0 (fun x => x); have j1 := hmW.cell cx1 (fun x => x); have j2 := hmW.cell cx2 (fun x => x))))
        all_goals (gi_wp2_with fail; gi_meet; case rel => exact ⟨rfl, hmW⟩)
      · obtain rfl : be = false := by cases be with | false => rfl | true => (have := hbe.1 rfl; omega)
        clear hbe HX HF HN hpl hrr hl1 hB hseq hbuf h hg hpb hB0 hm0
        gi_region_with_o ((first
          | (gi_at_call 29; (with_reducible refine (CallsIn.inRound l1 (callsIn_wide.2 (until_ok _ a 1 0 ha ha' (by omega) (by omega)))).mono ?_); rintro e wu ⟨rfl, hmu⟩; have hmW := Mod.trans (a := W) (S := fun _ => False) (by (repeat first | exact Mod.refl _ _ | assumption | apply Mod.drew | apply Mod.drewN | apply Mod.alloc | (refine Mod.setCell ?_ (Or.inr (by (first | (with_reducible exact Nat.le_refl _) | ((try simp only [World.size_alloc, World.size_setCell, World.size_drew] at *); omega)))) _) | (refine Mod.trans ?_ (by assumption)))) hmu; have k0 := hmW.cell c80 (fun x => x); have k1 := hmW.cell c81 (fun x => x); have k2 := hmW.cell c82 (fun x => x); have j0 := hmW.cell cx0 (fun x => x); have j1 := hmW.cell cx1 (fun x => x); have j2 := hmW.cell cx2 (fun x => x))
          | (gi_at_call 29; (with_reducible refine (CallsIn.inRound l1 (callsIn_wide.2 (until_ok _ sa sw sv s1 s2 (by omega) (by omega)))).mono ?_); rintro e wu ⟨rfl, hmu⟩; have hmW := Mod.trans (a := W) (S := fun _ => False) (by (repeat first | exact Mod.refl _ _ | assumption | apply Mod.drew | apply Mod.drewN | apply Mod.alloc | (refine Mod.setCell ?_ (Or.inr (by (first | (with_reducible exact Nat.le_refl _) | ((try simp only [World.size_alloc, World.size_setCell, World.size_drew] at *); omega)))) _) | (refine Mod.trans ?_ (by assumption)))) hmu; have k0 := hmW.cell c80 (fun x => x); have k1 := hmW.cell c81 (fun x => x); have k2 := hmW.cell c82 (fun x => x); have j0 := hmW.cell cx0 (fun x => x); have j1 := hmW.cell cx1 (fun x => x); have j2 := hmW.cell cx2 (fun x => x))
          | (gi_at_call 30; (with_reducible refine (CallsIn.inRound l1 (callsIn_wide.2 (from_ok _ a 1 0 ha ha'))).mono ?_); rintro e wu ⟨rfl, hmu⟩; have hmW := Mod.trans (a := W) (S := fun _ => False) (by (repeat first | exact Mod.refl _ _ | assumption | apply Mod.drew | apply Mod.drewN | apply Mod.alloc | (refine Mod.setCell ?_ (Or.inr (by (first | (with_reducible exact Nat.le_refl _) | ((try simp only [World.size_alloc, World.size_setCell, World.size_drew] at *); omega)))) _) | (refine Mod.trans ?_ (by assumption)))) hmu; have k0 := hmW.cell c80 (fun x => x); have k1 := hmW.cell c81 (fun x => x); have k2 := hmW.cell c82 (fun x => x); have j0 := hmW.cell cx0 (fun x => x); have j1 := hmW.cell cx1 (fun x => x); have j2 := hmW.cell cx2 (fun x => x))
          | (gi_at_call 30; (with_reducible refine (CallsIn.inRound l1 (callsIn_wide.2 (from_ok _ sa sw sv s1 s2))).mono ?_); rintro e wu ⟨rfl, hmu⟩; have hmW := Mod.trans (a := W) (S := fun _ => False) (by (repeat first | exact Mod.refl _ _ | assumption | apply Mod.drew | apply Mod.drewN | apply Mod.alloc | (refine Mod.setCell ?_ (Or.inr (by (first | (with_reducible exact Nat.le_refl _) | ((try simp only [World.size_alloc, World.size_setCell, World.size_drew] at *); omega)))) _) | (refine Mod.trans ?_ (by assumption)))) hmu; have k0 := hmW.cell c80 (fun x => x); have k1 := hmW.cell c81 (fun x => x); have k2 := hmW.cell c82 (fun x => x); have j0 := hmW.cell cx0 (fun x => x); have j1 := hmW.cell cx1 (fun x => x); have j2 := hmW.cell cx2 (fun x => x))))
        all_goals (gi_wp2_with fail; gi_meet; case rel => exact ⟨congrArg Value.bool (by simp; omega), hmW⟩)
    case rest =>
      obtain ⟨rfl, hm6⟩ := hcut
      have hW : b5 ≤ W.heap.size := by have := hB.size; omega
      have hlB : pre.length < l.length := hpl
      cases be with
      | true =>
        have hone : oneE x.1.width x.1.value (a - x.1.addr) 1 = none := by
          rw [HX.out.1, HX.out.2.1, HX.out.2.2.1]
          have := hbe.1 rfl
          rw [oneE, if_pos (by omega)]
        clear hbe c80 c81 c82 cx0 cx1 cx2 hbx
        gi_wp2
        refine ⟨⟨hm6.size, fun k o hk1 hk2 ho => hm6.at hk2 (fun x => x)⟩, Kept.of_mod hm6 HF.out.size (fun _ _ f => f.elim), HF.out.keep0 hm6, ?_, hB.trans (hm6.belowAt hW (fun _ f => f.elim))⟩
        intro y hy
        rcases List.mem_append.1 hy with hh | hh
        · exact HN.out y hh
        · rw [List.mem_singleton.1 hh]; exact hone
      | false =>
        have hA : sa < a + 1 ∧ a < sa + sw := by
          have h1 : ¬ (a + 1 ≤ sa ∨ sa + sw ≤ a) := fun hh => by have := hbe.2 hh; cases this
          omega
        obtain ⟨hA1, hA2⟩ := hA
        clear hbe
        replace c80 := hm6.cell c80 (fun x => x)
        replace c81 := hm6.cell c81 (fun x => x)
        replace c82 := hm6.cell c82 (fun x => x)
        replace cx0 := hm6.cell cx0 (fun x => x)
        replace cx1 := hm6.cell cx1 (fun x => x)
        replace cx2 := hm6.cell cx2 (fun x => x)
        have HF6 := Lib.hid (HF.out.keep0 hm6)
        gi_upto_region 7 with fail
        obtain ⟨W6, hW6⟩ : ∃ W6, W6 = wc := ⟨_, rfl⟩
        rw [← hW6] at HF6 hm6 c80 c81 c82 cx0 cx1 cx2 ⊢
        clear hW6
        obtain ⟨be, hbe⟩ : ∃ be : Bool, be = true ↔ (a < sa ∨ sa + sw < a + 1) := ⟨decide (a < sa ∨ sa + sw < a + 1), by simp⟩
        gi_cut [41] from 42 (fun v41 wx => v41 = .bool be ∧ Mod (fun _ => False) W6 wx)
        case first =>
          rcases (by omega : a < sa ∨ (sa ≤ a ∧ sa + sw < a + 1) ∨ (sa ≤ a ∧ a + 1 ≤ sa + sw)) with hC | ⟨hC, hC2⟩ | ⟨hC, hC2⟩
          · obtain rfl : be = true := hbe.2 (.inl hC)
            clear HF6; clear hbe HX HF HN hpl hrr hl1 hB hseq hbuf h hg hpb hB0 hm0
            gi_region_with_o ((first
          | (gi_at_call 29; (with_reducible refine (CallsIn.inRound l1 (callsIn_wide.2 (until_ok _ a 1 0 ha ha' (by omega) (by omega)))).mono ?_); rintro e wu ⟨rfl, hmu⟩; have hmW := Mod.trans (a := W6) (S := fun _ => False) (by (repeat first | exact Mod.refl _ _ | assumption | apply Mod.drew | apply Mod.drewN | apply Mod.alloc | (refine Mod.setCell ?_ (Or.inr (by (first | (with_reducible exact Nat.le_refl _) | ((try simp only [World.size_alloc, World.size_setCell, World.size_drew] at *); omega)))) _) | (refine Mod.trans ?_ (by assumption)))) hmu; have k0 := hmW.cell c80 (fun x => x); have k1 := hmW.cell c81 (fun x => x); have k2 := hmW.cell c82 (fun x => x); have j0 := hmW.cell cx0 (fun x => x); have j1 := hmW.cell cx1 (fun x => x); have j2 := hmW.cell cx2 (fun x => x))
          | (gi_at_call 29; (with_reducible refine (CallsIn.inRound l1 (callsIn_wide.2 (until_ok _ sa sw sv s1 s2 (by omega) (by omega)))).mono ?_); rintro e wu ⟨rfl, hmu⟩; have hmW := Mod.trans (a := W6) (S := fun _ => False) (by (repeat first | exact Mod.refl _ _ | assumption | apply Mod.drew | apply Mod.drewN | apply Mod.alloc | (refine Mod.setCell ?_ (Or.inr (by (first | (with_reducible exact Nat.le_refl _) | ((try simp only [World.size_alloc, World.size_setCell, World.size_drew] at *); omega)))) _) | (refine Mod.trans ?_ (by assumption)))) hmu; have k0 := hmW.cell c80 (fun x => x); have k1 := hmW.cell c81 (fun x => x); have k2 := hmW.cell c82 (fun x => x); have j0 := hmW.cell cx0 (fun x => x); have j1 := hmW.cell cx1 (fun x => x); have j2 := hmW.cell cx2 (fun x => x))
          | (gi_at_call 30; (with_reducible refine (CallsIn.inRound l1 (callsIn_wide.2 (from_ok _ a 1 0 ha ha'))).mono ?_); rintro e wu ⟨rfl, hmu⟩; have hmW := Mod.trans (a := W6) (S := fun _ => False) (by (repeat first | exact Mod.refl _ _ | assumption | apply Mod.drew | apply Mod.drewN | apply Mod.alloc | (refine Mod.setCell ?_ (Or.inr (by (first | (with_reducible exact Nat.le_refl _) | ((try simp only [World.size_alloc, World.size_setCell, World.size_drew] at *); omega)))) _) | (refine Mod.trans ?_ (by assumption)))) hmu; have k0 := hmW.cell c80 (fun x => x); have k1 := hmW.cell c81 (fun x => x); have k2 := hmW.cell c82 (fun x => x); have j0 := hmW.cell cx0 (fun x => x); have j1 := hmW.cell cx1 (fun x => x); have j2 := hmW.cell cx2 (fun x => x))
          | (gi_at_call 30; (with_reducible refine (CallsIn.inRound l1 (callsIn_wide.2 (from_ok _ sa sw sv s1 s2))).mono ?_); rintro e wu ⟨rfl, hmu⟩; have hmW := Mod.trans (a := W6) (S := fun _ => False) (by (repeat first | exact Mod.refl _ _ | assumption | apply Mod.drew | apply Mod.drewN | apply Mod.alloc | (refine Mod.setCell ?_ (Or.inr (by (first | (with_reducible exact Nat.le_refl _) | ((try simp only [World.size_alloc, World.size_setCell, World.size_drew] at *); omega)))) _) | (refine Mod.trans ?_ (by assumption)))) hmu; have k0 := hmW.cell c80 (fun x => x); have k1 := hmW.cell c81 (fun x => x); have k2 := hmW.cell c82 (fun x => x); have j0 := hmW.cell cx0 (fun x => x); have j1 := hmW.cell cx1 (fun x => x); have j2 := hmW.cell cx2 (fun x => x))))
            all_goals (gi_wp2_with fail; gi_meet; case rel => exact ⟨rfl, hmW⟩)
          · obtain rfl : be = true := hbe.2 (.inr hC2)
            clear HF6; clear hbe HX HF HN hpl hrr hl1 hB hseq hbuf h hg hpb hB0 hm0
            gi_region_with_o ((first
          | (gi_at_call 29; (with_reducible refine (CallsIn.inRound l1 (callsIn_wide.2 (until_ok _ a 1 0 ha ha' (by omega) (by omega)))).mono ?_); rintro e wu ⟨rfl, hmu⟩; have hmW := Mod.trans (a := W6) (S := fun _ => False) (by (repeat first | exact Mod.refl _ _ | assumption | apply Mod.drew | apply Mod.drewN | apply Mod.alloc | (refine Mod.setCell ?_ (Or.inr (by (first | (with_reducible exact Nat.le_refl _) | ((try simp only [World.size_alloc, World.size_setCell, World.size_drew] at *); omega)))) _) | (refine Mod.trans ?_ (by assumption)))) hmu; have k0 := hmW.cell c80 (fun x => x); have k1 := hmW.cell c81 (fun x => x); have k2 := hmW.cell c82 (fun x => x); have j0 := hmW.cell cx0 (fun x => x); have j1 := hmW.cell cx1 (fun x => x); have j2 := hmW.cell cx2 (fun x => x))
          | (gi_at_call 29; (with_reducible refine (CallsIn.inRound l1 (callsIn_wide.2 (until_ok _ sa sw sv s1 s2 (by omega) (by omega)))).mono ?_); rintro e wu ⟨rfl, hmu⟩; have hmW := Mod.trans (a := W6) (S := fun _ => False) (by (repeat first | exact Mod.refl _ _ | assumption | apply Mod.drew | apply Mod.drewN | apply Mod.alloc | (refine Mod.setCell ?_ (Or.inr (by (first | (with_reducible exact Nat.le_refl _) | ((try simp only [World.size_alloc, World.size_setCell, World.size_drew] at *); omega)))) _) | (refine Mod.trans ?_ (by assumption)))) hmu; have k0 := hmW.cell c80 (fun x => x); have k1 := hmW.cell c81 (fun x => x); have k2 := hmW.cell c82 (fun x => x); have j0 := hmW.cell cx0 (fun x => x); have j1 := hmW.cell cx1 (fun x => x); have j2 := hmW.cell cx2 (fun x => x))
          | (gi_at_call 30; (with_reducible refine (CallsIn.inRound l1 (callsIn_wide.2 (from_ok _ a 1 0 ha ha'))).mono ?_); rintro e wu ⟨rfl, hmu⟩; have hmW := Mod.trans (a := W6) (S := fun _ => False) (by (repeat first | exact Mod.refl _ _ | assumption | apply Mod.drew | apply Mod.drewN | apply Mod.alloc | (refine Mod.setCell ?_ (Or.inr (by (first | (with_reducible exact Nat.le_refl _) | ((try simp only [World.size_alloc, World.size_setCell, World.size_drew] at *); omega)))) _) | (refine Mod.trans ?_ (by assumption)))) hmu; have k0 := hmW.cell c80 (fun x => x); have k1 := hmW.cell c81 (fun x => x); have k2 := hmW.cell c82 (fun x => x); have j0 := hmW.cell cx0 (fun x => x); have j1 := hmW.cell cx1 (fun x => x); have j2 := hmW.cell cx2 (fun x => x))
          | (gi_at_call 30; (with_reducible refine (CallsIn.inRound l1 (callsIn_wide.2 (from_ok _ sa sw sv s1 s2))).mono ?_); rintro e wu ⟨rfl, hmu⟩; have hmW := Mod.trans (a := W6) (S := fun _ => False) (by (repeat first | exact Mod.refl _ _ | assumption | apply Mod.drew | apply Mod.drewN | apply Mod.alloc | (refine Mod.setCell ?_ (Or.inr (by (first | (with_reducible exact Nat.le_refl _) | ((try simp only [World.size_alloc, World.size_setCell, World.size_drew] at *); omega)))) _) | (refine Mod.trans ?_ (by assumption)))) hmu; have k0 := hmW.cell c80 (fun x => x); have k1 := hmW.cell c81 (fun x => x); have k2 := hmW.cell c82 (fun x => x); have j0 := hmW.cell cx0 (fun x => x); have j1 := hmW.cell cx1 (fun x => x); have j2 := hmW.cell cx2 (fun x => x))))
            all_goals (gi_wp2_with fail; gi_meet; case rel => exact ⟨rfl, hmW⟩)
          · obtain rfl : be = false := by cases be with | false => rfl | true => (have := hbe.1 rfl; omega)
            clear HF6; clear hbe HX HF HN hpl hrr hl1 hB hseq hbuf h hg hpb hB0 hm0
            gi_region_with_o ((first
          | (gi_at_call 29; (with_reducible refine (CallsIn.inRound l1 (callsIn_wide.2 (until_ok _ a 1 0 ha ha' (by omega) (by omega)))).mono ?_); rintro e wu ⟨rfl, hmu⟩; have hmW := Mod.trans (a := W6) (S := fun _ => False) (by (repeat first | exact Mod.refl _ _ | assumption | apply Mod.drew | apply Mod.drewN | apply Mod.alloc | (refine Mod.setCell ?_ (Or.inr (by (first | (with_reducible exact Nat.le_refl _) | ((try simp only [World.size_alloc, World.size_setCell, World.size_drew] at *); omega)))) _) | (refine Mod.trans ?_ (by assumption)))) hmu; have k0 := hmW.cell c80 (fun x => x); have k1 := hmW.cell c81 (fun x => x); have k2 := hmW.cell c82 (fun x => x); have j0 := hmW.cell cx0 (fun x => x); have j1 := hmW.cell cx1 (fun x => x); have j2 := hmW.cell cx2 (fun x => x))
          | (gi_at_call 29; (with_reducible refine (CallsIn.inRound l1 (callsIn_wide.2 (until_ok _ sa sw sv s1 s2 (by omega) (by omega)))).mono ?_); rintro e wu ⟨rfl, hmu⟩; have hmW := Mod.trans (a := W6) (S := fun _ => False) (by (repeat first | exact Mod.refl _ _ | assumption | apply Mod.drew | apply Mod.drewN | apply Mod.alloc | (refine Mod.setCell ?_ (Or.inr (by (first | (with_reducible exact Nat.le_refl _) | ((try simp only [World.size_alloc, World.size_setCell, World.size_drew] at *); omega)))) _) | (refine Mod.trans ?_ (by assumption)))) hmu; have k0 := hmW.cell c80 (fun x => x); have k1 := hmW.cell c81 (fun x => x); have k2 := hmW.cell c82 (fun x => x); have j0 := hmW.cell cx0 (fun x => x); have j1 := hmW.cell cx1 (fun x => x); have j2 := hmW.cell cx2 (fun x => x))
          | (gi_at_call 30; (with_reducible refine (CallsIn.inRound l1 (callsIn_wide.2 (from_ok _ a 1 0 ha ha'))).mono ?_); rintro e wu ⟨rfl, hmu⟩; have hmW := Mod.trans (a := W6) (S := fun _ => False) (by (repeat first | exact Mod.refl _ _ | assumption | apply Mod.drew | apply Mod.drewN | apply Mod.alloc | (refine Mod.setCell ?_ (Or.inr (by (first | (with_reducible exact Nat.le_refl _) | ((try simp only [World.size_alloc, World.size_setCell, World.size_drew] at *); omega)))) _) | (refine Mod.trans ?_ (by assumption)))) hmu; have k0 := hmW.cell c80 (fun x => x); have k1 := hmW.cell c81 (fun x => x); have k2 := hmW.cell c82 (fun x => x); have j0 := hmW.cell cx0 (fun x => x); have j1 := hmW.cell cx1 (fun x => x); have j2 := hmW.cell cx2 (fun x => x))
          | (gi_at_call 30; (with_reducible refine (CallsIn.inRound l1 (callsIn_wide.2 (from_ok _ sa sw sv s1 s2))).mono ?_); rintro e wu ⟨rfl, hmu⟩; have hmW := Mod.trans (a := W6) (S := fun _ => False) (by (repeat first | exact Mod.refl _ _ | assumption | apply Mod.drew | apply Mod.drewN | apply Mod.alloc | (refine Mod.setCell ?_ (Or.inr (by (first | (with_reducible exact Nat.le_refl _) | ((try simp only [World.size_alloc, World.size_setCell, World.size_drew] at *); omega)))) _) | (refine Mod.trans ?_ (by assumption)))) hmu; have k0 := hmW.cell c80 (fun x => x); have k1 := hmW.cell c81 (fun x => x); have k2 := hmW.cell c82 (fun x => x); have j0 := hmW.cell cx0 (fun x => x); have j1 := hmW.cell cx1 (fun x => x); have j2 := hmW.cell cx2 (fun x => x))))
            all_goals (gi_wp2_with fail; gi_meet; case rel => exact ⟨congrArg Value.bool (by simp; omega), hmW⟩)
        case rest =>
          obtain ⟨rfl, hm7⟩ := hcut
          replace c80 := hm7.cell c80 (fun x => x)
          replace c81 := hm7.cell c81 (fun x => x)
          replace c82 := hm7.cell c82 (fun x => x)
          replace cx0 := hm7.cell cx0 (fun x => x)
          replace cx1 := hm7.cell cx1 (fun x => x)
          replace cx2 := hm7.cell cx2 (fun x => x)
          have HF7 := Lib.hid (HF6.out.keep0 hm7)
          have hm67 := hm6.trans hm7
          clear HF6 hm6 hm7
          cases be with
          | true =>
            have hone : oneE x.1.width x.1.value (a - x.1.addr) 1 = some (0, 2) := by
              rw [HX.out.1, HX.out.2.1, HX.out.2.2.1]
              have := hbe.1 rfl
              rw [oneE, if_neg (by omega), if_pos (by omega)]
            clear hbe c80 c81 c82 cx0 cx1 cx2 hbx
            have g6 : wc.cell? ⟨b6, 0, none⟩ = some (.int .u32 0) := cell_of wc HF7.out.h6 0
            have g7 : wc.cell? ⟨b7, 0, none⟩ = some (.int .i64 0) := cell_of wc HF7.out.h7 0
            have f6 := free_of wc HF7.out.h6 0
            have f7 := free_of wc HF7.out.h7 0
            gi_wp2
            have hmS : Mod (fun k => k = b6 ∨ k = b7) wc ((wc.setCell ⟨b6, 0, none⟩ (.int .u32 0)).setCell ⟨b7, 0, none⟩ (.int .i64 2)) := ((Mod.refl (fun k => k = b6 ∨ k = b7) wc).setCell (.inl (.inl rfl)) _).setCell (.inl (.inr rfl)) _
            have hmA : Mod (fun k => k = b6 ∨ k = b7) W ((wc.setCell ⟨b6, 0, none⟩ (.int .u32 0)).setCell ⟨b7, 0, none⟩ (.int .i64 2)) := (hm67.mono (fun _ _ f => f.elim)).trans hmS
            obtain ⟨r6, r7⟩ := two_cells HF7.out.h6 HF7.out.h7 (by omega) (.int .u32 0) (.int .i64 2)
            refine ⟨keepsFrom_of hmA HF.out.h6 HF.out.h7, rfl, ⟨pre, x, (0, 2), rfl, HN.out, hone, r6, r7, Nat.le_trans HF.out.size hmA.size⟩, hB.trans (hmA.belowAt hW ?_)⟩
            rintro k (rfl | rfl) <;> omega
          | false =>
            have hC : sa ≤ a ∧ a + 1 ≤ sa + sw := by
              have h1 : ¬ (a < sa ∨ sa + sw < a + 1) := fun hh => by have := hbe.2 hh; cases this
              omega
            obtain ⟨hC1, hC2⟩ := hC
            have hone : oneE x.1.width x.1.value (a - x.1.addr) 1 = some (sv / 256 ^ (a - sa).toNat % 256 ^ 1, 1) := by
              rw [HX.out.1, HX.out.2.1, HX.out.2.2.1]
              rw [oneE, if_neg (by omega), if_neg (by omega)]
              rfl
            clear hbe hbx
            obtain ⟨W7, hW7⟩ : ∃ W7, W7 = wc := ⟨_, rfl⟩
            rw [← hW7] at HF7 hm67 c80 c81 c82 cx0 cx1 cx2 ⊢
            clear hW7
            gi_upto_region 9 with fail
            gi_cut [10] from 54 (fun v10 wx => v10 = .int .u32 (sv / 256 ^ (a - sa).toNat) ∧ Mod (fun _ => False) W7 wx)
            case first =>
              clear HF7 hA1 hA2; clear HX HF HN hpl hrr hl1 hB hseq hbuf h hg hpb hB0 hm0 hone
              have hC : 0 ≤ a - sa ∧ a - sa ≤ 3 := by omega
              clear hC1 hC2
              refine wpIn_region_round (by kernel_rfl) (by kernel_rfl) ?_
              refine wpAnyIn_take (i := 0) (v := ?_) rfl rfl (by kernel_rfl) (by kernel_rfl) (by kernel_rfl) (fun _ _ _ h => h) ⟨Or.inl ⟨by rfl, ?_⟩, fun _ => rfl⟩ ?_
              rotate_left
              · (intro w; go_simp; try with_reducible rfl)
              refine wpAnyIn_take (i := 1) (v := ?_) rfl rfl (by kernel_rfl) (by kernel_rfl) (by kernel_rfl) (fun _ _ _ h => h) ⟨Or.inl ⟨by rfl, ?_⟩, fun _ => rfl⟩ ?_
              rotate_left
              · (intro w; go_simp; try with_reducible rfl)
              refine wpAnyIn_ready (rs := [2, 3, 5]) (by kernel_rfl) (by simp) ?_
              refine AllReadyIn.cons rfl (fun K hK => ?_) ?_
              · go_simp
                first | (refine hK _ _ ?_; clear hK K) | skip
                refine wpAnyIn_ready (rs := [3, 5]) (by kernel_rfl) (by simp) ?_
                refine AllReadyIn.cons rfl (fun K hK => ?_) ?_
                · go_simp
                  first | (refine hK _ _ ?_; clear hK K) | skip
                  refine wpAnyIn_ready (rs := [4, 5]) (by kernel_rfl) (by simp) ?_
                  refine AllReadyIn.cons rfl (fun K hK => ?_) ?_
                  · go_simp
                    gi_wp2_with (first
          | (gi_at_call 29; (with_reducible refine ((callsIn_wide.2 (until_ok _ a 1 0 ha ha' (by omega) (by omega)))).mono ?_); rintro e wu ⟨rfl, hmu⟩; have hmW := Mod.trans (a := W7) (S := fun _ => False) (by (repeat first | exact Mod.refl _ _ | assumption | apply Mod.drew | apply Mod.drewN | apply Mod.alloc | (refine Mod.setCell ?_ (Or.inr (by (first | (with_reducible exact Nat.le_refl _) | ((try simp only [World.size_alloc, World.size_setCell, World.size_drew] at *); omega)))) _) | (refine Mod.trans ?_ (by assumption)))) hmu; have k0 := hmW.cell c80 (fun x => x); have k1 := hmW.cell c81 (fun x => x); have k2 := hmW.cell c82 (fun x => x); have j0 := hmW.cell cx0 (fun x => x); have j1 := hmW.cell cx1 (fun x => x); have j2 := hmW.cell cx2 (fun x => x))
          | (gi_at_call 29; (with_reducible refine ((callsIn_wide.2 (until_ok _ sa sw sv s1 s2 (by omega) (by omega)))).mono ?_); rintro e wu ⟨rfl, hmu⟩; have hmW := Mod.trans (a := W7) (S := fun _ => False) (by (repeat first | exact Mod.refl _ _ | assumption | apply Mod.drew | apply Mod.drewN | apply Mod.alloc | (refine Mod.setCell ?_ (Or.inr (by (first | (with_reducible exact Nat.le_refl _) | ((try simp only [World.size_alloc, World.size_setCell, World.size_drew] at *); omega)))) _) | (refine Mod.trans ?_ (by assumption)))) hmu; have k0 := hmW.cell c80 (fun x => x); have k1 := hmW.cell c81 (fun x => x); have k2 := hmW.cell c82 (fun x => x); have j0 := hmW.cell cx0 (fun x => x); have j1 := hmW.cell cx1 (fun x => x); have j2 := hmW.cell cx2 (fun x => x))
          | (gi_at_call 30; (with_reducible refine ((callsIn_wide.2 (from_ok _ a 1 0 ha ha'))).mono ?_); rintro e wu ⟨rfl, hmu⟩; have hmW := Mod.trans (a := W7) (S := fun _ => False) (by (repeat first | exact Mod.refl _ _ | assumption | apply Mod.drew | apply Mod.drewN | apply Mod.alloc | (refine Mod.setCell ?_ (Or.inr (by (first | (with_reducible exact Nat.le_refl _) | ((try simp only [World.size_alloc, World.size_setCell, World.size_drew] at *); omega)))) _) | (refine Mod.trans ?_ (by assumption)))) hmu; have k0 := hmW.cell c80 (fun x => x); have k1 := hmW.cell c81 (fun x => x); have k2 := hmW.cell c82 (fun x => x); have j0 := hmW.cell cx0 (fun x => x); have j1 := hmW.cell cx1 (fun x => x); have j2 := hmW.cell cx2 (fun x => x))
          | (gi_at_call 30; (with_reducible refine ((callsIn_wide.2 (from_ok _ sa sw sv s1 s2))).mono ?_); rintro e wu ⟨rfl, hmu⟩; have hmW := Mod.trans (a := W7) (S := fun _ => False) (by (repeat first | exact Mod.refl _ _ | assumption | apply Mod.drew | apply Mod.drewN | apply Mod.alloc | (refine Mod.setCell ?_ (Or.inr (by (first | (with_reducible exact Nat.le_refl _) | ((try simp only [World.size_alloc, World.size_setCell, World.size_drew] at *); omega)))) _) | (refine Mod.trans ?_ (by assumption)))) hmu; have k0 := hmW.cell c80 (fun x => x); have k1 := hmW.cell c81 (fun x => x); have k2 := hmW.cell c82 (fun x => x); have j0 := hmW.cell cx0 (fun x => x); have j1 := hmW.cell cx1 (fun x => x); have j2 := hmW.cell cx2 (fun x => x)))
                    first | (refine hK _ _ ?_; clear hK K) | skip
                    refine wpAnyIn_ready (rs := [5]) (by kernel_rfl) (by simp) ?_
                    refine AllReadyIn.cons rfl (fun K hK => ?_) ?_
                    · go_simp
                      first | (refine hK _ _ ?_; clear hK K) | skip
                      refine wpAnyIn_ready (rs := [6]) (by kernel_rfl) (by simp) ?_
                      refine AllReadyIn.cons rfl (fun K hK => ?_) ?_
                      · go_simp
                        gi_wp2_with (first
          | (gi_at_call 29; (with_reducible refine ((callsIn_wide.2 (until_ok _ a 1 0 ha ha' (by omega) (by omega)))).mono ?_); rintro e wu ⟨rfl, hmu⟩; have hmW := Mod.trans (a := W7) (S := fun _ => False) (by (repeat first | exact Mod.refl _ _ | assumption | apply Mod.drew | apply Mod.drewN | apply Mod.alloc | (refine Mod.setCell ?_ (Or.inr (by (first | (with_reducible exact Nat.le_refl _) | ((try simp only [World.size_alloc, World.size_setCell, World.size_drew] at *); omega)))) _) | (refine Mod.trans ?_ (by assumption)))) hmu; have k0 := hmW.cell c80 (fun x => x); have k1 := hmW.cell c81 (fun x => x); have k2 := hmW.cell c82 (fun x => x); have j0 := hmW.cell cx0 (fun x => x); have j1 := hmW.cell cx1 (fun x => x); have j2 := hmW.cell cx2 (fun x => x))
          | (gi_at_call 29; (with_reducible refine ((callsIn_wide.2 (until_ok _ sa sw sv s1 s2 (by omega) (by omega)))).mono ?_); rintro e wu ⟨rfl, hmu⟩; have hmW := Mod.trans (a := W7) (S := fun _ => False) (by (repeat first | exact Mod.refl _ _ | assumption | apply Mod.drew | apply Mod.drewN | apply Mod.alloc | (refine Mod.setCell ?_ (Or.inr (by (first | (with_reducible exact Nat.le_refl _) | ((try simp only [World.size_alloc, World.size_setCell, World.size_drew] at *); omega)))) _) | (refine Mod.trans ?_ (by assumption)))) hmu; have k0 := hmW.cell c80 (fun x => x); have k1 := hmW.cell c81 (fun x => x); have k2 := hmW.cell c82 (fun x => x); have j0 := hmW.cell cx0 (fun x => x); have j1 := hmW.cell cx1 (fun x => x); have j2 := hmW.cell cx2 (fun x => x))
          | (gi_at_call 30; (with_reducible refine ((callsIn_wide.2 (from_ok _ a 1 0 ha ha'))).mono ?_); rintro e wu ⟨rfl, hmu⟩; have hmW := Mod.trans (a := W7) (S := fun _ => False) (by (repeat first | exact Mod.refl _ _ | assumption | apply Mod.drew | apply Mod.drewN | apply Mod.alloc | (refine Mod.setCell ?_ (Or.inr (by (first | (with_reducible exact Nat.le_refl _) | ((try simp only [World.size_alloc, World.size_setCell, World.size_drew] at *); omega)))) _) | (refine Mod.trans ?_ (by assumption)))) hmu; have k0 := hmW.cell c80 (fun x => x); have k1 := hmW.cell c81 (fun x => x); have k2 := hmW.cell c82 (fun x => x); have j0 := hmW.cell cx0 (fun x => x); have j1 := hmW.cell cx1 (fun x => x); have j2 := hmW.cell cx2 (fun x => x))
          | (gi_at_call 30; (with_reducible refine ((callsIn_wide.2 (from_ok _ sa sw sv s1 s2))).mono ?_); rintro e wu ⟨rfl, hmu⟩; have hmW := Mod.trans (a := W7) (S := fun _ => False) (by (repeat first | exact Mod.refl _ _ | assumption | apply Mod.drew | apply Mod.drewN | apply Mod.alloc | (refine Mod.setCell ?_ (Or.inr (by (first | (with_reducible exact Nat.le_refl _) | ((try simp only [World.size_alloc, World.size_setCell, World.size_drew] at *); omega)))) _) | (refine Mod.trans ?_ (by assumption)))) hmu; have k0 := hmW.cell c80 (fun x => x); have k1 := hmW.cell c81 (fun x => x); have k2 := hmW.cell c82 (fun x => x); have j0 := hmW.cell cx0 (fun x => x); have j1 := hmW.cell cx1 (fun x => x); have j2 := hmW.cell cx2 (fun x => x)))
                        first | (refine hK _ _ ?_; clear hK K) | skip
                        refine wpAnyIn_take (i := 7) (v := ?_) rfl rfl (by kernel_rfl) (by kernel_rfl) (by kernel_rfl) (fun _ _ _ h => h) ⟨Or.inl ⟨by rfl, ?_⟩, fun _ => rfl⟩ ?_
                        rotate_left
                        · (intro w; go_simp; try with_reducible rfl)
                        refine wpAnyIn_take (i := 8) (v := ?_) rfl rfl (by kernel_rfl) (by kernel_rfl) (by kernel_rfl) (fun _ _ _ h => h) ⟨Or.inl ⟨by rfl, ?_⟩, fun _ => rfl⟩ ?_
                        rotate_left
                        · (intro w; go_simp; try with_reducible rfl)
                        refine wpAnyIn_take (i := 9) (v := ?_) rfl rfl (by kernel_rfl) (by kernel_rfl) (by kernel_rfl) (fun _ _ _ h => h) ⟨Or.inl ⟨by rfl, ?_⟩, fun _ => rfl⟩ ?_
                        rotate_left
                        · (intro w; go_simp; try with_reducible rfl)
                        refine wpAnyIn_take (i := 10) (v := ?_) rfl rfl (by kernel_rfl) (by kernel_rfl) (by kernel_rfl) (fun _ _ _ h => h) ⟨Or.inl ⟨by rfl, ?_⟩, fun _ => rfl⟩ ?_
                        rotate_left
                        · (intro w; go_simp; try with_reducible rfl)
                        refine wpAnyIn_done (by kernel_rfl) ?_ _
                        gi_wp2_with fail
                        gi_meet
                        case rel => exact ⟨congrArg (Value.int .u32) (shfg sv (a - sa) hC.1 hC.2), hmW⟩
                      exact AllReadyIn.nil
                    exact AllReadyIn.nil
                  refine AllReadyIn.cons rfl (fun K hK => ?_) ?_
                  · go_simp
                    first | (refine hK _ _ ?_; clear hK K) | skip
                    refine wpAnyIn_ready (rs := [4]) (by kernel_rfl) (by simp) ?_
                    refine AllReadyIn.cons rfl (fun K hK => ?_) ?_
                    · go_simp
                      gi_wp2_with (first
          | (gi_at_call 29; (with_reducible refine ((callsIn_wide.2 (until_ok _ a 1 0 ha ha' (by omega) (by omega)))).mono ?_); rintro e wu ⟨rfl, hmu⟩; have hmW := Mod.trans (a := W7) (S := fun _ => False) (by (repeat first | exact Mod.refl _ _ | assumption | apply Mod.drew | apply Mod.drewN | apply Mod.alloc | (refine Mod.setCell ?_ (Or.inr (by (first | (with_reducible exact Nat.le_refl _) | ((try simp only [World.size_alloc, World.size_setCell, World.size_drew] at *); omega)))) _) | (refine Mod.trans ?_ (by assumption)))) hmu; have k0 := hmW.cell c80 (fun x => x); have k1 := hmW.cell c81 (fun x => x); have k2 := hmW.cell c82 (fun x => x); have j0 := hmW.cell cx0 (fun x => x); have j1 := hmW.cell cx1 (fun x => x); have j2 := hmW.cell cx2 (fun x => x))
          | (gi_at_call 29; (with_reducible refine ((callsIn_wide.2 (until_ok _ sa sw sv s1 s2 (by omega) (by omega)))).mono ?_); rintro e wu ⟨rfl, hmu⟩; have hmW := Mod.trans (a := W7) (S := fun _ => False) (by (repeat first | exact Mod.refl _ _ | assumption | apply Mod.drew | apply Mod.drewN | apply Mod.alloc | (refine Mod.setCell ?_ (Or.inr (by (first | (with_reducible exact Nat.le_refl _) | ((try simp only [World.size_alloc, World.size_setCell, World.size_drew] at *); omega)))) _) | (refine Mod.trans ?_ (by assumption)))) hmu; have k0 := hmW.cell c80 (fun x => x); have k1 := hmW.cell c81 (fun x => x); have k2 := hmW.cell c82 (fun x => x); have j0 := hmW.cell cx0 (fun x => x); have j1 := hmW.cell cx1 (fun x => x); have j2 := hmW.cell cx2 (fun x => x))
          | (gi_at_call 30; (with_reducible refine ((callsIn_wide.2 (from_ok _ a 1 0 ha ha'))).mono ?_); rintro e wu ⟨rfl, hmu⟩; have hmW := Mod.trans (a := W7) (S := fun _ => False) (by (repeat first | exact Mod.refl _ _ | assumption | apply Mod.drew | apply Mod.drewN | apply Mod.alloc | (refine Mod.setCell ?_ (Or.inr (by (first | (with_reducible exact Nat.le_refl _) | ((try simp only [World.size_alloc, World.size_setCell, World.size_drew] at *); omega)))) _) | (refine Mod.trans ?_ (by assumption)))) hmu; have k0 := hmW.cell c80 (fun x => x); have k1 := hmW.cell c81 (fun x => x); have k2 := hmW.cell c82 (fun x => x); have j0 := hmW.cell cx0 (fun x => x); have j1 := hmW.cell cx1 (fun x => x); have j2 := hmW.cell cx2 (fun x => x))
          | (gi_at_call 30; (with_reducible refine ((callsIn_wide.2 (from_ok _ sa sw sv s1 s2))).mono ?_); rintro e wu ⟨rfl, hmu⟩; have hmW := Mod.trans (a := W7) (S := fun _ => False) (by (repeat first | exact Mod.refl _ _ | assumption | apply Mod.drew | apply Mod.drewN | apply Mod.alloc | (refine Mod.setCell ?_ (Or.inr (by (first | (with_reducible exact Nat.le_refl _) | ((try simp only [World.size_alloc, World.size_setCell, World.size_drew] at *); omega)))) _) | (refine Mod.trans ?_ (by assumption)))) hmu; have k0 := hmW.cell c80 (fun x => x); have k1 := hmW.cell c81 (fun x => x); have k2 := hmW.cell c82 (fun x => x); have j0 := hmW.cell cx0 (fun x => x); have j1 := hmW.cell cx1 (fun x => x); have j2 := hmW.cell cx2 (fun x => x)))
                      first | (refine hK _ _ ?_; clear hK K) | skip
                      refine wpAnyIn_ready (rs := [6]) (by kernel_rfl) (by simp) ?_
                      refine AllReadyIn.cons rfl (fun K hK => ?_) ?_
                      · go_simp
                        gi_wp2_with (first
          | (gi_at_call 29; (with_reducible refine ((callsIn_wide.2 (until_ok _ a 1 0 ha ha' (by omega) (by omega)))).mono ?_); rintro e wu ⟨rfl, hmu⟩; have hmW := Mod.trans (a := W7) (S := fun _ => False) (by (repeat first | exact Mod.refl _ _ | assumption | apply Mod.drew | apply Mod.drewN | apply Mod.alloc | (refine Mod.setCell ?_ (Or.inr (by (first | (with_reducible exact Nat.le_refl _) | ((try simp only [World.size_alloc, World.size_setCell, World.size_drew] at *); omega)))) _) | (refine Mod.trans ?_ (by assumption)))) hmu; have k0 := hmW.cell c80 (fun x => x); have k1 := hmW.cell c81 (fun x => x); have k2 := hmW.cell c82 (fun x => x); have j0 := hmW.cell cx0 (fun x => x); have j1 := hmW.cell cx1 (fun x => x); have j2 := hmW.cell cx2 (fun x => x))
          | (gi_at_call 29; (with_reducible refine ((callsIn_wide.2 (until_ok _ sa sw sv s1 s2 (by omega) (by omega)))).mono ?_); rintro e wu ⟨rfl, hmu⟩; have hmW := Mod.trans (a := W7) (S := fun _ => False) (by (repeat first | exact Mod.refl _ _ | assumption | apply Mod.drew | apply Mod.drewN | apply Mod.alloc | (refine Mod.setCell ?_ (Or.inr (by (first | (with_reducible exact Nat.le_refl _) | ((try simp only [World.size_alloc, World.size_setCell, World.size_drew] at *); omega)))) _) | (refine Mod.trans ?_ (by assumption)))) hmu; have k0 := hmW.cell c80 (fun x => x); have k1 := hmW.cell c81 (fun x => x); have k2 := hmW.cell c82 (fun x => x); have j0 := hmW.cell cx0 (fun x => x); have j1 := hmW.cell cx1 (fun x => x); have j2 := hmW.cell cx2 (fun x => x))
          | (gi_at_call 30; (with_reducible refine ((callsIn_wide.2 (from_ok _ a 1 0 ha ha'))).mono ?_); rintro e wu ⟨rfl, hmu⟩; have hmW := Mod.trans (a := W7) (S := fun _ => False) (by (repeat first | exact Mod.refl _ _ | assumption | apply Mod.drew | apply Mod.drewN | apply Mod.alloc | (refine Mod.setCell ?_ (Or.inr (by (first | (with_reducible exact Nat.le_refl _) | ((try simp only [World.size_alloc, World.size_setCell, World.size_drew] at *); omega)))) _) | (refine Mod.trans ?_ (by assumption)))) hmu; have k0 := hmW.cell c80 (fun x => x); have k1 := hmW.cell c81 (fun x => x); have k2 := hmW.cell c82 (fun x => x); have j0 := hmW.cell cx0 (fun x => x); have j1 := hmW.cell cx1 (fun x => x); have j2 := hmW.cell cx2 (fun x => x))
          | (gi_at_call 30; (with_reducible refine ((callsIn_wide.2 (from_ok _ sa sw sv s1 s2))).mono ?_); rintro e wu ⟨rfl, hmu⟩; have hmW := Mod.trans (a := W7) (S := fun _ => False) (by (repeat first | exact Mod.refl _ _ | assumption | apply Mod.drew | apply Mod.drewN | apply Mod.alloc | (refine Mod.setCell ?_ (Or.inr (by (first | (with_reducible exact Nat.le_refl _) | ((try simp only [World.size_alloc, World.size_setCell, World.size_drew] at *); omega)))) _) | (refine Mod.trans ?_ (by assumption)))) hmu; have k0 := hmW.cell c80 (fun x => x); have k1 := hmW.cell c81 (fun x => x); have k2 := hmW.cell c82 (fun x => x); have j0 := hmW.cell cx0 (fun x => x); have j1 := hmW.cell cx1 (fun x => x); have j2 := hmW.cell cx2 (fun x => x)))
                        first | (refine hK _ _ ?_; clear hK K) | skip
                        refine wpAnyIn_take (i := 7) (v := ?_) rfl rfl (by kernel_rfl) (by kernel_rfl) (by kernel_rfl) (fun _ _ _ h => h) ⟨Or.inl ⟨by rfl, ?_⟩, fun _ => rfl⟩ ?_
                        rotate_left
                        · (intro w; go_simp; try with_reducible rfl)
                        refine wpAnyIn_take (i := 8) (v := ?_) rfl rfl (by kernel_rfl) (by kernel_rfl) (by kernel_rfl) (fun _ _ _ h => h) ⟨Or.inl ⟨by rfl, ?_⟩, fun _ => rfl⟩ ?_
                        rotate_left
                        · (intro w; go_simp; try with_reducible rfl)
                        refine wpAnyIn_take (i := 9) (v := ?_) rfl rfl (by kernel_rfl) (by kernel_rfl) (by kernel_rfl) (fun _ _ _ h => h) ⟨Or.inl ⟨by rfl, ?_⟩, fun _ => rfl⟩ ?_
                        rotate_left
                        · (intro w; go_simp; try with_reducible rfl)
                        refine wpAnyIn_take (i := 10) (v := ?_) rfl rfl (by kernel_rfl) (by kernel_rfl) (by kernel_rfl) (fun _ _ _ h => h) ⟨Or.inl ⟨by rfl, ?_⟩, fun _ => rfl⟩ ?_
                        rotate_left
                        · (intro w; go_simp; try with_reducible rfl)
                        refine wpAnyIn_done (by kernel_rfl) ?_ _
                        gi_wp2_with fail
                        gi_meet
                        case rel => exact ⟨congrArg (Value.int .u32) (shfg sv (a - sa) hC.1 hC.2), hmW⟩
                      exact AllReadyIn.nil
                    exact AllReadyIn.nil
                  exact AllReadyIn.nil
                refine AllReadyIn.cons rfl (fun K hK => ?_) ?_
                · go_simp
                  first | (refine hK _ _ ?_; clear hK K) | skip
                  refine wpAnyIn_ready (rs := [3]) (by kernel_rfl) (by simp) ?_
                  refine AllReadyIn.cons rfl (fun K hK => ?_) ?_
                  · go_simp
                    first | (refine hK _ _ ?_; clear hK K) | skip
                    refine wpAnyIn_ready (rs := [4]) (by kernel_rfl) (by simp) ?_
                    refine AllReadyIn.cons rfl (fun K hK => ?_) ?_
                    · go_simp
                      gi_wp2_with (first
          | (gi_at_call 29; (with_reducible refine ((callsIn_wide.2 (until_ok _ a 1 0 ha ha' (by omega) (by omega)))).mono ?_); rintro e wu ⟨rfl, hmu⟩; have hmW := Mod.trans (a := W7) (S := fun _ => False) (by (repeat first | exact Mod.refl _ _ | assumption | apply Mod.drew | apply Mod.drewN | apply Mod.alloc | (refine Mod.setCell ?_ (Or.inr (by (first | (with_reducible exact Nat.le_refl _) | ((try simp only [World.size_alloc, World.size_setCell, World.size_drew] at *); omega)))) _) | (refine Mod.trans ?_ (by assumption)))) hmu; have k0 := hmW.cell c80 (fun x => x); have k1 := hmW.cell c81 (fun x => x); have k2 := hmW.cell c82 (fun x => x); have j0 := hmW.cell cx0 (fun x => x); have j1 := hmW.cell cx1 (fun x => x); have j2 := hmW.cell cx2 (fun x => x))
          | (gi_at_call 29; (with_reducible refine ((callsIn_wide.2 (until_ok _ sa sw sv s1 s2 (by omega) (by omega)))).mono ?_); rintro e wu ⟨rfl, hmu⟩; have hmW := Mod.trans (a := W7) (S := fun _ => False) (by (repeat first | exact Mod.refl _ _ | assumption | apply Mod.drew | apply Mod.drewN | apply Mod.alloc | (refine Mod.setCell ?_ (Or.inr (by (first | (with_reducible exact Nat.le_refl _) | ((try simp only [World.size_alloc, World.size_setCell, World.size_drew] at *); omega)))) _) | (refine Mod.trans ?_ (by assumption)))) hmu; have k0 := hmW.cell c80 (fun x => x); have k1 := hmW.cell c81 (fun x => x); have k2 := hmW.cell c82 (fun x => x); have j0 := hmW.cell cx0 (fun x => x); have j1 := hmW.cell cx1 (fun x => x); have j2 := hmW.cell cx2 (fun x => x))
          | (gi_at_call 30; (with_reducible refine ((callsIn_wide.2 (from_ok _ a 1 0 ha ha'))).mono ?_); rintro e wu ⟨rfl, hmu⟩; have hmW := Mod.trans (a := W7) (S := fun _ => False) (by (repeat first | exact Mod.refl _ _ | assumption | apply Mod.drew | apply Mod.drewN | apply Mod.alloc | (refine Mod.setCell ?_ (Or.inr (by (first | (with_reducible exact Nat.le_refl _) | ((try simp only [World.size_alloc, World.size_setCell, World.size_drew] at *); omega)))) _) | (refine Mod.trans ?_ (by assumption)))) hmu; have k0 := hmW.cell c80 (fun x => x); have k1 := hmW.cell c81 (fun x => x); have k2 := hmW.cell c82 (fun x => x); have j0 := hmW.cell cx0 (fun x => x); have j1 := hmW.cell cx1 (fun x => x); have j2 := hmW.cell cx2 (fun x => x))
          | (gi_at_call 30; (with_reducible refine ((callsIn_wide.2 (from_ok _ sa sw sv s1 s2))).mono ?_); rintro e wu ⟨rfl, hmu⟩; have hmW := Mod.trans (a := W7) (S := fun _ => False) (by (repeat first | exact Mod.refl _ _ | assumption | apply Mod.drew | apply Mod.drewN | apply Mod.alloc | (refine Mod.setCell ?_ (Or.inr (by (first | (with_reducible exact Nat.le_refl _) | ((try simp only [World.size_alloc, World.size_setCell, World.size_drew] at *); omega)))) _) | (refine Mod.trans ?_ (by assumption)))) hmu; have k0 := hmW.cell c80 (fun x => x); have k1 := hmW.cell c81 (fun x => x); have k2 := hmW.cell c82 (fun x => x); have j0 := hmW.cell cx0 (fun x => x); have j1 := hmW.cell cx1 (fun x => x); have j2 := hmW.cell cx2 (fun x => x)))
                      first | (refine hK _ _ ?_; clear hK K) | skip
                      refine wpAnyIn_ready (rs := [6]) (by kernel_rfl) (by simp) ?_
                      refine AllReadyIn.cons rfl (fun K hK => ?_) ?_
                      · go_simp
                        gi_wp2_with (first
          | (gi_at_call 29; (with_reducible refine ((callsIn_wide.2 (until_ok _ a 1 0 ha ha' (by omega) (by omega)))).mono ?_); rintro e wu ⟨rfl, hmu⟩; have hmW := Mod.trans (a := W7) (S := fun _ => False) (by (repeat first | exact Mod.refl _ _ | assumption | apply Mod.drew | apply Mod.drewN | apply Mod.alloc | (refine Mod.setCell ?_ (Or.inr (by (first | (with_reducible exact Nat.le_refl _) | ((try simp only [World.size_alloc, World.size_setCell, World.size_drew] at *); omega)))) _) | (refine Mod.trans ?_ (by assumption)))) hmu; have k0 := hmW.cell c80 (fun x => x); have k1 := hmW.cell c81 (fun x => x); have k2 := hmW.cell c82 (fun x => x); have j0 := hmW.cell cx0 (fun x => x); have j1 := hmW.cell cx1 (fun x => x); have j2 := hmW.cell cx2 (fun x => x))
          | (gi_at_call 29; (with_reducible refine ((callsIn_wide.2 (until_ok _ sa sw sv s1 s2 (by omega) (by omega)))).mono ?_); rintro e wu ⟨rfl, hmu⟩; have hmW := Mod.trans (a := W7) (S := fun _ => False) (by (repeat first | exact Mod.refl _ _ | assumption | apply Mod.drew | apply Mod.drewN | apply Mod.alloc | (refine Mod.setCell ?_ (Or.inr (by (first | (with_reducible exact Nat.le_refl _) | ((try simp only [World.size_alloc, World.size_setCell, World.size_drew] at *); omega)))) _) | (refine Mod.trans ?_ (by assumption)))) hmu; have k0 := hmW.cell c80 (fun x => x); have k1 := hmW.cell c81 (fun x => x); have k2 := hmW.cell c82 (fun x => x); have j0 := hmW.cell cx0 (fun x => x); have j1 := hmW.cell cx1 (fun x => x); have j2 := hmW.cell cx2 (fun x => x))
          | (gi_at_call 30; (with_reducible refine ((callsIn_wide.2 (from_ok _ a 1 0 ha ha'))).mono ?_); rintro e wu ⟨rfl, hmu⟩; have hmW := Mod.trans (a := W7) (S := fun _ => False) (by (repeat first | exact Mod.refl _ _ | assumption | apply Mod.drew | apply Mod.drewN | apply Mod.alloc | (refine Mod.setCell ?_ (Or.inr (by (first | (with_reducible exact Nat.le_refl _) | ((try simp only [World.size_alloc, World.size_setCell, World.size_drew] at *); omega)))) _) | (refine Mod.trans ?_ (by assumption)))) hmu; have k0 := hmW.cell c80 (fun x => x); have k1 := hmW.cell c81 (fun x => x); have k2 := hmW.cell c82 (fun x => x); have j0 := hmW.cell cx0 (fun x => x); have j1 := hmW.cell cx1 (fun x => x); have j2 := hmW.cell cx2 (fun x => x))
          | (gi_at_call 30; (with_reducible refine ((callsIn_wide.2 (from_ok _ sa sw sv s1 s2))).mono ?_); rintro e wu ⟨rfl, hmu⟩; have hmW := Mod.trans (a := W7) (S := fun _ => False) (by (repeat first | exact Mod.refl _ _ | assumption | apply Mod.drew | apply Mod.drewN | apply Mod.alloc | (refine Mod.setCell ?_ (Or.inr (by (first | (with_reducible exact Nat.le_refl _) | ((try simp only [World.size_alloc, World.size_setCell, World.size_drew] at *); omega)))) _) | (refine Mod.trans ?_ (by assumption)))) hmu; have k0 := hmW.cell c80 (fun x => x); have k1 := hmW.cell c81 (fun x => x); have k2 := hmW.cell c82 (fun x => x); have j0 := hmW.cell cx0 (fun x => x); have j1 := hmW.cell cx1 (fun x => x); have j2 := hmW.cell cx2 (fun x => x)))
                        first | (refine hK _ _ ?_; clear hK K) | skip
                        refine wpAnyIn_take (i := 7) (v := ?_) rfl rfl (by kernel_rfl) (by kernel_rfl) (by kernel_rfl) (fun _ _ _ h => h) ⟨Or.inl ⟨by rfl, ?_⟩, fun _ => rfl⟩ ?_
                        rotate_left
                        · (intro w; go_simp; try with_reducible rfl)
                        refine wpAnyIn_take (i := 8) (v := ?_) rfl rfl (by kernel_rfl) (by kernel_rfl) (by kernel_rfl) (fun _ _ _ h => h) ⟨Or.inl ⟨by rfl, ?_⟩, fun _ => rfl⟩ ?_
                        rotate_left
                        · (intro w; go_simp; try with_reducible rfl)
                        refine wpAnyIn_take (i := 9) (v := ?_) rfl rfl (by kernel_rfl) (by kernel_rfl) (by kernel_rfl) (fun _ _ _ h => h) ⟨Or.inl ⟨by rfl, ?_⟩, fun _ => rfl⟩ ?_
                        rotate_left
                        · (intro w; go_simp; try with_reducible rfl)
                        refine wpAnyIn_take (i := 10) (v := ?_) rfl rfl (by kernel_rfl) (by kernel_rfl) (by kernel_rfl) (fun _ _ _ h => h) ⟨Or.inl ⟨by rfl, ?_⟩, fun _ => rfl⟩ ?_
                        rotate_left
                        · (intro w; go_simp; try with_reducible rfl)
                        refine wpAnyIn_done (by kernel_rfl) ?_ _
                        gi_wp2_with fail
                        gi_meet
                        case rel => exact ⟨congrArg (Value.int .u32) (shfg sv (a - sa) hC.1 hC.2), hmW⟩
                      exact AllReadyIn.nil
                    exact AllReadyIn.nil
                  exact AllReadyIn.nil
                exact AllReadyIn.nil
              refine AllReadyIn.cons rfl (fun K hK => ?_) ?_
              · go_simp
                first | (refine hK _ _ ?_; clear hK K) | skip
                refine wpAnyIn_ready (rs := [2, 4, 5]) (by kernel_rfl) (by simp) ?_
                refine AllReadyIn.cons rfl (fun K hK => ?_) ?_
                · go_simp
                  first | (refine hK _ _ ?_; clear hK K) | skip
                  refine wpAnyIn_ready (rs := [4, 5]) (by kernel_rfl) (by simp) ?_
                  refine AllReadyIn.cons rfl (fun K hK => ?_) ?_
                  · go_simp
                    gi_wp2_with (first
          | (gi_at_call 29; (with_reducible refine ((callsIn_wide.2 (until_ok _ a 1 0 ha ha' (by omega) (by omega)))).mono ?_); rintro e wu ⟨rfl, hmu⟩; have hmW := Mod.trans (a := W7) (S := fun _ => False) (by (repeat first | exact Mod.refl _ _ | assumption | apply Mod.drew | apply Mod.drewN | apply Mod.alloc | (refine Mod.setCell ?_ (Or.inr (by (first | (with_reducible exact Nat.le_refl _) | ((try simp only [World.size_alloc, World.size_setCell, World.size_drew] at *); omega)))) _) | (refine Mod.trans ?_ (by assumption)))) hmu; have k0 := hmW.cell c80 (fun x => x); have k1 := hmW.cell c81 (fun x => x); have k2 := hmW.cell c82 (fun x => x); have j0 := hmW.cell cx0 (fun x => x); have j1 := hmW.cell cx1 (fun x => x); have j2 := hmW.cell cx2 (fun x => x))
          | (gi_at_call 29; (with_reducible refine ((callsIn_wide.2 (until_ok _ sa sw sv s1 s2 (by omega) (by omega)))).mono ?_); rintro e wu ⟨rfl, hmu⟩; have hmW := Mod.trans (a := W7) (S := fun _ => False) (by (repeat first | exact Mod.refl _ _ | assumption | apply Mod.drew | apply Mod.drewN | apply Mod.alloc | (refine Mod.setCell ?_ (Or.inr (by (first | (with_reducible exact Nat.le_refl _) | ((try simp only [World.size_alloc, World.size_setCell, World.size_drew] at *); omega)))) _) | (refine Mod.trans ?_ (by assumption)))) hmu; have k0 := hmW.cell c80 (fun x => x); have k1 := hmW.cell c81 (fun x => x); have k2 := hmW.cell c82 (fun x => x); have j0 := hmW.cell cx0 (fun x => x); have j1 := hmW.cell cx1 (fun x => x); have j2 := hmW.cell cx2 (fun x => x))
          | (gi_at_call 30; (with_reducible refine ((callsIn_wide.2 (from_ok _ a 1 0 ha ha'))).mono ?_); rintro e wu ⟨rfl, hmu⟩; have hmW := Mod.trans (a := W7) (S := fun _ => False) (by (repeat first | exact Mod.refl _ _ | assumption | apply Mod.drew | apply Mod.drewN | apply Mod.alloc | (refine Mod.setCell ?_ (Or.inr (by (first | (with_reducible exact Nat.le_refl _) | ((try simp only [World.size_alloc, World.size_setCell, World.size_drew] at *); omega)))) _) | (refine Mod.trans ?_ (by assumption)))) hmu; have k0 := hmW.cell c80 (fun x => x); have k1 := hmW.cell c81 (fun x => x); have k2 := hmW.cell c82 (fun x => x); have j0 := hmW.cell cx0 (fun x => x); have j1 := hmW.cell cx1 (fun x => x); have j2 := hmW.cell cx2 (fun x => x))
          | (gi_at_call 30; (with_reducible refine ((callsIn_wide.2 (from_ok _ sa sw sv s1 s2))).mono ?_); rintro e wu ⟨rfl, hmu⟩; have hmW := Mod.trans (a := W7) (S := fun _ => False) (by (repeat first | exact Mod.refl _ _ | assumption | apply Mod.drew | apply Mod.drewN | apply Mod.alloc | (refine Mod.setCell ?_ (Or.inr (by (first | (with_reducible exact Nat.le_refl _) | ((try simp only [World.size_alloc, World.size_setCell, World.size_drew] at *); omega)))) _) | (refine Mod.trans ?_ (by assumption)))) hmu; have k0 := hmW.cell c80 (fun x => x); have k1 := hmW.cell c81 (fun x => x); have k2 := hmW.cell c82 (fun x => x); have j0 := hmW.cell cx0 (fun x => x); have j1 := hmW.cell cx1 (fun x => x); have j2 := hmW.cell cx2 (fun x => x)))
                    first | (refine hK _ _ ?_; clear hK K) | skip
                    refine wpAnyIn_ready (rs := [5]) (by kernel_rfl) (by simp) ?_
                    refine AllReadyIn.cons rfl (fun K hK => ?_) ?_
                    · go_simp
                      first | (refine hK _ _ ?_; clear hK K) | skip
                      refine wpAnyIn_ready (rs := [6]) (by kernel_rfl) (by simp) ?_
                      refine AllReadyIn.cons rfl (fun K hK => ?_) ?_
                      · go_simp
                        gi_wp2_with (first
          | (gi_at_call 29; (with_reducible refine ((callsIn_wide.2 (until_ok _ a 1 0 ha ha' (by omega) (by omega)))).mono ?_); rintro e wu ⟨rfl, hmu⟩; have hmW := Mod.trans (a := W7) (S := fun _ => False) (by (repeat first | exact Mod.refl _ _ | assumption | apply Mod.drew | apply Mod.drewN | apply Mod.alloc | (refine Mod.setCell ?_ (Or.inr (by (first | (with_reducible exact Nat.le_refl _) | ((try simp only [World.size_alloc, World.size_setCell, World.size_drew] at *); omega)))) _) | (refine Mod.trans ?_ (by assumption)))) hmu; have k0 := hmW.cell c80 (fun x => x); have k1 := hmW.cell c81 (fun x => x); have k2 := hmW.cell c82 (fun x => x); have j0 := hmW.cell cx0 (fun x => x); have j1 := hmW.cell cx1 (fun x => x); have j2 := hmW.cell cx2 (fun x => x))
          | (gi_at_call 29; (with_reducible refine ((callsIn_wide.2 (until_ok _ sa sw sv s1 s2 (by omega) (by omega)))).mono ?_); rintro e wu ⟨rfl, hmu⟩; have hmW := Mod.trans (a := W7) (S := fun _ => False) (by (repeat first | exact Mod.refl _ _ | assumption | apply Mod.drew | apply Mod.drewN | apply Mod.alloc | (refine Mod.setCell ?_ (Or.inr (by (first | (with_reducible exact Nat.le_refl _) | ((try simp only [World.size_alloc, World.size_setCell, World.size_drew] at *); omega)))) _) | (refine Mod.trans ?_ (by assumption)))) hmu; have k0 := hmW.cell c80 (fun x => x); have k1 := hmW.cell c81 (fun x => x); have k2 := hmW.cell c82 (fun x => x); have j0 := hmW.cell cx0 (fun x => x); have j1 := hmW.cell cx1 (fun x => x); have j2 := hmW.cell cx2 (fun x => x))
          | (gi_at_call 30; (with_reducible refine ((callsIn_wide.2 (from_ok _ a 1 0 ha ha'))).mono ?_); rintro e wu ⟨rfl, hmu⟩; have hmW := Mod.trans (a := W7) (S := fun _ => False) (by (repeat first | exact Mod.refl _ _ | assumption | apply Mod.drew | apply Mod.drewN | apply Mod.alloc | (refine Mod.setCell ?_ (Or.inr (by (first | (with_reducible exact Nat.le_refl _) | ((try simp only [World.size_alloc, World.size_setCell, World.size_drew] at *); omega)))) _) | (refine Mod.trans ?_ (by assumption)))) hmu; have k0 := hmW.cell c80 (fun x => x); have k1 := hmW.cell c81 (fun x => x); have k2 := hmW.cell c82 (fun x => x); have j0 := hmW.cell cx0 (fun x => x); have j1 := hmW.cell cx1 (fun x => x); have j2 := hmW.cell cx2 (fun x => x))
          | (gi_at_call 30; (with_reducible refine ((callsIn_wide.2 (from_ok _ sa sw sv s1 s2))).mono ?_); rintro e wu ⟨rfl, hmu⟩; have hmW := Mod.trans (a := W7) (S := fun _ => False) (by (repeat first | exact Mod.refl _ _ | assumption | apply Mod.drew | apply Mod.drewN | apply Mod.alloc | (refine Mod.setCell ?_ (Or.inr (by (first | (with_reducible exact Nat.le_refl _) | ((try simp only [World.size_alloc, World.size_setCell, World.size_drew] at *); omega)))) _) | (refine Mod.trans ?_ (by assumption)))) hmu; have k0 := hmW.cell c80 (fun x => x); have k1 := hmW.cell c81 (fun x => x); have k2 := hmW.cell c82 (fun x => x); have j0 := hmW.cell cx0 (fun x => x); have j1 := hmW.cell cx1 (fun x => x); have j2 := hmW.cell cx2 (fun x => x)))
                        first | (refine hK _ _ ?_; clear hK K) | skip
                        refine wpAnyIn_take (i := 7) (v := ?_) rfl rfl (by kernel_rfl) (by kernel_rfl) (by kernel_rfl) (fun _ _ _ h => h) ⟨Or.inl ⟨by rfl, ?_⟩, fun _ => rfl⟩ ?_
                        rotate_left
                        · (intro w; go_simp; try with_reducible rfl)
                        refine wpAnyIn_take (i := 8) (v := ?_) rfl rfl (by kernel_rfl) (by kernel_rfl) (by kernel_rfl) (fun _ _ _ h => h) ⟨Or.inl ⟨by rfl, ?_⟩, fun _ => rfl⟩ ?_
                        rotate_left
                        · (intro w; go_simp; try with_reducible rfl)
                        refine wpAnyIn_take (i := 9) (v := ?_) rfl rfl (by kernel_rfl) (by kernel_rfl) (by kernel_rfl) (fun _ _ _ h => h) ⟨Or.inl ⟨by rfl, ?_⟩, fun _ => rfl⟩ ?_
                        rotate_left
                        · (intro w; go_simp; try with_reducible rfl)
                        refine wpAnyIn_take (i := 10) (v := ?_) rfl rfl (by kernel_rfl) (by kernel_rfl) (by kernel_rfl) (fun _ _ _ h => h) ⟨Or.inl ⟨by rfl, ?_⟩, fun _ => rfl⟩ ?_
                        rotate_left
                        · (intro w; go_simp; try with_reducible rfl)
                        refine wpAnyIn_done (by kernel_rfl) ?_ _
                        gi_wp2_with fail
                        gi_meet
                        case rel => exact ⟨congrArg (Value.int .u32) (shfg sv (a - sa) hC.1 hC.2), hmW⟩
                      exact AllReadyIn.nil
                    exact AllReadyIn.nil
                  refine AllReadyIn.cons rfl (fun K hK => ?_) ?_
                  · go_simp
                    first | (refine hK _ _ ?_; clear hK K) | skip
                    refine wpAnyIn_ready (rs := [4]) (by kernel_rfl) (by simp) ?_
                    refine AllReadyIn.cons rfl (fun K hK => ?_) ?_
                    · go_simp
                      gi_wp2_with (first
          | (gi_at_call 29; (with_reducible refine ((callsIn_wide.2 (until_ok _ a 1 0 ha ha' (by omega) (by omega)))).mono ?_); rintro e wu ⟨rfl, hmu⟩; have hmW := Mod.trans (a := W7) (S := fun _ => False) (by (repeat first | exact Mod.refl _ _ | assumption | apply Mod.drew | apply Mod.drewN | apply Mod.alloc | (refine Mod.setCell ?_ (Or.inr (by (first | (with_reducible exact Nat.le_refl _) | ((try simp only [World.size_alloc, World.size_setCell, World.size_drew] at *); omega)))) _) | (refine Mod.trans ?_ (by assumption)))) hmu; have k0 := hmW.cell c80 (fun x => x); have k1 := hmW.cell c81 (fun x => x); have k2 := hmW.cell c82 (fun x => x); have j0 := hmW.cell cx0 (fun x => x); have j1 := hmW.cell cx1 (fun x => x); have j2 := hmW.cell cx2 (fun x => x))
          | (gi_at_call 29; (with_reducible refine ((callsIn_wide.2 (until_ok _ sa sw sv s1 s2 (by omega) (by omega)))).mono ?_); rintro e wu ⟨rfl, hmu⟩; have hmW := Mod.trans (a := W7) (S := fun _ => False) (by (repeat first | exact Mod.refl _ _ | assumption | apply Mod.drew | apply Mod.drewN | apply Mod.alloc | (refine Mod.setCell ?_ (Or.inr (by (first | (with_reducible exact Nat.le_refl _) | ((try simp only [World.size_alloc, World.size_setCell, World.size_drew] at *); omega)))) _) | (refine Mod.trans ?_ (by assumption)))) hmu; have k0 := hmW.cell c80 (fun x => x); have k1 := hmW.cell c81 (fun x => x); have k2 := hmW.cell c82 (fun x => x); have j0 := hmW.cell cx0 (fun x => x); have j1 := hmW.cell cx1 (fun x => x); have j2 := hmW.cell cx2 (fun x => x))
          | (gi_at_call 30; (with_reducible refine ((callsIn_wide.2 (from_ok _ a 1 0 ha ha'))).mono ?_); rintro e wu ⟨rfl, hmu⟩; have hmW := Mod.trans (a := W7) (S := fun _ => False) (by (repeat first | exact Mod.refl _ _ | assumption | apply Mod.drew | apply Mod.drewN | apply Mod.alloc | (refine Mod.setCell ?_ (Or.inr (by (first | (with_reducible exact Nat.le_refl _) | ((try simp only [World.size_alloc, World.size_setCell, World.size_drew] at *); omega)))) _) | (refine Mod.trans ?_ (by assumption)))) hmu; have k0 := hmW.cell c80 (fun x => x); have k1 := hmW.cell c81 (fun x => x); have k2 := hmW.cell c82 (fun x => x); have j0 := hmW.cell cx0 (fun x => x); have j1 := hmW.cell cx1 (fun x => x); have j2 := hmW.cell cx2 (fun x => x))
          | (gi_at_call 30; (with_reducible refine ((callsIn_wide.2 (from_ok _ sa sw sv s1 s2))).mono ?_); rintro e wu ⟨rfl, hmu⟩; have hmW := Mod.trans (a := W7) (S := fun _ => False) (by (repeat first | exact Mod.refl _ _ | assumption | apply Mod.drew | apply Mod.drewN | apply Mod.alloc | (refine Mod.setCell ?_ (Or.inr (by (first | (with_reducible exact Nat.le_refl _) | ((try simp only [World.size_alloc, World.size_setCell, World.size_drew] at *); omega)))) _) | (refine Mod.trans ?_ (by assumption)))) hmu; have k0 := hmW.cell c80 (fun x => x); have k1 := hmW.cell c81 (fun x => x); have k2 := hmW.cell c82 (fun x => x); have j0 := hmW.cell cx0 (fun x => x); have j1 := hmW.cell cx1 (fun x => x); have j2 := hmW.cell cx2 (fun x => x)))
                      first | (refine hK _ _ ?_; clear hK K) | skip
                      refine wpAnyIn_ready (rs := [6]) (by kernel_rfl) (by simp) ?_
                      refine AllReadyIn.cons rfl (fun K hK => ?_) ?_
                      · go_simp
                        gi_wp2_with (first
          | (gi_at_call 29; (with_reducible refine ((callsIn_wide.2 (until_ok _ a 1 0 ha ha' (by omega) (by omega)))).mono ?_); rintro e wu ⟨rfl, hmu⟩; have hmW := Mod.trans (a := W7) (S := fun _ => False) (by (repeat first | exact Mod.refl _ _ | assumption | apply Mod.drew | apply Mod.drewN | apply Mod.alloc | (refine Mod.setCell ?_ (Or.inr (by (first | (with_reducible exact Nat.le_refl _) | ((try simp only [World.size_alloc, World.size_setCell, World.size_drew] at *); omega)))) _) | (refine Mod.trans ?_ (by assumption)))) hmu; have k0 := hmW.cell c80 (fun x => x); have k1 := hmW.cell c81 (fun x => x); have k2 := hmW.cell c82 (fun x => x); have j0 := hmW.cell cx0 (fun x => x); have j1 := hmW.cell cx1 (fun x => x); have j2 := hmW.cell cx2 (fun x => x))
          | (gi_at_call 29; (with_reducible refine ((callsIn_wide.2 (until_ok _ sa sw sv s1 s2 (by omega) (by omega)))).mono ?_); rintro e wu ⟨rfl, hmu⟩; have hmW := Mod.trans (a := W7) (S := fun _ => False) (by (repeat first | exact Mod.refl _ _ | assumption | apply Mod.drew | apply Mod.drewN | apply Mod.alloc | (refine Mod.setCell ?_ (Or.inr (by (first | (with_reducible exact Nat.le_refl _) | ((try simp only [World.size_alloc, World.size_setCell, World.size_drew] at *); omega)))) _) | (refine Mod.trans ?_ (by assumption)))) hmu; have k0 := hmW.cell c80 (fun x => x); have k1 := hmW.cell c81 (fun x => x); have k2 := hmW.cell c82 (fun x => x); have j0 := hmW.cell cx0 (fun x => x); have j1 := hmW.cell cx1 (fun x => x); have j2 := hmW.cell cx2 (fun x => x))
          | (gi_at_call 30; (with_reducible refine ((callsIn_wide.2 (from_ok _ a 1 0 ha ha'))).mono ?_); rintro e wu ⟨rfl, hmu⟩; have hmW := Mod.trans (a := W7) (S := fun _ => False) (by (repeat first | exact Mod.refl _ _ | assumption | apply Mod.drew | apply Mod.drewN | apply Mod.alloc | (refine Mod.setCell ?_ (Or.inr (by (first | (with_reducible exact Nat.le_refl _) | ((try simp only [World.size_alloc, World.size_setCell, World.size_drew] at *); omega)))) _) | (refine Mod.trans ?_ (by assumption)))) hmu; have k0 := hmW.cell c80 (fun x => x); have k1 := hmW.cell c81 (fun x => x); have k2 := hmW.cell c82 (fun x => x); have j0 := hmW.cell cx0 (fun x => x); have j1 := hmW.cell cx1 (fun x => x); have j2 := hmW.cell cx2 (fun x => x))
          | (gi_at_call 30; (with_reducible refine ((callsIn_wide.2 (from_ok _ sa sw sv s1 s2))).mono ?_); rintro e wu ⟨rfl, hmu⟩; have hmW := Mod.trans (a := W7) (S := fun _ => False) (by (repeat first | exact Mod.refl _ _ | assumption | apply Mod.drew | apply Mod.drewN | apply Mod.alloc | (refine Mod.setCell ?_ (Or.inr (by (first | (with_reducible exact Nat.le_refl _) | ((try simp only [World.size_alloc, World.size_setCell, World.size_drew] at *); omega)))) _) | (refine Mod.trans ?_ (by assumption)))) hmu; have k0 := hmW.cell c80 (fun x => x); have k1 := hmW.cell c81 (fun x => x); have k2 := hmW.cell c82 (fun x => x); have j0 := hmW.cell cx0 (fun x => x); have j1 := hmW.cell cx1 (fun x => x); have j2 := hmW.cell cx2 (fun x => x)))
                        first | (refine hK _ _ ?_; clear hK K) | skip
                        refine wpAnyIn_take (i := 7) (v := ?_) rfl rfl (by kernel_rfl) (by kernel_rfl) (by kernel_rfl) (fun _ _ _ h => h) ⟨Or.inl ⟨by rfl, ?_⟩, fun _ => rfl⟩ ?_
                        rotate_left
                        · (intro w; go_simp; try with_reducible rfl)
                        refine wpAnyIn_take (i := 8) (v := ?_) rfl rfl (by kernel_rfl) (by kernel_rfl) (by kernel_rfl) (fun _ _ _ h => h) ⟨Or.inl ⟨by rfl, ?_⟩, fun _ => rfl⟩ ?_
                        rotate_left
                        · (intro w; go_simp; try with_reducible rfl)
                        refine wpAnyIn_take (i := 9) (v := ?_) rfl rfl (by kernel_rfl) (by kernel_rfl) (by kernel_rfl) (fun _ _ _ h => h) ⟨Or.inl ⟨by rfl, ?_⟩, fun _ => rfl⟩ ?_
                        rotate_left
                        · (intro w; go_simp; try with_reducible rfl)
                        refine wpAnyIn_take (i := 10) (v := ?_) rfl rfl (by kernel_rfl) (by kernel_rfl) (by kernel_rfl) (fun _ _ _ h => h) ⟨Or.inl ⟨by rfl, ?_⟩, fun _ => rfl⟩ ?_
                        rotate_left
                        · (intro w; go_simp; try with_reducible rfl)
                        refine wpAnyIn_done (by kernel_rfl) ?_ _
                        gi_wp2_with fail
                        gi_meet
                        case rel => exact ⟨congrArg (Value.int .u32) (shfg sv (a - sa) hC.1 hC.2), hmW⟩
                      exact AllReadyIn.nil
                    exact AllReadyIn.nil
                  exact AllReadyIn.nil
                refine AllReadyIn.cons rfl (fun K hK => ?_) ?_
                · go_simp
                  gi_wp2_with (first
          | (gi_at_call 29; (with_reducible refine ((callsIn_wide.2 (until_ok _ a 1 0 ha ha' (by omega) (by omega)))).mono ?_); rintro e wu ⟨rfl, hmu⟩; have hmW := Mod.trans (a := W7) (S := fun _ => False) (by (repeat first | exact Mod.refl _ _ | assumption | apply Mod.drew | apply Mod.drewN | apply Mod.alloc | (refine Mod.setCell ?_ (Or.inr (by (first | (with_reducible exact Nat.le_refl _) | ((try simp only [World.size_alloc, World.size_setCell, World.size_drew] at *); omega)))) _) | (refine Mod.trans ?_ (by assumption)))) hmu; have k0 := hmW.cell c80 (fun x => x); have k1 := hmW.cell c81 (fun x => x); have k2 := hmW.cell c82 (fun x => x); have j0 := hmW.cell cx0 (fun x => x); have j1 := hmW.cell cx1 (fun x => x); have j2 := hmW.cell cx2 (fun x => x))
          | (gi_at_call 29; (with_reducible refine ((callsIn_wide.2 (until_ok _ sa sw sv s1 s2 (by omega) (by omega)))).mono ?_); rintro e wu ⟨rfl, hmu⟩; have hmW := Mod.trans (a := W7) (S := fun _ => False) (by (repeat first | exact Mod.refl _ _ | assumption | apply Mod.drew | apply Mod.drewN | apply Mod.alloc | (refine Mod.setCell ?_ (Or.inr (by (first | (with_reducible exact Nat.le_refl _) | ((try simp only [World.size_alloc, World.size_setCell, World.size_drew] at *); omega)))) _) | (refine Mod.trans ?_ (by assumption)))) hmu; have k0 := hmW.cell c80 (fun x => x); have k1 := hmW.cell c81 (fun x => x); have k2 := hmW.cell c82 (fun x => x); have j0 := hmW.cell cx0 (fun x => x); have j1 := hmW.cell cx1 (fun x => x); have j2 := hmW.cell cx2 (fun x => x))
          | (gi_at_call 30; (with_reducible refine ((callsIn_wide.2 (from_ok _ a 1 0 ha ha'))).mono ?_); rintro e wu ⟨rfl, hmu⟩; have hmW := Mod.trans (a := W7) (S := fun _ => False) (by (repeat first | exact Mod.refl _ _ | assumption | apply Mod.drew | apply Mod.drewN | apply Mod.alloc | (refine Mod.setCell ?_ (Or.inr (by (first | (with_reducible exact Nat.le_refl _) | ((try simp only [World.size_alloc, World.size_setCell, World.size_drew] at *); omega)))) _) | (refine Mod.trans ?_ (by assumption)))) hmu; have k0 := hmW.cell c80 (fun x => x); have k1 := hmW.cell c81 (fun x => x); have k2 := hmW.cell c82 (fun x => x); have j0 := hmW.cell cx0 (fun x => x); have j1 := hmW.cell cx1 (fun x => x); have j2 := hmW.cell cx2 (fun x => x))
          | (gi_at_call 30; (with_reducible refine ((callsIn_wide.2 (from_ok _ sa sw sv s1 s2))).mono ?_); rintro e wu ⟨rfl, hmu⟩; have hmW := Mod.trans (a := W7) (S := fun _ => False) (by (repeat first | exact Mod.refl _ _ | assumption | apply Mod.drew | apply Mod.drewN | apply Mod.alloc | (refine Mod.setCell ?_ (Or.inr (by (first | (with_reducible exact Nat.le_refl _) | ((try simp only [World.size_alloc, World.size_setCell, World.size_drew] at *); omega)))) _) | (refine Mod.trans ?_ (by assumption)))) hmu; have k0 := hmW.cell c80 (fun x => x); have k1 := hmW.cell c81 (fun x => x); have k2 := hmW.cell c82 (fun x => x); have j0 := hmW.cell cx0 (fun x => x); have j1 := hmW.cell cx1 (fun x => x); have j2 := hmW.cell cx2 (fun x => x)))
                  first | (refine hK _ _ ?_; clear hK K) | skip
                  refine wpAnyIn_ready (rs := [2, 5]) (by kernel_rfl) (by simp) ?_
                  refine AllReadyIn.cons rfl (fun K hK => ?_) ?_
                  · go_simp
                    first | (refine hK _ _ ?_; clear hK K) | skip
                    refine wpAnyIn_ready (rs := [5]) (by kernel_rfl) (by simp) ?_
                    refine AllReadyIn.cons rfl (fun K hK => ?_) ?_
                    · go_simp
                      first | (refine hK _ _ ?_; clear hK K) | skip
                      refine wpAnyIn_ready (rs := [6]) (by kernel_rfl) (by simp) ?_
                      refine AllReadyIn.cons rfl (fun K hK => ?_) ?_
                      · go_simp
                        gi_wp2_with (first
          | (gi_at_call 29; (with_reducible refine ((callsIn_wide.2 (until_ok _ a 1 0 ha ha' (by omega) (by omega)))).mono ?_); rintro e wu ⟨rfl, hmu⟩; have hmW := Mod.trans (a := W7) (S := fun _ => False) (by (repeat first | exact Mod.refl _ _ | assumption | apply Mod.drew | apply Mod.drewN | apply Mod.alloc | (refine Mod.setCell ?_ (Or.inr (by (first | (with_reducible exact Nat.le_refl _) | ((try simp only [World.size_alloc, World.size_setCell, World.size_drew] at *); omega)))) _) | (refine Mod.trans ?_ (by assumption)))) hmu; have k0 := hmW.cell c80 (fun x => x); have k1 := hmW.cell c81 (fun x => x); have k2 := hmW.cell c82 (fun x => x); have j0 := hmW.cell cx0 (fun x => x); have j1 := hmW.cell cx1 (fun x => x); have j2 := hmW.cell cx2 (fun x => x))
          | (gi_at_call 29; (with_reducible refine ((callsIn_wide.2 (until_ok _ sa sw sv s1 s2 (by omega) (by omega)))).mono ?_); rintro e wu ⟨rfl, hmu⟩; have hmW := Mod.trans (a := W7) (S := fun _ => False) (by (repeat first | exact Mod.refl _ _ | assumption | apply Mod.drew | apply Mod.drewN | apply Mod.alloc | (refine Mod.setCell ?_ (Or.inr (by (first | (with_reducible exact Nat.le_refl _) | ((try simp only [World.size_alloc, World.size_setCell, World.size_drew] at *); omega)))) _) | (refine Mod.trans ?_ (by assumption)))) hmu; have k0 := hmW.cell c80 (fun x => x); have k1 := hmW.cell c81 (fun x => x); have k2 := hmW.cell c82 (fun x => x); have j0 := hmW.cell cx0 (fun x => x); have j1 := hmW.cell cx1 (fun x => x); have j2 := hmW.cell cx2 (fun x => x))
          | (gi_at_call 30; (with_reducible refine ((callsIn_wide.2 (from_ok _ a 1 0 ha ha'))).mono ?_); rintro e wu ⟨rfl, hmu⟩; have hmW := Mod.trans (a := W7) (S := fun _ => False) (by (repeat first | exact Mod.refl _ _ | assumption | apply Mod.drew | apply Mod.drewN | apply Mod.alloc | (refine Mod.setCell ?_ (Or.inr (by (first | (with_reducible exact Nat.le_refl _) | ((try simp only [World.size_alloc, World.size_setCell, World.size_drew] at *); omega)))) _) | (refine Mod.trans ?_ (by assumption)))) hmu; have k0 := hmW.cell c80 (fun x => x); have k1 := hmW.cell c81 (fun x => x); have k2 := hmW.cell c82 (fun x => x); have j0 := hmW.cell cx0 (fun x => x); have j1 := hmW.cell cx1 (fun x => x); have j2 := hmW.cell cx2 (fun x => x))
          | (gi_at_call 30; (with_reducible refine ((callsIn_wide.2 (from_ok _ sa sw sv s1 s2))).mono ?_); rintro e wu ⟨rfl, hmu⟩; have hmW := Mod.trans (a := W7) (S := fun _ => False) (by (repeat first | exact Mod.refl _ _ | assumption | apply Mod.drew | apply Mod.drewN | apply Mod.alloc | (refine Mod.setCell ?_ (Or.inr (by (first | (with_reducible exact Nat.le_refl _) | ((try simp only [World.size_alloc, World.size_setCell, World.size_drew] at *); omega)))) _) | (refine Mod.trans ?_ (by assumption)))) hmu; have k0 := hmW.cell c80 (fun x => x); have k1 := hmW.cell c81 (fun x => x); have k2 := hmW.cell c82 (fun x => x); have j0 := hmW.cell cx0 (fun x => x); have j1 := hmW.cell cx1 (fun x => x); have j2 := hmW.cell cx2 (fun x => x)))
                        first | (refine hK _ _ ?_; clear hK K) | skip
                        refine wpAnyIn_take (i := 7) (v := ?_) rfl rfl (by kernel_rfl) (by kernel_rfl) (by kernel_rfl) (fun _ _ _ h => h) ⟨Or.inl ⟨by rfl, ?_⟩, fun _ => rfl⟩ ?_
                        rotate_left
                        · (intro w; go_simp; try with_reducible rfl)
                        refine wpAnyIn_take (i := 8) (v := ?_) rfl rfl (by kernel_rfl) (by kernel_rfl) (by kernel_rfl) (fun _ _ _ h => h) ⟨Or.inl ⟨by rfl, ?_⟩, fun _ => rfl⟩ ?_
                        rotate_left
                        · (intro w; go_simp; try with_reducible rfl)
                        refine wpAnyIn_take (i := 9) (v := ?_) rfl rfl (by kernel_rfl) (by kernel_rfl) (by kernel_rfl) (fun _ _ _ h => h) ⟨Or.inl ⟨by rfl, ?_⟩, fun _ => rfl⟩ ?_
                        rotate_left
                        · (intro w; go_simp; try with_reducible rfl)
                        refine wpAnyIn_take (i := 10) (v := ?_) rfl rfl (by kernel_rfl) (by kernel_rfl) (by kernel_rfl) (fun _ _ _ h => h) ⟨Or.inl ⟨by rfl, ?_⟩, fun _ => rfl⟩ ?_
                        rotate_left
                        · (intro w; go_simp; try with_reducible rfl)
                        refine wpAnyIn_done (by kernel_rfl) ?_ _
                        gi_wp2_with fail
                        gi_meet
                        case rel => exact ⟨congrArg (Value.int .u32) (shfg sv (a - sa) hC.1 hC.2), hmW⟩
                      exact AllReadyIn.nil
                    exact AllReadyIn.nil
                  refine AllReadyIn.cons rfl (fun K hK => ?_) ?_
                  · go_simp
                    first | (refine hK _ _ ?_; clear hK K) | skip
                    refine wpAnyIn_ready (rs := [2, 6]) (by kernel_rfl) (by simp) ?_
                    refine AllReadyIn.cons rfl (fun K hK => ?_) ?_
                    · go_simp
                      first | (refine hK _ _ ?_; clear hK K) | skip
                      refine wpAnyIn_ready (rs := [6]) (by kernel_rfl) (by simp) ?_
                      refine AllReadyIn.cons rfl (fun K hK => ?_) ?_
                      · go_simp
                        gi_wp2_with (first
          | (gi_at_call 29; (with_reducible refine ((callsIn_wide.2 (until_ok _ a 1 0 ha ha' (by omega) (by omega)))).mono ?_); rintro e wu ⟨rfl, hmu⟩; have hmW := Mod.trans (a := W7) (S := fun _ => False) (by (repeat first | exact Mod.refl _ _ | assumption | apply Mod.drew | apply Mod.drewN | apply Mod.alloc | (refine Mod.setCell ?_ (Or.inr (by (first | (with_reducible exact Nat.le_refl _) | ((try simp only [World.size_alloc, World.size_setCell, World.size_drew] at *); omega)))) _) | (refine Mod.trans ?_ (by assumption)))) hmu; have k0 := hmW.cell c80 (fun x => x); have k1 := hmW.cell c81 (fun x => x); have k2 := hmW.cell c82 (fun x => x); have j0 := hmW.cell cx0 (fun x => x); have j1 := hmW.cell cx1 (fun x => x); have j2 := hmW.cell cx2 (fun x => x))
          | (gi_at_call 29; (with_reducible refine ((callsIn_wide.2 (until_ok _ sa sw sv s1 s2 (by omega) (by omega)))).mono ?_); rintro e wu ⟨rfl, hmu⟩; have hmW := Mod.trans (a := W7) (S := fun _ => False) (by (repeat first | exact Mod.refl _ _ | assumption | apply Mod.drew | apply Mod.drewN | apply Mod.alloc | (refine Mod.setCell ?_ (Or.inr (by (first | (with_reducible exact Nat.le_refl _) | ((try simp only [World.size_alloc, World.size_setCell, World.size_drew] at *); omega)))) _) | (refine Mod.trans ?_ (by assumption)))) hmu; have k0 := hmW.cell c80 (fun x => x); have k1 := hmW.cell c81 (fun x => x); have k2 := hmW.cell c82 (fun x => x); have j0 := hmW.cell cx0 (fun x => x); have j1 := hmW.cell cx1 (fun x => x); have j2 := hmW.cell cx2 (fun x => x))
          | (gi_at_call 30; (with_reducible refine ((callsIn_wide.2 (from_ok _ a 1 0 ha ha'))).mono ?_); rintro e wu ⟨rfl, hmu⟩; have hmW := Mod.trans (a := W7) (S := fun _ => False) (by (repeat first | exact Mod.refl _ _ | assumption | apply Mod.drew | apply Mod.drewN | apply Mod.alloc | (refine Mod.setCell ?_ (Or.inr (by (first | (with_reducible exact Nat.le_refl _) | ((try simp only [World.size_alloc, World.size_setCell, World.size_drew] at *); omega)))) _) | (refine Mod.trans ?_ (by assumption)))) hmu; have k0 := hmW.cell c80 (fun x => x); have k1 := hmW.cell c81 (fun x => x); have k2 := hmW.cell c82 (fun x => x); have j0 := hmW.cell cx0 (fun x => x); have j1 := hmW.cell cx1 (fun x => x); have j2 := hmW.cell cx2 (fun x => x))
          | (gi_at_call 30; (with_reducible refine ((callsIn_wide.2 (from_ok _ sa sw sv s1 s2))).mono ?_); rintro e wu ⟨rfl, hmu⟩; have hmW := Mod.trans (a := W7) (S := fun _ => False) (by (repeat first | exact Mod.refl _ _ | assumption | apply Mod.drew | apply Mod.drewN | apply Mod.alloc | (refine Mod.setCell ?_ (Or.inr (by (first | (with_reducible exact Nat.le_refl _) | ((try simp only [World.size_alloc, World.size_setCell, World.size_drew] at *); omega)))) _) | (refine Mod.trans ?_ (by assumption)))) hmu; have k0 := hmW.cell c80 (fun x => x); have k1 := hmW.cell c81 (fun x => x); have k2 := hmW.cell c82 (fun x => x); have j0 := hmW.cell cx0 (fun x => x); have j1 := hmW.cell cx1 (fun x => x); have j2 := hmW.cell cx2 (fun x => x)))
                        first | (refine hK _ _ ?_; clear hK K) | skip
                        refine wpAnyIn_take (i := 7) (v := ?_) rfl rfl (by kernel_rfl) (by kernel_rfl) (by kernel_rfl) (fun _ _ _ h => h) ⟨Or.inl ⟨by rfl, ?_⟩, fun _ => rfl⟩ ?_
                        rotate_left
                        · (intro w; go_simp; try with_reducible rfl)
                        refine wpAnyIn_take (i := 8) (v := ?_) rfl rfl (by kernel_rfl) (by kernel_rfl) (by kernel_rfl) (fun _ _ _ h => h) ⟨Or.inl ⟨by rfl, ?_⟩, fun _ => rfl⟩ ?_
                        rotate_left
                        · (intro w; go_simp; try with_reducible rfl)
                        refine wpAnyIn_take (i := 9) (v := ?_) rfl rfl (by kernel_rfl) (by kernel_rfl) (by kernel_rfl) (fun _ _ _ h => h) ⟨Or.inl ⟨by rfl, ?_⟩, fun _ => rfl⟩ ?_
                        rotate_left
                        · (intro w; go_simp; try with_reducible rfl)
                        refine wpAnyIn_take (i := 10) (v := ?_) rfl rfl (by kernel_rfl) (by kernel_rfl) (by kernel_rfl) (fun _ _ _ h => h) ⟨Or.inl ⟨by rfl, ?_⟩, fun _ => rfl⟩ ?_
                        rotate_left
                        · (intro w; go_simp; try with_reducible rfl)
                        refine wpAnyIn_done (by kernel_rfl) ?_ _
                        gi_wp2_with fail
                        gi_meet
                        case rel => exact ⟨congrArg (Value.int .u32) (shfg sv (a - sa) hC.1 hC.2), hmW⟩
                      exact AllReadyIn.nil
                    refine AllReadyIn.cons rfl (fun K hK => ?_) ?_
                    · go_simp
                      gi_wp2_with (first
          | (gi_at_call 29; (with_reducible refine ((callsIn_wide.2 (until_ok _ a 1 0 ha ha' (by omega) (by omega)))).mono ?_); rintro e wu ⟨rfl, hmu⟩; have hmW := Mod.trans (a := W7) (S := fun _ => False) (by (repeat first | exact Mod.refl _ _ | assumption | apply Mod.drew | apply Mod.drewN | apply Mod.alloc | (refine Mod.setCell ?_ (Or.inr (by (first | (with_reducible exact Nat.le_refl _) | ((try simp only [World.size_alloc, World.size_setCell, World.size_drew] at *); omega)))) _) | (refine Mod.trans ?_ (by assumption)))) hmu; have k0 := hmW.cell c80 (fun x => x); have k1 := hmW.cell c81 (fun x => x); have k2 := hmW.cell c82 (fun x => x); have j0 := hmW.cell cx0 (fun x => x); have j1 := hmW.cell cx1 (fun x => x); have j2 := hmW.cell cx2 (fun x => x))
          | (gi_at_call 29; (with_reducible refine ((callsIn_wide.2 (until_ok _ sa sw sv s1 s2 (by omega) (by omega)))).mono ?_); rintro e wu ⟨rfl, hmu⟩; have hmW := Mod.trans (a := W7) (S := fun _ => False) (by (repeat first | exact Mod.refl _ _ | assumption | apply Mod.drew | apply Mod.drewN | apply Mod.alloc | (refine Mod.setCell ?_ (Or.inr (by (first | (with_reducible exact Nat.le_refl _) | ((try simp only [World.size_alloc, World.size_setCell, World.size_drew] at *); omega)))) _) | (refine Mod.trans ?_ (by assumption)))) hmu; have k0 := hmW.cell c80 (fun x => x); have k1 := hmW.cell c81 (fun x => x); have k2 := hmW.cell c82 (fun x => x); have j0 := hmW.cell cx0 (fun x => x); have j1 := hmW.cell cx1 (fun x => x); have j2 := hmW.cell cx2 (fun x => x))
          | (gi_at_call 30; (with_reducible refine ((callsIn_wide.2 (from_ok _ a 1 0 ha ha'))).mono ?_); rintro e wu ⟨rfl, hmu⟩; have hmW := Mod.trans (a := W7) (S := fun _ => False) (by (repeat first | exact Mod.refl _ _ | assumption | apply Mod.drew | apply Mod.drewN | apply Mod.alloc | (refine Mod.setCell ?_ (Or.inr (by (first | (with_reducible exact Nat.le_refl _) | ((try simp only [World.size_alloc, World.size_setCell, World.size_drew] at *); omega)))) _) | (refine Mod.trans ?_ (by assumption)))) hmu; have k0 := hmW.cell c80 (fun x => x); have k1 := hmW.cell c81 (fun x => x); have k2 := hmW.cell c82 (fun x => x); have j0 := hmW.cell cx0 (fun x => x); have j1 := hmW.cell cx1 (fun x => x); have j2 := hmW.cell cx2 (fun x => x))
          | (gi_at_call 30; (with_reducible refine ((callsIn_wide.2 (from_ok _ sa sw sv s1 s2))).mono ?_); rintro e wu ⟨rfl, hmu⟩; have hmW := Mod.trans (a := W7) (S := fun _ => False) (by (repeat first | exact Mod.refl _ _ | assumption | apply Mod.drew | apply Mod.drewN | apply Mod.alloc | (refine Mod.setCell ?_ (Or.inr (by (first | (with_reducible exact Nat.le_refl _) | ((try simp only [World.size_alloc, World.size_setCell, World.size_drew] at *); omega)))) _) | (refine Mod.trans ?_ (by assumption)))) hmu; have k0 := hmW.cell c80 (fun x => x); have k1 := hmW.cell c81 (fun x => x); have k2 := hmW.cell c82 (fun x => x); have j0 := hmW.cell cx0 (fun x => x); have j1 := hmW.cell cx1 (fun x => x); have j2 := hmW.cell cx2 (fun x => x)))
                      first | (refine hK _ _ ?_; clear hK K) | skip
                      refine wpAnyIn_take (i := 7) (v := ?_) rfl rfl (by kernel_rfl) (by kernel_rfl) (by kernel_rfl) (fun _ _ _ h => h) ⟨Or.inl ⟨by rfl, ?_⟩, fun _ => rfl⟩ ?_
                      rotate_left
                      · (intro w; go_simp; try with_reducible rfl)
                      refine wpAnyIn_take (i := 8) (v := ?_) rfl rfl (by kernel_rfl) (by kernel_rfl) (by kernel_rfl) (fun _ _ _ h => h) ⟨Or.inl ⟨by rfl, ?_⟩, fun _ => rfl⟩ ?_
                      rotate_left
                      · (intro w; go_simp; try with_reducible rfl)
                      refine wpAnyIn_ready (rs := [2]) (by kernel_rfl) (by simp) ?_
                      refine AllReadyIn.cons rfl (fun K hK => ?_) ?_
                      · go_simp
                        first | (refine hK _ _ ?_; clear hK K) | skip
                        refine wpAnyIn_take (i := 9) (v := ?_) rfl rfl (by kernel_rfl) (by kernel_rfl) (by kernel_rfl) (fun _ _ _ h => h) ⟨Or.inl ⟨by rfl, ?_⟩, fun _ => rfl⟩ ?_
                        rotate_left
                        · (intro w; go_simp; try with_reducible rfl)
                        refine wpAnyIn_take (i := 10) (v := ?_) rfl rfl (by kernel_rfl) (by kernel_rfl) (by kernel_rfl) (fun _ _ _ h => h) ⟨Or.inl ⟨by rfl, ?_⟩, fun _ => rfl⟩ ?_
                        rotate_left
                        · (intro w; go_simp; try with_reducible rfl)
                        refine wpAnyIn_done (by kernel_rfl) ?_ _
                        gi_wp2_with fail
                        gi_meet
                        case rel => exact ⟨congrArg (Value.int .u32) (shfg sv (a - sa) hC.1 hC.2), hmW⟩
                      exact AllReadyIn.nil
                    exact AllReadyIn.nil
                  exact AllReadyIn.nil
                refine AllReadyIn.cons rfl (fun K hK => ?_) ?_
                · go_simp
                  first | (refine hK _ _ ?_; clear hK K) | skip
                  refine wpAnyIn_ready (rs := [2, 4]) (by kernel_rfl) (by simp) ?_
                  refine AllReadyIn.cons rfl (fun K hK => ?_) ?_
                  · go_simp
                    first | (refine hK _ _ ?_; clear hK K) | skip
                    refine wpAnyIn_ready (rs := [4]) (by kernel_rfl) (by simp) ?_
                    refine AllReadyIn.cons rfl (fun K hK => ?_) ?_
                    · go_simp
                      gi_wp2_with (first
          | (gi_at_call 29; (with_reducible refine ((callsIn_wide.2 (until_ok _ a 1 0 ha ha' (by omega) (by omega)))).mono ?_); rintro e wu ⟨rfl, hmu⟩; have hmW := Mod.trans (a := W7) (S := fun _ => False) (by (repeat first | exact Mod.refl _ _ | assumption | apply Mod.drew | apply Mod.drewN | apply Mod.alloc | (refine Mod.setCell ?_ (Or.inr (by (first | (with_reducible exact Nat.le_refl _) | ((try simp only [World.size_alloc, World.size_setCell, World.size_drew] at *); omega)))) _) | (refine Mod.trans ?_ (by assumption)))) hmu; have k0 := hmW.cell c80 (fun x => x); have k1 := hmW.cell c81 (fun x => x); have k2 := hmW.cell c82 (fun x => x); have j0 := hmW.cell cx0 (fun x => x); have j1 := hmW.cell cx1 (fun x => x); have j2 := hmW.cell cx2 (fun x => x))
          | (gi_at_call 29; (with_reducible refine ((callsIn_wide.2 (until_ok _ sa sw sv s1 s2 (by omega) (by omega)))).mono ?_); rintro e wu ⟨rfl, hmu⟩; have hmW := Mod.trans (a := W7) (S := fun _ => False) (by (repeat first | exact Mod.refl _ _ | assumption | apply Mod.drew | apply Mod.drewN | apply Mod.alloc | (refine Mod.setCell ?_ (Or.inr (by (first | (with_reducible exact Nat.le_refl _) | ((try simp only [World.size_alloc, World.size_setCell, World.size_drew] at *); omega)))) _) | (refine Mod.trans ?_ (by assumption)))) hmu; have k0 := hmW.cell c80 (fun x => x); have k1 := hmW.cell c81 (fun x => x); have k2 := hmW.cell c82 (fun x => x); have j0 := hmW.cell cx0 (fun x => x); have j1 := hmW.cell cx1 (fun x => x); have j2 := hmW.cell cx2 (fun x => x))
          | (gi_at_call 30; (with_reducible refine ((callsIn_wide.2 (from_ok _ a 1 0 ha ha'))).mono ?_); rintro e wu ⟨rfl, hmu⟩; have hmW := Mod.trans (a := W7) (S := fun _ => False) (by (repeat first | exact Mod.refl _ _ | assumption | apply Mod.drew | apply Mod.drewN | apply Mod.alloc | (refine Mod.setCell ?_ (Or.inr (by (first | (with_reducible exact Nat.le_refl _) | ((try simp only [World.size_alloc, World.size_setCell, World.size_drew] at *); omega)))) _) | (refine Mod.trans ?_ (by assumption)))) hmu; have k0 := hmW.cell c80 (fun x => x); have k1 := hmW.cell c81 (fun x => x); have k2 := hmW.cell c82 (fun x => x); have j0 := hmW.cell cx0 (fun x => x); have j1 := hmW.cell cx1 (fun x => x); have j2 := hmW.cell cx2 (fun x => x))
          | (gi_at_call 30; (with_reducible refine ((callsIn_wide.2 (from_ok _ sa sw sv s1 s2))).mono ?_); rintro e wu ⟨rfl, hmu⟩; have hmW := Mod.trans (a := W7) (S := fun _ => False) (by (repeat first | exact Mod.refl _ _ | assumption | apply Mod.drew | apply Mod.drewN | apply Mod.alloc | (refine Mod.setCell ?_ (Or.inr (by (first | (with_reducible exact Nat.le_refl _) | ((try simp only [World.size_alloc, World.size_setCell, World.size_drew] at *); omega)))) _) | (refine Mod.trans ?_ (by assumption)))) hmu; have k0 := hmW.cell c80 (fun x => x); have k1 := hmW.cell c81 (fun x => x); have k2 := hmW.cell c82 (fun x => x); have j0 := hmW.cell cx0 (fun x => x); have j1 := hmW.cell cx1 (fun x => x); have j2 := hmW.cell cx2 (fun x => x)))
                      first | (refine hK _ _ ?_; clear hK K) | skip
                      refine wpAnyIn_ready (rs := [6]) (by kernel_rfl) (by simp) ?_
                      refine AllReadyIn.cons rfl (fun K hK => ?_) ?_
                      · go_simp
                        gi_wp2_with (first
          | (gi_at_call 29; (with_reducible refine ((callsIn_wide.2 (until_ok _ a 1 0 ha ha' (by omega) (by omega)))).mono ?_); rintro e wu ⟨rfl, hmu⟩; have hmW := Mod.trans (a := W7) (S := fun _ => False) (by (repeat first | exact Mod.refl _ _ | assumption | apply Mod.drew | apply Mod.drewN | apply Mod.alloc | (refine Mod.setCell ?_ (Or.inr (by (first | (with_reducible exact Nat.le_refl _) | ((try simp only [World.size_alloc, World.size_setCell, World.size_drew] at *); omega)))) _) | (refine Mod.trans ?_ (by assumption)))) hmu; have k0 := hmW.cell c80 (fun x => x); have k1 := hmW.cell c81 (fun x => x); have k2 := hmW.cell c82 (fun x => x); have j0 := hmW.cell cx0 (fun x => x); have j1 := hmW.cell cx1 (fun x => x); have j2 := hmW.cell cx2 (fun x => x))
          | (gi_at_call 29; (with_reducible refine ((callsIn_wide.2 (until_ok _ sa sw sv s1 s2 (by omega) (by omega)))).mono ?_); rintro e wu ⟨rfl, hmu⟩; have hmW := Mod.trans (a := W7) (S := fun _ => False) (by (repeat first | exact Mod.refl _ _ | assumption | apply Mod.drew | apply Mod.drewN | apply Mod.alloc | (refine Mod.setCell ?_ (Or.inr (by (first | (with_reducible exact Nat.le_refl _) | ((try simp only [World.size_alloc, World.size_setCell, World.size_drew] at *); omega)))) _) | (refine Mod.trans ?_ (by assumption)))) hmu; have k0 := hmW.cell c80 (fun x => x); have k1 := hmW.cell c81 (fun x => x); have k2 := hmW.cell c82 (fun x => x); have j0 := hmW.cell cx0 (fun x => x); have j1 := hmW.cell cx1 (fun x => x); have j2 := hmW.cell cx2 (fun x => x))
          | (gi_at_call 30; (with_reducible refine ((callsIn_wide.2 (from_ok _ a 1 0 ha ha'))).mono ?_); rintro e wu ⟨rfl, hmu⟩; have hmW := Mod.trans (a := W7) (S := fun _ => False) (by (repeat first | exact Mod.refl _ _ | assumption | apply Mod.drew | apply Mod.drewN | apply Mod.alloc | (refine Mod.setCell ?_ (Or.inr (by (first | (with_reducible exact Nat.le_refl _) | ((try simp only [World.size_alloc, World.size_setCell, World.size_drew] at *); omega)))) _) | (refine Mod.trans ?_ (by assumption)))) hmu; have k0 := hmW.cell c80 (fun x => x); have k1 := hmW.cell c81 (fun x => x); have k2 := hmW.cell c82 (fun x => x); have j0 := hmW.cell cx0 (fun x => x); have j1 := hmW.cell cx1 (fun x => x); have j2 := hmW.cell cx2 (fun x => x))
          | (gi_at_call 30; (with_reducible refine ((callsIn_wide.2 (from_ok _ sa sw sv s1 s2))).mono ?_); rintro e wu ⟨rfl, hmu⟩; have hmW := Mod.trans (a := W7) (S := fun _ => False) (by (repeat first | exact Mod.refl _ _ | assumption | apply Mod.drew | apply Mod.drewN | apply Mod.alloc | (refine Mod.setCell ?_ (Or.inr (by (first | (with_reducible exact Nat.le_refl _) | ((try simp only [World.size_alloc, World.size_setCell, World.size_drew] at *); omega)))) _) | (refine Mod.trans ?_ (by assumption)))) hmu; have k0 := hmW.cell c80 (fun x => x); have k1 := hmW.cell c81 (fun x => x); have k2 := hmW.cell c82 (fun x => x); have j0 := hmW.cell cx0 (fun x => x); have j1 := hmW.cell cx1 (fun x => x); have j2 := hmW.cell cx2 (fun x => x)))
                        first | (refine hK _ _ ?_; clear hK K) | skip
                        refine wpAnyIn_take (i := 7) (v := ?_) rfl rfl (by kernel_rfl) (by kernel_rfl) (by kernel_rfl) (fun _ _ _ h => h) ⟨Or.inl ⟨by rfl, ?_⟩, fun _ => rfl⟩ ?_
                        rotate_left
                        · (intro w; go_simp; try with_reducible rfl)
                        refine wpAnyIn_take (i := 8) (v := ?_) rfl rfl (by kernel_rfl) (by kernel_rfl) (by kernel_rfl) (fun _ _ _ h => h) ⟨Or.inl ⟨by rfl, ?_⟩, fun _ => rfl⟩ ?_
                        rotate_left
                        · (intro w; go_simp; try with_reducible rfl)
                        refine wpAnyIn_take (i := 9) (v := ?_) rfl rfl (by kernel_rfl) (by kernel_rfl) (by kernel_rfl) (fun _ _ _ h => h) ⟨Or.inl ⟨by rfl, ?_⟩, fun _ => rfl⟩ ?_
                        rotate_left
                        · (intro w; go_simp; try with_reducible rfl)
                        refine wpAnyIn_take (i := 10) (v := ?_) rfl rfl (by kernel_rfl) (by kernel_rfl) (by kernel_rfl) (fun _ _ _ h => h) ⟨Or.inl ⟨by rfl, ?_⟩, fun _ => rfl⟩ ?_
                        rotate_left
                        · (intro w; go_simp; try with_reducible rfl)
                        refine wpAnyIn_done (by kernel_rfl) ?_ _
                        gi_wp2_with fail
                        gi_meet
                        case rel => exact ⟨congrArg (Value.int .u32) (shfg sv (a - sa) hC.1 hC.2), hmW⟩
                      exact AllReadyIn.nil
                    exact AllReadyIn.nil
                  refine AllReadyIn.cons rfl (fun K hK => ?_) ?_
                  · go_simp
                    gi_wp2_with (first
          | (gi_at_call 29; (with_reducible refine ((callsIn_wide.2 (until_ok _ a 1 0 ha ha' (by omega) (by omega)))).mono ?_); rintro e wu ⟨rfl, hmu⟩; have hmW := Mod.trans (a := W7) (S := fun _ => False) (by (repeat first | exact Mod.refl _ _ | assumption | apply Mod.drew | apply Mod.drewN | apply Mod.alloc | (refine Mod.setCell ?_ (Or.inr (by (first | (with_reducible exact Nat.le_refl _) | ((try simp only [World.size_alloc, World.size_setCell, World.size_drew] at *); omega)))) _) | (refine Mod.trans ?_ (by assumption)))) hmu; have k0 := hmW.cell c80 (fun x => x); have k1 := hmW.cell c81 (fun x => x); have k2 := hmW.cell c82 (fun x => x); have j0 := hmW.cell cx0 (fun x => x); have j1 := hmW.cell cx1 (fun x => x); have j2 := hmW.cell cx2 (fun x => x))
          | (gi_at_call 29; (with_reducible refine ((callsIn_wide.2 (until_ok _ sa sw sv s1 s2 (by omega) (by omega)))).mono ?_); rintro e wu ⟨rfl, hmu⟩; have hmW := Mod.trans (a := W7) (S := fun _ => False) (by (repeat first | exact Mod.refl _ _ | assumption | apply Mod.drew | apply Mod.drewN | apply Mod.alloc | (refine Mod.setCell ?_ (Or.inr (by (first | (with_reducible exact Nat.le_refl _) | ((try simp only [World.size_alloc, World.size_setCell, World.size_drew] at *); omega)))) _) | (refine Mod.trans ?_ (by assumption)))) hmu; have k0 := hmW.cell c80 (fun x => x); have k1 := hmW.cell c81 (fun x => x); have k2 := hmW.cell c82 (fun x => x); have j0 := hmW.cell cx0 (fun x => x); have j1 := hmW.cell cx1 (fun x => x); have j2 := hmW.cell cx2 (fun x => x))
          | (gi_at_call 30; (with_reducible refine ((callsIn_wide.2 (from_ok _ a 1 0 ha ha'))).mono ?_); rintro e wu ⟨rfl, hmu⟩; have hmW := Mod.trans (a := W7) (S := fun _ => False) (by (repeat first | exact Mod.refl _ _ | assumption | apply Mod.drew | apply Mod.drewN | apply Mod.alloc | (refine Mod.setCell ?_ (Or.inr (by (first | (with_reducible exact Nat.le_refl _) | ((try simp only [World.size_alloc, World.size_setCell, World.size_drew] at *); omega)))) _) | (refine Mod.trans ?_ (by assumption)))) hmu; have k0 := hmW.cell c80 (fun x => x); have k1 := hmW.cell c81 (fun x => x); have k2 := hmW.cell c82 (fun x => x); have j0 := hmW.cell cx0 (fun x => x); have j1 := hmW.cell cx1 (fun x => x); have j2 := hmW.cell cx2 (fun x => x))
          | (gi_at_call 30; (with_reducible refine ((callsIn_wide.2 (from_ok _ sa sw sv s1 s2))).mono ?_); rintro e wu ⟨rfl, hmu⟩; have hmW := Mod.trans (a := W7) (S := fun _ => False) (by (repeat first | exact Mod.refl _ _ | assumption | apply Mod.drew | apply Mod.drewN | apply Mod.alloc | (refine Mod.setCell ?_ (Or.inr (by (first | (with_reducible exact Nat.le_refl _) | ((try simp only [World.size_alloc, World.size_setCell, World.size_drew] at *); omega)))) _) | (refine Mod.trans ?_ (by assumption)))) hmu; have k0 := hmW.cell c80 (fun x => x); have k1 := hmW.cell c81 (fun x => x); have k2 := hmW.cell c82 (fun x => x); have j0 := hmW.cell cx0 (fun x => x); have j1 := hmW.cell cx1 (fun x => x); have j2 := hmW.cell cx2 (fun x => x)))
                    first | (refine hK _ _ ?_; clear hK K) | skip
                    refine wpAnyIn_ready (rs := [2, 6]) (by kernel_rfl) (by simp) ?_
                    refine AllReadyIn.cons rfl (fun K hK => ?_) ?_
                    · go_simp
                      first | (refine hK _ _ ?_; clear hK K) | skip
                      refine wpAnyIn_ready (rs := [6]) (by kernel_rfl) (by simp) ?_
                      refine AllReadyIn.cons rfl (fun K hK => ?_) ?_
                      · go_simp
                        gi_wp2_with (first
          | (gi_at_call 29; (with_reducible refine ((callsIn_wide.2 (until_ok _ a 1 0 ha ha' (by omega) (by omega)))).mono ?_); rintro e wu ⟨rfl, hmu⟩; have hmW := Mod.trans (a := W7) (S := fun _ => False) (by (repeat first | exact Mod.refl _ _ | assumption | apply Mod.drew | apply Mod.drewN | apply Mod.alloc | (refine Mod.setCell ?_ (Or.inr (by (first | (with_reducible exact Nat.le_refl _) | ((try simp only [World.size_alloc, World.size_setCell, World.size_drew] at *); omega)))) _) | (refine Mod.trans ?_ (by assumption)))) hmu; have k0 := hmW.cell c80 (fun x => x); have k1 := hmW.cell c81 (fun x => x); have k2 := hmW.cell c82 (fun x => x); have j0 := hmW.cell cx0 (fun x => x); have j1 := hmW.cell cx1 (fun x => x); have j2 := hmW.cell cx2 (fun x => x))
          | (gi_at_call 29; (with_reducible refine ((callsIn_wide.2 (until_ok _ sa sw sv s1 s2 (by omega) (by omega)))).mono ?_); rintro e wu ⟨rfl, hmu⟩; have hmW := Mod.trans (a := W7) (S := fun _ => False) (by (repeat first | exact Mod.refl _ _ | assumption | apply Mod.drew | apply Mod.drewN | apply Mod.alloc | (refine Mod.setCell ?_ (Or.inr (by (first | (with_reducible exact Nat.le_refl _) | ((try simp only [World.size_alloc, World.size_setCell, World.size_drew] at *); omega)))) _) | (refine Mod.trans ?_ (by assumption)))) hmu; have k0 := hmW.cell c80 (fun x => x); have k1 := hmW.cell c81 (fun x => x); have k2 := hmW.cell c82 (fun x => x); have j0 := hmW.cell cx0 (fun x => x); have j1 := hmW.cell cx1 (fun x => x); have j2 := hmW.cell cx2 (fun x => x))
          | (gi_at_call 30; (with_reducible refine ((callsIn_wide.2 (from_ok _ a 1 0 ha ha'))).mono ?_); rintro e wu ⟨rfl, hmu⟩; have hmW := Mod.trans (a := W7) (S := fun _ => False) (by (repeat first | exact Mod.refl _ _ | assumption | apply Mod.drew | apply Mod.drewN | apply Mod.alloc | (refine Mod.setCell ?_ (Or.inr (by (first | (with_reducible exact Nat.le_refl _) | ((try simp only [World.size_alloc, World.size_setCell, World.size_drew] at *); omega)))) _) | (refine Mod.trans ?_ (by assumption)))) hmu; have k0 := hmW.cell c80 (fun x => x); have k1 := hmW.cell c81 (fun x => x); have k2 := hmW.cell c82 (fun x => x); have j0 := hmW.cell cx0 (fun x => x); have j1 := hmW.cell cx1 (fun x => x); have j2 := hmW.cell cx2 (fun x => x))
          | (gi_at_call 30; (with_reducible refine ((callsIn_wide.2 (from_ok _ sa sw sv s1 s2))).mono ?_); rintro e wu ⟨rfl, hmu⟩; have hmW := Mod.trans (a := W7) (S := fun _ => False) (by (repeat first | exact Mod.refl _ _ | assumption | apply Mod.drew | apply Mod.drewN | apply Mod.alloc | (refine Mod.setCell ?_ (Or.inr (by (first | (with_reducible exact Nat.le_refl _) | ((try simp only [World.size_alloc, World.size_setCell, World.size_drew] at *); omega)))) _) | (refine Mod.trans ?_ (by assumption)))) hmu; have k0 := hmW.cell c80 (fun x => x); have k1 := hmW.cell c81 (fun x => x); have k2 := hmW.cell c82 (fun x => x); have j0 := hmW.cell cx0 (fun x => x); have j1 := hmW.cell cx1 (fun x => x); have j2 := hmW.cell cx2 (fun x => x)))
                        first | (refine hK _ _ ?_; clear hK K) | skip
                        refine wpAnyIn_take (i := 7) (v := ?_) rfl rfl (by kernel_rfl) (by kernel_rfl) (by kernel_rfl) (fun _ _ _ h => h) ⟨Or.inl ⟨by rfl, ?_⟩, fun _ => rfl⟩ ?_
                        rotate_left
                        · (intro w; go_simp; try with_reducible rfl)
                        refine wpAnyIn_take (i := 8) (v := ?_) rfl rfl (by kernel_rfl) (by kernel_rfl) (by kernel_rfl) (fun _ _ _ h => h) ⟨Or.inl ⟨by rfl, ?_⟩, fun _ => rfl⟩ ?_
                        rotate_left
                        · (intro w; go_simp; try with_reducible rfl)
                        refine wpAnyIn_take (i := 9) (v := ?_) rfl rfl (by kernel_rfl) (by kernel_rfl) (by kernel_rfl) (fun _ _ _ h => h) ⟨Or.inl ⟨by rfl, ?_⟩, fun _ => rfl⟩ ?_
                        rotate_left
                        · (intro w; go_simp; try with_reducible rfl)
                        refine wpAnyIn_take (i := 10) (v := ?_) rfl rfl (by kernel_rfl) (by kernel_rfl) (by kernel_rfl) (fun _ _ _ h => h) ⟨Or.inl ⟨by rfl, ?_⟩, fun _ => rfl⟩ ?_
                        rotate_left
                        · (intro w; go_simp; try with_reducible rfl)
                        refine wpAnyIn_done (by kernel_rfl) ?_ _
                        gi_wp2_with fail
                        gi_meet
                        case rel => exact ⟨congrArg (Value.int .u32) (shfg sv (a - sa) hC.1 hC.2), hmW⟩
                      exact AllReadyIn.nil
                    refine AllReadyIn.cons rfl (fun K hK => ?_) ?_
                    · go_simp
                      gi_wp2_with (first
          | (gi_at_call 29; (with_reducible refine ((callsIn_wide.2 (until_ok _ a 1 0 ha ha' (by omega) (by omega)))).mono ?_); rintro e wu ⟨rfl, hmu⟩; have hmW := Mod.trans (a := W7) (S := fun _ => False) (by (repeat first | exact Mod.refl _ _ | assumption | apply Mod.drew | apply Mod.drewN | apply Mod.alloc | (refine Mod.setCell ?_ (Or.inr (by (first | (with_reducible exact Nat.le_refl _) | ((try simp only [World.size_alloc, World.size_setCell, World.size_drew] at *); omega)))) _) | (refine Mod.trans ?_ (by assumption)))) hmu; have k0 := hmW.cell c80 (fun x => x); have k1 := hmW.cell c81 (fun x => x); have k2 := hmW.cell c82 (fun x => x); have j0 := hmW.cell cx0 (fun x => x); have j1 := hmW.cell cx1 (fun x => x); have j2 := hmW.cell cx2 (fun x => x))
          | (gi_at_call 29; (with_reducible refine ((callsIn_wide.2 (until_ok _ sa sw sv s1 s2 (by omega) (by omega)))).mono ?_); rintro e wu ⟨rfl, hmu⟩; have hmW := Mod.trans (a := W7) (S := fun _ => False) (by (repeat first | exact Mod.refl _ _ | assumption | apply Mod.drew | apply Mod.drewN | apply Mod.alloc | (refine Mod.setCell ?_ (Or.inr (by (first | (with_reducible exact Nat.le_refl _) | ((try simp only [World.size_alloc, World.size_setCell, World.size_drew] at *); omega)))) _) | (refine Mod.trans ?_ (by assumption)))) hmu; have k0 := hmW.cell c80 (fun x => x); have k1 := hmW.cell c81 (fun x => x); have k2 := hmW.cell c82 (fun x => x); have j0 := hmW.cell cx0 (fun x => x); have j1 := hmW.cell cx1 (fun x => x); have j2 := hmW.cell cx2 (fun x => x))
          | (gi_at_call 30; (with_reducible refine ((callsIn_wide.2 (from_ok _ a 1 0 ha ha'))).mono ?_); rintro e wu ⟨rfl, hmu⟩; have hmW := Mod.trans (a := W7) (S := fun _ => False) (by (repeat first | exact Mod.refl _ _ | assumption | apply Mod.drew | apply Mod.drewN | apply Mod.alloc | (refine Mod.setCell ?_ (Or.inr (by (first | (with_reducible exact Nat.le_refl _) | ((try simp only [World.size_alloc, World.size_setCell, World.size_drew] at *); omega)))) _) | (refine Mod.trans ?_ (by assumption)))) hmu; have k0 := hmW.cell c80 (fun x => x); have k1 := hmW.cell c81 (fun x => x); have k2 := hmW.cell c82 (fun x => x); have j0 := hmW.cell cx0 (fun x => x); have j1 := hmW.cell cx1 (fun x => x); have j2 := hmW.cell cx2 (fun x => x))
          | (gi_at_call 30; (with_reducible refine ((callsIn_wide.2 (from_ok _ sa sw sv s1 s2))).mono ?_); rintro e wu ⟨rfl, hmu⟩; have hmW := Mod.trans (a := W7) (S := fun _ => False) (by (repeat first | exact Mod.refl _ _ | assumption | apply Mod.drew | apply Mod.drewN | apply Mod.alloc | (refine Mod.setCell ?_ (Or.inr (by (first | (with_reducible exact Nat.le_refl _) | ((try simp only [World.size_alloc, World.size_setCell, World.size_drew] at *); omega)))) _) | (refine Mod.trans ?_ (by assumption)))) hmu; have k0 := hmW.cell c80 (fun x => x); have k1 := hmW.cell c81 (fun x => x); have k2 := hmW.cell c82 (fun x => x); have j0 := hmW.cell cx0 (fun x => x); have j1 := hmW.cell cx1 (fun x => x); have j2 := hmW.cell cx2 (fun x => x)))
                      first | (refine hK _ _ ?_; clear hK K) | skip
                      refine wpAnyIn_take (i := 7) (v := ?_) rfl rfl (by kernel_rfl) (by kernel_rfl) (by kernel_rfl) (fun _ _ _ h => h) ⟨Or.inl ⟨by rfl, ?_⟩, fun _ => rfl⟩ ?_
                      rotate_left
                      · (intro w; go_simp; try with_reducible rfl)
                      refine wpAnyIn_take (i := 8) (v := ?_) rfl rfl (by kernel_rfl) (by kernel_rfl) (by kernel_rfl) (fun _ _ _ h => h) ⟨Or.inl ⟨by rfl, ?_⟩, fun _ => rfl⟩ ?_
                      rotate_left
                      · (intro w; go_simp; try with_reducible rfl)
                      refine wpAnyIn_ready (rs := [2]) (by kernel_rfl) (by simp) ?_
                      refine AllReadyIn.cons rfl (fun K hK => ?_) ?_
                      · go_simp
                        first | (refine hK _ _ ?_; clear hK K) | skip
                        refine wpAnyIn_take (i := 9) (v := ?_) rfl rfl (by kernel_rfl) (by kernel_rfl) (by kernel_rfl) (fun _ _ _ h => h) ⟨Or.inl ⟨by rfl, ?_⟩, fun _ => rfl⟩ ?_
                        rotate_left
                        · (intro w; go_simp; try with_reducible rfl)
                        refine wpAnyIn_take (i := 10) (v := ?_) rfl rfl (by kernel_rfl) (by kernel_rfl) (by kernel_rfl) (fun _ _ _ h => h) ⟨Or.inl ⟨by rfl, ?_⟩, fun _ => rfl⟩ ?_
                        rotate_left
                        · (intro w; go_simp; try with_reducible rfl)
                        refine wpAnyIn_done (by kernel_rfl) ?_ _
                        gi_wp2_with fail
                        gi_meet
                        case rel => exact ⟨congrArg (Value.int .u32) (shfg sv (a - sa) hC.1 hC.2), hmW⟩
                      exact AllReadyIn.nil
                    exact AllReadyIn.nil
                  exact AllReadyIn.nil
                exact AllReadyIn.nil
              refine AllReadyIn.cons rfl (fun K hK => ?_) ?_
              · go_simp
                first | (refine hK _ _ ?_; clear hK K) | skip
                refine wpAnyIn_ready (rs := [2, 3]) (by kernel_rfl) (by simp) ?_
                refine AllReadyIn.cons rfl (fun K hK => ?_) ?_
                · go_simp
                  first | (refine hK _ _ ?_; clear hK K) | skip
                  refine wpAnyIn_ready (rs := [3]) (by kernel_rfl) (by simp) ?_
                  refine AllReadyIn.cons rfl (fun K hK => ?_) ?_
                  · go_simp
                    first | (refine hK _ _ ?_; clear hK K) | skip
                    refine wpAnyIn_ready (rs := [4]) (by kernel_rfl) (by simp) ?_
                    refine AllReadyIn.cons rfl (fun K hK => ?_) ?_
                    · go_simp
                      gi_wp2_with (first
          | (gi_at_call 29; (with_reducible refine ((callsIn_wide.2 (until_ok _ a 1 0 ha ha' (by omega) (by omega)))).mono ?_); rintro e wu ⟨rfl, hmu⟩; have hmW := Mod.trans (a := W7) (S := fun _ => False) (by (repeat first | exact Mod.refl _ _ | assumption | apply Mod.drew | apply Mod.drewN | apply Mod.alloc | (refine Mod.setCell ?_ (Or.inr (by (first | (with_reducible exact Nat.le_refl _) | ((try simp only [World.size_alloc, World.size_setCell, World.size_drew] at *); omega)))) _) | (refine Mod.trans ?_ (by assumption)))) hmu; have k0 := hmW.cell c80 (fun x => x); have k1 := hmW.cell c81 (fun x => x); have k2 := hmW.cell c82 (fun x => x); have j0 := hmW.cell cx0 (fun x => x); have j1 := hmW.cell cx1 (fun x => x); have j2 := hmW.cell cx2 (fun x => x))
          | (gi_at_call 29; (with_reducible refine ((callsIn_wide.2 (until_ok _ sa sw sv s1 s2 (by omega) (by omega)))).mono ?_); rintro e wu ⟨rfl, hmu⟩; have hmW := Mod.trans (a := W7) (S := fun _ => False) (by (repeat first | exact Mod.refl _ _ | assumption | apply Mod.drew | apply Mod.drewN | apply Mod.alloc | (refine Mod.setCell ?_ (Or.inr (by (first | (with_reducible exact Nat.le_refl _) | ((try simp only [World.size_alloc, World.size_setCell, World.size_drew] at *); omega)))) _) | (refine Mod.trans ?_ (by assumption)))) hmu; have k0 := hmW.cell c80 (fun x => x); have k1 := hmW.cell c81 (fun x => x); have k2 := hmW.cell c82 (fun x => x); have j0 := hmW.cell cx0 (fun x => x); have j1 := hmW.cell cx1 (fun x => x); have j2 := hmW.cell cx2 (fun x => x))
          | (gi_at_call 30; (with_reducible refine ((callsIn_wide.2 (from_ok _ a 1 0 ha ha'))).mono ?_); rintro e wu ⟨rfl, hmu⟩; have hmW := Mod.trans (a := W7) (S := fun _ => False) (by (repeat first | exact Mod.refl _ _ | assumption | apply Mod.drew | apply Mod.drewN | apply Mod.alloc | (refine Mod.setCell ?_ (Or.inr (by (first | (with_reducible exact Nat.le_refl _) | ((try simp only [World.size_alloc, World.size_setCell, World.size_drew] at *); omega)))) _) | (refine Mod.trans ?_ (by assumption)))) hmu; have k0 := hmW.cell c80 (fun x => x); have k1 := hmW.cell c81 (fun x => x); have k2 := hmW.cell c82 (fun x => x); have j0 := hmW.cell cx0 (fun x => x); have j1 := hmW.cell cx1 (fun x => x); have j2 := hmW.cell cx2 (fun x => x))
          | (gi_at_call 30; (with_reducible refine ((callsIn_wide.2 (from_ok _ sa sw sv s1 s2))).mono ?_); rintro e wu ⟨rfl, hmu⟩; have hmW := Mod.trans (a := W7) (S := fun _ => False) (by (repeat first | exact Mod.refl _ _ | assumption | apply Mod.drew | apply Mod.drewN | apply Mod.alloc | (refine Mod.setCell ?_ (Or.inr (by (first | (with_reducible exact Nat.le_refl _) | ((try simp only [World.size_alloc, World.size_setCell, World.size_drew] at *); omega)))) _) | (refine Mod.trans ?_ (by assumption)))) hmu; have k0 := hmW.cell c80 (fun x => x); have k1 := hmW.cell c81 (fun x => x); have k2 := hmW.cell c82 (fun x => x); have j0 := hmW.cell cx0 (fun x => x); have j1 := hmW.cell cx1 (fun x => x); have j2 := hmW.cell cx2 (fun x => x)))
                      first | (refine hK _ _ ?_; clear hK K) | skip
                      refine wpAnyIn_ready (rs := [6]) (by kernel_rfl) (by simp) ?_
                      refine AllReadyIn.cons rfl (fun K hK => ?_) ?_
                      · go_simp
                        gi_wp2_with (first
          | (gi_at_call 29; (with_reducible refine ((callsIn_wide.2 (until_ok _ a 1 0 ha ha' (by omega) (by omega)))).mono ?_); rintro e wu ⟨rfl, hmu⟩; have hmW := Mod.trans (a := W7) (S := fun _ => False) (by (repeat first | exact Mod.refl _ _ | assumption | apply Mod.drew | apply Mod.drewN | apply Mod.alloc | (refine Mod.setCell ?_ (Or.inr (by (first | (with_reducible exact Nat.le_refl _) | ((try simp only [World.size_alloc, World.size_setCell, World.size_drew] at *); omega)))) _) | (refine Mod.trans ?_ (by assumption)))) hmu; have k0 := hmW.cell c80 (fun x => x); have k1 := hmW.cell c81 (fun x => x); have k2 := hmW.cell c82 (fun x => x); have j0 := hmW.cell cx0 (fun x => x); have j1 := hmW.cell cx1 (fun x => x); have j2 := hmW.cell cx2 (fun x => x))
          | (gi_at_call 29; (with_reducible refine ((callsIn_wide.2 (until_ok _ sa sw sv s1 s2 (by omega) (by omega)))).mono ?_); rintro e wu ⟨rfl, hmu⟩; have hmW := Mod.trans (a := W7) (S := fun _ => False) (by (repeat first | exact Mod.refl _ _ | assumption | apply Mod.drew | apply Mod.drewN | apply Mod.alloc | (refine Mod.setCell ?_ (Or.inr (by (first | (with_reducible exact Nat.le_refl _) | ((try simp only [World.size_alloc, World.size_setCell, World.size_drew] at *); omega)))) _) | (refine Mod.trans ?_ (by assumption)))) hmu; have k0 := hmW.cell c80 (fun x => x); have k1 := hmW.cell c81 (fun x => x); have k2 := hmW.cell c82 (fun x => x); have j0 := hmW.cell cx0 (fun x => x); have j1 := hmW.cell cx1 (fun x => x); have j2 := hmW.cell cx2 (fun x => x))
          | (gi_at_call 30; (with_reducible refine ((callsIn_wide.2 (from_ok _ a 1 0 ha ha'))).mono ?_); rintro e wu ⟨rfl, hmu⟩; have hmW := Mod.trans (a := W7) (S := fun _ => False) (by (repeat first | exact Mod.refl _ _ | assumption | apply Mod.drew | apply Mod.drewN | apply Mod.alloc | (refine Mod.setCell ?_ (Or.inr (by (first | (with_reducible exact Nat.le_refl _) | ((try simp only [World.size_alloc, World.size_setCell, World.size_drew] at *); omega)))) _) | (refine Mod.trans ?_ (by assumption)))) hmu; have k0 := hmW.cell c80 (fun x => x); have k1 := hmW.cell c81 (fun x => x); have k2 := hmW.cell c82 (fun x => x); have j0 := hmW.cell cx0 (fun x => x); have j1 := hmW.cell cx1 (fun x => x); have j2 := hmW.cell cx2 (fun x => x))
          | (gi_at_call 30; (with_reducible refine ((callsIn_wide.2 (from_ok _ sa sw sv s1 s2))).mono ?_); rintro e wu ⟨rfl, hmu⟩; have hmW := Mod.trans (a := W7) (S := fun _ => False) (by (repeat first | exact Mod.refl _ _ | assumption | apply Mod.drew | apply Mod.drewN | apply Mod.alloc | (refine Mod.setCell ?_ (Or.inr (by (first | (with_reducible exact Nat.le_refl _) | ((try simp only [World.size_alloc, World.size_setCell, World.size_drew] at *); omega)))) _) | (refine Mod.trans ?_ (by assumption)))) hmu; have k0 := hmW.cell c80 (fun x => x); have k1 := hmW.cell c81 (fun x => x); have k2 := hmW.cell c82 (fun x => x); have j0 := hmW.cell cx0 (fun x => x); have j1 := hmW.cell cx1 (fun x => x); have j2 := hmW.cell cx2 (fun x => x)))
                        first | (refine hK _ _ ?_; clear hK K) | skip
                        refine wpAnyIn_take (i := 7) (v := ?_) rfl rfl (by kernel_rfl) (by kernel_rfl) (by kernel_rfl) (fun _ _ _ h => h) ⟨Or.inl ⟨by rfl, ?_⟩, fun _ => rfl⟩ ?_
                        rotate_left
                        · (intro w; go_simp; try with_reducible rfl)
                        refine wpAnyIn_take (i := 8) (v := ?_) rfl rfl (by kernel_rfl) (by kernel_rfl) (by kernel_rfl) (fun _ _ _ h => h) ⟨Or.inl ⟨by rfl, ?_⟩, fun _ => rfl⟩ ?_
                        rotate_left
                        · (intro w; go_simp; try with_reducible rfl)
                        refine wpAnyIn_take (i := 9) (v := ?_) rfl rfl (by kernel_rfl) (by kernel_rfl) (by kernel_rfl) (fun _ _ _ h => h) ⟨Or.inl ⟨by rfl, ?_⟩, fun _ => rfl⟩ ?_
                        rotate_left
                        · (intro w; go_simp; try with_reducible rfl)
                        refine wpAnyIn_take (i := 10) (v := ?_) rfl rfl (by kernel_rfl) (by kernel_rfl) (by kernel_rfl) (fun _ _ _ h => h) ⟨Or.inl ⟨by rfl, ?_⟩, fun _ => rfl⟩ ?_
                        rotate_left
                        · (intro w; go_simp; try with_reducible rfl)
                        refine wpAnyIn_done (by kernel_rfl) ?_ _
                        gi_wp2_with fail
                        gi_meet
                        case rel => exact ⟨congrArg (Value.int .u32) (shfg sv (a - sa) hC.1 hC.2), hmW⟩
                      exact AllReadyIn.nil
                    exact AllReadyIn.nil
                  exact AllReadyIn.nil
                refine AllReadyIn.cons rfl (fun K hK => ?_) ?_
                · go_simp
                  first | (refine hK _ _ ?_; clear hK K) | skip
                  refine wpAnyIn_ready (rs := [2, 4]) (by kernel_rfl) (by simp) ?_
                  refine AllReadyIn.cons rfl (fun K hK => ?_) ?_
                  · go_simp
                    first | (refine hK _ _ ?_; clear hK K) | skip
                    refine wpAnyIn_ready (rs := [4]) (by kernel_rfl) (by simp) ?_
                    refine AllReadyIn.cons rfl (fun K hK => ?_) ?_
                    · go_simp
                      gi_wp2_with (first
          | (gi_at_call 29; (with_reducible refine ((callsIn_wide.2 (until_ok _ a 1 0 ha ha' (by omega) (by omega)))).mono ?_); rintro e wu ⟨rfl, hmu⟩; have hmW := Mod.trans (a := W7) (S := fun _ => False) (by (repeat first | exact Mod.refl _ _ | assumption | apply Mod.drew | apply Mod.drewN | apply Mod.alloc | (refine Mod.setCell ?_ (Or.inr (by (first | (with_reducible exact Nat.le_refl _) | ((try simp only [World.size_alloc, World.size_setCell, World.size_drew] at *); omega)))) _) | (refine Mod.trans ?_ (by assumption)))) hmu; have k0 := hmW.cell c80 (fun x => x); have k1 := hmW.cell c81 (fun x => x); have k2 := hmW.cell c82 (fun x => x); have j0 := hmW.cell cx0 (fun x => x); have j1 := hmW.cell cx1 (fun x => x); have j2 := hmW.cell cx2 (fun x => x))
          | (gi_at_call 29; (with_reducible refine ((callsIn_wide.2 (until_ok _ sa sw sv s1 s2 (by omega) (by omega)))).mono ?_); rintro e wu ⟨rfl, hmu⟩; have hmW := Mod.trans (a := W7) (S := fun _ => False) (by (repeat first | exact Mod.refl _ _ | assumption | apply Mod.drew | apply Mod.drewN | apply Mod.alloc | (refine Mod.setCell ?_ (Or.inr (by (first | (with_reducible exact Nat.le_refl _) | ((try simp only [World.size_alloc, World.size_setCell, World.size_drew] at *); omega)))) _) | (refine Mod.trans ?_ (by assumption)))) hmu; have k0 := hmW.cell c80 (fun x => x); have k1 := hmW.cell c81 (fun x => x); have k2 := hmW.cell c82 (fun x => x); have j0 := hmW.cell cx0 (fun x => x); have j1 := hmW.cell cx1 (fun x => x); have j2 := hmW.cell cx2 (fun x => x))
          | (gi_at_call 30; (with_reducible refine ((callsIn_wide.2 (from_ok _ a 1 0 ha ha'))).mono ?_); rintro e wu ⟨rfl, hmu⟩; have hmW := Mod.trans (a := W7) (S := fun _ => False) (by (repeat first | exact Mod.refl _ _ | assumption | apply Mod.drew | apply Mod.drewN | apply Mod.alloc | (refine Mod.setCell ?_ (Or.inr (by (first | (with_reducible exact Nat.le_refl _) | ((try simp only [World.size_alloc, World.size_setCell, World.size_drew] at *); omega)))) _) | (refine Mod.trans ?_ (by assumption)))) hmu; have k0 := hmW.cell c80 (fun x => x); have k1 := hmW.cell c81 (fun x => x); have k2 := hmW.cell c82 (fun x => x); have j0 := hmW.cell cx0 (fun x => x); have j1 := hmW.cell cx1 (fun x => x); have j2 := hmW.cell cx2 (fun x => x))
          | (gi_at_call 30; (with_reducible refine ((callsIn_wide.2 (from_ok _ sa sw sv s1 s2))).mono ?_); rintro e wu ⟨rfl, hmu⟩; have hmW := Mod.trans (a := W7) (S := fun _ => False) (by (repeat first | exact Mod.refl _ _ | assumption | apply Mod.drew | apply Mod.drewN | apply Mod.alloc | (refine Mod.setCell ?_ (Or.inr (by (first | (with_reducible exact Nat.le_refl _) | ((try simp only [World.size_alloc, World.size_setCell, World.size_drew] at *); omega)))) _) | (refine Mod.trans ?_ (by assumption)))) hmu; have k0 := hmW.cell c80 (fun x => x); have k1 := hmW.cell c81 (fun x => x); have k2 := hmW.cell c82 (fun x => x); have j0 := hmW.cell cx0 (fun x => x); have j1 := hmW.cell cx1 (fun x => x); have j2 := hmW.cell cx2 (fun x => x)))
                      first | (refine hK _ _ ?_; clear hK K) | skip
                      refine wpAnyIn_ready (rs := [6]) (by kernel_rfl) (by simp) ?_
                      refine AllReadyIn.cons rfl (fun K hK => ?_) ?_
                      · go_simp
                        gi_wp2_with (first
          | (gi_at_call 29; (with_reducible refine ((callsIn_wide.2 (until_ok _ a 1 0 ha ha' (by omega) (by omega)))).mono ?_); rintro e wu ⟨rfl, hmu⟩; have hmW := Mod.trans (a := W7) (S := fun _ => False) (by (repeat first | exact Mod.refl _ _ | assumption | apply Mod.drew | apply Mod.drewN | apply Mod.alloc | (refine Mod.setCell ?_ (Or.inr (by (first | (with_reducible exact Nat.le_refl _) | ((try simp only [World.size_alloc, World.size_setCell, World.size_drew] at *); omega)))) _) | (refine Mod.trans ?_ (by assumption)))) hmu; have k0 := hmW.cell c80 (fun x => x); have k1 := hmW.cell c81 (fun x => x); have k2 := hmW.cell c82 (fun x => x); have j0 := hmW.cell cx0 (fun x => x); have j1 := hmW.cell cx1 (fun x => x); have j2 := hmW.cell cx2 (fun x => x))
          | (gi_at_call 29; (with_reducible refine ((callsIn_wide.2 (until_ok _ sa sw sv s1 s2 (by omega) (by omega)))).mono ?_); rintro e wu ⟨rfl, hmu⟩; have hmW := Mod.trans (a := W7) (S := fun _ => False) (by (repeat first | exact Mod.refl _ _ | assumption | apply Mod.drew | apply Mod.drewN | apply Mod.alloc | (refine Mod.setCell ?_ (Or.inr (by (first | (with_reducible exact Nat.le_refl _) | ((try simp only [World.size_alloc, World.size_setCell, World.size_drew] at *); omega)))) _) | (refine Mod.trans ?_ (by assumption)))) hmu; have k0 := hmW.cell c80 (fun x => x); have k1 := hmW.cell c81 (fun x => x); have k2 := hmW.cell c82 (fun x => x); have j0 := hmW.cell cx0 (fun x => x); have j1 := hmW.cell cx1 (fun x => x); have j2 := hmW.cell cx2 (fun x => x))
          | (gi_at_call 30; (with_reducible refine ((callsIn_wide.2 (from_ok _ a 1 0 ha ha'))).mono ?_); rintro e wu ⟨rfl, hmu⟩; have hmW := Mod.trans (a := W7) (S := fun _ => False) (by (repeat first | exact Mod.refl _ _ | assumption | apply Mod.drew | apply Mod.drewN | apply Mod.alloc | (refine Mod.setCell ?_ (Or.inr (by (first | (with_reducible exact Nat.le_refl _) | ((try simp only [World.size_alloc, World.size_setCell, World.size_drew] at *); omega)))) _) | (refine Mod.trans ?_ (by assumption)))) hmu; have k0 := hmW.cell c80 (fun x => x); have k1 := hmW.cell c81 (fun x => x); have k2 := hmW.cell c82 (fun x => x); have j0 := hmW.cell cx0 (fun x => x); have j1 := hmW.cell cx1 (fun x => x); have j2 := hmW.cell cx2 (fun x => x))
          | (gi_at_call 30; (with_reducible refine ((callsIn_wide.2 (from_ok _ sa sw sv s1 s2))).mono ?_); rintro e wu ⟨rfl, hmu⟩; have hmW := Mod.trans (a := W7) (S := fun _ => False) (by (repeat first | exact Mod.refl _ _ | assumption | apply Mod.drew | apply Mod.drewN | apply Mod.alloc | (refine Mod.setCell ?_ (Or.inr (by (first | (with_reducible exact Nat.le_refl _) | ((try simp only [World.size_alloc, World.size_setCell, World.size_drew] at *); omega)))) _) | (refine Mod.trans ?_ (by assumption)))) hmu; have k0 := hmW.cell c80 (fun x => x); have k1 := hmW.cell c81 (fun x => x); have k2 := hmW.cell c82 (fun x => x); have j0 := hmW.cell cx0 (fun x => x); have j1 := hmW.cell cx1 (fun x => x); have j2 := hmW.cell cx2 (fun x => x)))
                        first | (refine hK _ _ ?_; clear hK K) | skip
                        refine wpAnyIn_take (i := 7) (v := ?_) rfl rfl (by kernel_rfl) (by kernel_rfl) (by kernel_rfl) (fun _ _ _ h => h) ⟨Or.inl ⟨by rfl, ?_⟩, fun _ => rfl⟩ ?_
                        rotate_left
                        · (intro w; go_simp; try with_reducible rfl)
                        refine wpAnyIn_take (i := 8) (v := ?_) rfl rfl (by kernel_rfl) (by kernel_rfl) (by kernel_rfl) (fun _ _ _ h => h) ⟨Or.inl ⟨by rfl, ?_⟩, fun _ => rfl⟩ ?_
                        rotate_left
                        · (intro w; go_simp; try with_reducible rfl)
                        refine wpAnyIn_take (i := 9) (v := ?_) rfl rfl (by kernel_rfl) (by kernel_rfl) (by kernel_rfl) (fun _ _ _ h => h) ⟨Or.inl ⟨by rfl, ?_⟩, fun _ => rfl⟩ ?_
                        rotate_left
                        · (intro w; go_simp; try with_reducible rfl)
                        refine wpAnyIn_take (i := 10) (v := ?_) rfl rfl (by kernel_rfl) (by kernel_rfl) (by kernel_rfl) (fun _ _ _ h => h) ⟨Or.inl ⟨by rfl, ?_⟩, fun _ => rfl⟩ ?_
                        rotate_left
                        · (intro w; go_simp; try with_reducible rfl)
                        refine wpAnyIn_done (by kernel_rfl) ?_ _
                        gi_wp2_with fail
                        gi_meet
                        case rel => exact ⟨congrArg (Value.int .u32) (shfg sv (a - sa) hC.1 hC.2), hmW⟩
                      exact AllReadyIn.nil
                    exact AllReadyIn.nil
                  refine AllReadyIn.cons rfl (fun K hK => ?_) ?_
                  · go_simp
                    gi_wp2_with (first
          | (gi_at_call 29; (with_reducible refine ((callsIn_wide.2 (until_ok _ a 1 0 ha ha' (by omega) (by omega)))).mono ?_); rintro e wu ⟨rfl, hmu⟩; have hmW := Mod.trans (a := W7) (S := fun _ => False) (by (repeat first | exact Mod.refl _ _ | assumption | apply Mod.drew | apply Mod.drewN | apply Mod.alloc | (refine Mod.setCell ?_ (Or.inr (by (first | (with_reducible exact Nat.le_refl _) | ((try simp only [World.size_alloc, World.size_setCell, World.size_drew] at *); omega)))) _) | (refine Mod.trans ?_ (by assumption)))) hmu; have k0 := hmW.cell c80 (fun x => x); have k1 := hmW.cell c81 (fun x => x); have k2 := hmW.cell c82 (fun x => x); have j0 := hmW.cell cx0 (fun x => x); have j1 := hmW.cell cx1 (fun x => x); have j2 := hmW.cell cx2 (fun x => x))
          | (gi_at_call 29; (with_reducible refine ((callsIn_wide.2 (until_ok _ sa sw sv s1 s2 (by omega) (by omega)))).mono ?_); rintro e wu ⟨rfl, hmu⟩; have hmW := Mod.trans (a := W7) (S := fun _ => False) (by (repeat first | exact Mod.refl _ _ | assumption | apply Mod.drew | apply Mod.drewN | apply Mod.alloc | (refine Mod.setCell ?_ (Or.inr (by (first | (with_reducible exact Nat.le_refl _) | ((try simp only [World.size_alloc, World.size_setCell, World.size_drew] at *); omega)))) _) | (refine Mod.trans ?_ (by assumption)))) hmu; have k0 := hmW.cell c80 (fun x => x); have k1 := hmW.cell c81 (fun x => x); have k2 := hmW.cell c82 (fun x => x); have j0 := hmW.cell cx0 (fun x => x); have j1 := hmW.cell cx1 (fun x => x); have j2 := hmW.cell cx2 (fun x => x))
          | (gi_at_call 30; (with_reducible refine ((callsIn_wide.2 (from_ok _ a 1 0 ha ha'))).mono ?_); rintro e wu ⟨rfl, hmu⟩; have hmW := Mod.trans (a := W7) (S := fun _ => False) (by (repeat first | exact Mod.refl _ _ | assumption | apply Mod.drew | apply Mod.drewN | apply Mod.alloc | (refine Mod.setCell ?_ (Or.inr (by (first | (with_reducible exact Nat.le_refl _) | ((try simp only [World.size_alloc, World.size_setCell, World.size_drew] at *); omega)))) _) | (refine Mod.trans ?_ (by assumption)))) hmu; have k0 := hmW.cell c80 (fun x => x); have k1 := hmW.cell c81 (fun x => x); have k2 := hmW.cell c82 (fun x => x); have j0 := hmW.cell cx0 (fun x => x); have j1 := hmW.cell cx1 (fun x => x); have j2 := hmW.cell cx2 (fun x => x))
          | (gi_at_call 30; (with_reducible refine ((callsIn_wide.2 (from_ok _ sa sw sv s1 s2))).mono ?_); rintro e wu ⟨rfl, hmu⟩; have hmW := Mod.trans (a := W7) (S := fun _ => False) (by (repeat first | exact Mod.refl _ _ | assumption | apply Mod.drew | apply Mod.drewN | apply Mod.alloc | (refine Mod.setCell ?_ (Or.inr (by (first | (with_reducible exact Nat.le_refl _) | ((try simp only [World.size_alloc, World.size_setCell, World.size_drew] at *); omega)))) _) | (refine Mod.trans ?_ (by assumption)))) hmu; have k0 := hmW.cell c80 (fun x => x); have k1 := hmW.cell c81 (fun x => x); have k2 := hmW.cell c82 (fun x => x); have j0 := hmW.cell cx0 (fun x => x); have j1 := hmW.cell cx1 (fun x => x); have j2 := hmW.cell cx2 (fun x => x)))
                    first | (refine hK _ _ ?_; clear hK K) | skip
                    refine wpAnyIn_ready (rs := [2, 6]) (by kernel_rfl) (by simp) ?_
                    refine AllReadyIn.cons rfl (fun K hK => ?_) ?_
                    · go_simp
                      first | (refine hK _ _ ?_; clear hK K) | skip
                      refine wpAnyIn_ready (rs := [6]) (by kernel_rfl) (by simp) ?_
                      refine AllReadyIn.cons rfl (fun K hK => ?_) ?_
                      · go_simp
                        gi_wp2_with (first
          | (gi_at_call 29; (with_reducible refine ((callsIn_wide.2 (until_ok _ a 1 0 ha ha' (by omega) (by omega)))).mono ?_); rintro e wu ⟨rfl, hmu⟩; have hmW := Mod.trans (a := W7) (S := fun _ => False) (by (repeat first | exact Mod.refl _ _ | assumption | apply Mod.drew | apply Mod.drewN | apply Mod.alloc | (refine Mod.setCell ?_ (Or.inr (by (first | (with_reducible exact Nat.le_refl _) | ((try simp only [World.size_alloc, World.size_setCell, World.size_drew] at *); omega)))) _) | (refine Mod.trans ?_ (by assumption)))) hmu; have k0 := hmW.cell c80 (fun x => x); have k1 := hmW.cell c81 (fun x => x); have k2 := hmW.cell c82 (fun x => x); have j0 := hmW.cell cx0 (fun x => x); have j1 := hmW.cell cx1 (fun x => x); have j2 := hmW.cell cx2 (fun x => x))
          | (gi_at_call 29; (with_reducible refine ((callsIn_wide.2 (until_ok _ sa sw sv s1 s2 (by omega) (by omega)))).mono ?_); rintro e wu ⟨rfl, hmu⟩; have hmW := Mod.trans (a := W7) (S := fun _ => False) (by (repeat first | exact Mod.refl _ _ | assumption | apply Mod.drew | apply Mod.drewN | apply Mod.alloc | (refine Mod.setCell ?_ (Or.inr (by (first | (with_reducible exact Nat.le_refl _) | ((try simp only [World.size_alloc, World.size_setCell, World.size_drew] at *); omega)))) _) | (refine Mod.trans ?_ (by assumption)))) hmu; have k0 := hmW.cell c80 (fun x => x); have k1 := hmW.cell c81 (fun x => x); have k2 := hmW.cell c82 (fun x => x); have j0 := hmW.cell cx0 (fun x => x); have j1 := hmW.cell cx1 (fun x => x); have j2 := hmW.cell cx2 (fun x => x))
          | (gi_at_call 30; (with_reducible refine ((callsIn_wide.2 (from_ok _ a 1 0 ha ha'))).mono ?_); rintro e wu ⟨rfl, hmu⟩; have hmW := Mod.trans (a := W7) (S := fun _ => False) (by (repeat first | exact Mod.refl _ _ | assumption | apply Mod.drew | apply Mod.drewN | apply Mod.alloc | (refine Mod.setCell ?_ (Or.inr (by (first | (with_reducible exact Nat.le_refl _) | ((try simp only [World.size_alloc, World.size_setCell, World.size_drew] at *); omega)))) _) | (refine Mod.trans ?_ (by assumption)))) hmu; have k0 := hmW.cell c80 (fun x => x); have k1 := hmW.cell c81 (fun x => x); have k2 := hmW.cell c82 (fun x => x); have j0 := hmW.cell cx0 (fun x => x); have j1 := hmW.cell cx1 (fun x => x); have j2 := hmW.cell cx2 (fun x => x))
          | (gi_at_call 30; (with_reducible refine ((callsIn_wide.2 (from_ok _ sa sw sv s1 s2))).mono ?_); rintro e wu ⟨rfl, hmu⟩; have hmW := Mod.trans (a := W7) (S := fun _ => False) (by (repeat first | exact Mod.refl _ _ | assumption | apply Mod.drew | apply Mod.drewN | apply Mod.alloc | (refine Mod.setCell ?_ (Or.inr (by (first | (with_reducible exact Nat.le_refl _) | ((try simp only [World.size_alloc, World.size_setCell, World.size_drew] at *); omega)))) _) | (refine Mod.trans ?_ (by assumption)))) hmu; have k0 := hmW.cell c80 (fun x => x); have k1 := hmW.cell c81 (fun x => x); have k2 := hmW.cell c82 (fun x => x); have j0 := hmW.cell cx0 (fun x => x); have j1 := hmW.cell cx1 (fun x => x); have j2 := hmW.cell cx2 (fun x => x)))
                        first | (refine hK _ _ ?_; clear hK K) | skip
                        refine wpAnyIn_take (i := 7) (v := ?_) rfl rfl (by kernel_rfl) (by kernel_rfl) (by kernel_rfl) (fun _ _ _ h => h) ⟨Or.inl ⟨by rfl, ?_⟩, fun _ => rfl⟩ ?_
                        rotate_left
                        · (intro w; go_simp; try with_reducible rfl)
                        refine wpAnyIn_take (i := 8) (v := ?_) rfl rfl (by kernel_rfl) (by kernel_rfl) (by kernel_rfl) (fun _ _ _ h => h) ⟨Or.inl ⟨by rfl, ?_⟩, fun _ => rfl⟩ ?_
                        rotate_left
                        · (intro w; go_simp; try with_reducible rfl)
                        refine wpAnyIn_take (i := 9) (v := ?_) rfl rfl (by kernel_rfl) (by kernel_rfl) (by kernel_rfl) (fun _ _ _ h => h) ⟨Or.inl ⟨by rfl, ?_⟩, fun _ => rfl⟩ ?_
                        rotate_left
                        · (intro w; go_simp; try with_reducible rfl)
                        refine wpAnyIn_take (i := 10) (v := ?_) rfl rfl (by kernel_rfl) (by kernel_rfl) (by kernel_rfl) (fun _ _ _ h => h) ⟨Or.inl ⟨by rfl, ?_⟩, fun _ => rfl⟩ ?_
                        rotate_left
                        · (intro w; go_simp; try with_reducible rfl)
                        refine wpAnyIn_done (by kernel_rfl) ?_ _
                        gi_wp2_with fail
                        gi_meet
                        case rel => exact ⟨congrArg (Value.int .u32) (shfg sv (a - sa) hC.1 hC.2), hmW⟩
                      exact AllReadyIn.nil
                    refine AllReadyIn.cons rfl (fun K hK => ?_) ?_
                    · go_simp
                      gi_wp2_with (first
          | (gi_at_call 29; (with_reducible refine ((callsIn_wide.2 (until_ok _ a 1 0 ha ha' (by omega) (by omega)))).mono ?_); rintro e wu ⟨rfl, hmu⟩; have hmW := Mod.trans (a := W7) (S := fun _ => False) (by (repeat first | exact Mod.refl _ _ | assumption | apply Mod.drew | apply Mod.drewN | apply Mod.alloc | (refine Mod.setCell ?_ (Or.inr (by (first | (with_reducible exact Nat.le_refl _) | ((try simp only [World.size_alloc, World.size_setCell, World.size_drew] at *); omega)))) _) | (refine Mod.trans ?_ (by assumption)))) hmu; have k0 := hmW.cell c80 (fun x => x); have k1 := hmW.cell c81 (fun x => x); have k2 := hmW.cell c82 (fun x => x); have j0 := hmW.cell cx0 (fun x => x); have j1 := hmW.cell cx1 (fun x => x); have j2 := hmW.cell cx2 (fun x => x))
          | (gi_at_call 29; (with_reducible refine ((callsIn_wide.2 (until_ok _ sa sw sv s1 s2 (by omega) (by omega)))).mono ?_); rintro e wu ⟨rfl, hmu⟩; have hmW := Mod.trans (a := W7) (S := fun _ => False) (by (repeat first | exact Mod.refl _ _ | assumption | apply Mod.drew | apply Mod.drewN | apply Mod.alloc | (refine Mod.setCell ?_ (Or.inr (by (first | (with_reducible exact Nat.le_refl _) | ((try simp only [World.size_alloc, World.size_setCell, World.size_drew] at *); omega)))) _) | (refine Mod.trans ?_ (by assumption)))) hmu; have k0 := hmW.cell c80 (fun x => x); have k1 := hmW.cell c81 (fun x => x); have k2 := hmW.cell c82 (fun x => x); have j0 := hmW.cell cx0 (fun x => x); have j1 := hmW.cell cx1 (fun x => x); have j2 := hmW.cell cx2 (fun x => x))
          | (gi_at_call 30; (with_reducible refine ((callsIn_wide.2 (from_ok _ a 1 0 ha ha'))).mono ?_); rintro e wu ⟨rfl, hmu⟩; have hmW := Mod.trans (a := W7) (S := fun _ => False) (by (repeat first | exact Mod.refl _ _ | assumption | apply Mod.drew | apply Mod.drewN | apply Mod.alloc | (refine Mod.setCell ?_ (Or.inr (by (first | (with_reducible exact Nat.le_refl _) | ((try simp only [World.size_alloc, World.size_setCell, World.size_drew] at *); omega)))) _) | (refine Mod.trans ?_ (by assumption)))) hmu; have k0 := hmW.cell c80 (fun x => x); have k1 := hmW.cell c81 (fun x => x); have k2 := hmW.cell c82 (fun x => x); have j0 := hmW.cell cx0 (fun x => x); have j1 := hmW.cell cx1 (fun x => x); have j2 := hmW.cell cx2 (fun x => x))
          | (gi_at_call 30; (with_reducible refine ((callsIn_wide.2 (from_ok _ sa sw sv s1 s2))).mono ?_); rintro e wu ⟨rfl, hmu⟩; have hmW := Mod.trans (a := W7) (S := fun _ => False) (by (repeat first | exact Mod.refl _ _ | assumption | apply Mod.drew | apply Mod.drewN | apply Mod.alloc | (refine Mod.setCell ?_ (Or.inr (by (first | (with_reducible exact Nat.le_refl _) | ((try simp only [World.size_alloc, World.size_setCell, World.size_drew] at *); omega)))) _) | (refine Mod.trans ?_ (by assumption)))) hmu; have k0 := hmW.cell c80 (fun x => x); have k1 := hmW.cell c81 (fun x => x); have k2 := hmW.cell c82 (fun x => x); have j0 := hmW.cell cx0 (fun x => x); have j1 := hmW.cell cx1 (fun x => x); have j2 := hmW.cell cx2 (fun x => x)))
                      first | (refine hK _ _ ?_; clear hK K) | skip
                      refine wpAnyIn_take (i := 7) (v := ?_) rfl rfl (by kernel_rfl) (by kernel_rfl) (by kernel_rfl) (fun _ _ _ h => h) ⟨Or.inl ⟨by rfl, ?_⟩, fun _ => rfl⟩ ?_
                      rotate_left
                      · (intro w; go_simp; try with_reducible rfl)
                      refine wpAnyIn_take (i := 8) (v := ?_) rfl rfl (by kernel_rfl) (by kernel_rfl) (by kernel_rfl) (fun _ _ _ h => h) ⟨Or.inl ⟨by rfl, ?_⟩, fun _ => rfl⟩ ?_
                      rotate_left
                      · (intro w; go_simp; try with_reducible rfl)
                      refine wpAnyIn_ready (rs := [2]) (by kernel_rfl) (by simp) ?_
                      refine AllReadyIn.cons rfl (fun K hK => ?_) ?_
                      · go_simp
                        first | (refine hK _ _ ?_; clear hK K) | skip
                        refine wpAnyIn_take (i := 9) (v := ?_) rfl rfl (by kernel_rfl) (by kernel_rfl) (by kernel_rfl) (fun _ _ _ h => h) ⟨Or.inl ⟨by rfl, ?_⟩, fun _ => rfl⟩ ?_
                        rotate_left
                        · (intro w; go_simp; try with_reducible rfl)
                        refine wpAnyIn_take (i := 10) (v := ?_) rfl rfl (by kernel_rfl) (by kernel_rfl) (by kernel_rfl) (fun _ _ _ h => h) ⟨Or.inl ⟨by rfl, ?_⟩, fun _ => rfl⟩ ?_
                        rotate_left
                        · (intro w; go_simp; try with_reducible rfl)
                        refine wpAnyIn_done (by kernel_rfl) ?_ _
                        gi_wp2_with fail
                        gi_meet
                        case rel => exact ⟨congrArg (Value.int .u32) (shfg sv (a - sa) hC.1 hC.2), hmW⟩
                      exact AllReadyIn.nil
                    exact AllReadyIn.nil
                  exact AllReadyIn.nil
                exact AllReadyIn.nil
              exact AllReadyIn.nil
            case rest =>
              obtain ⟨rfl, hm9⟩ := hcut
              have HF9 := Lib.hid (HF7.out.keep0 hm9)
              have hm69 := hm67.trans hm9
              clear HF7 hm67 hm9 c80 c81 c82 cx0 cx1 cx2
              have g5 : wc.cell? ⟨b5, 0, none⟩ = some (.int .i64 1) := cell_of wc HF9.out.h5 0
              have g6 : wc.cell? ⟨b6, 0, none⟩ = some (.int .u32 0) := cell_of wc HF9.out.h6 0
              have g7 : wc.cell? ⟨b7, 0, none⟩ = some (.int .i64 0) := cell_of wc HF9.out.h7 0
              have f6 := free_of wc HF9.out.h6 0
              have f7 := free_of wc HF9.out.h7 0
              generalize hq : sv / 256 ^ (a - sa).toNat = qv at *
              have hq0 : 0 ≤ qv ∧ qv ≤ 4294967295 := by rw [← hq]; exact ⟨Int.ediv_nonneg s3 (Int.le_of_lt (Int.pow_pos (by omega))), Int.le_trans (Int.ediv_le_self _ s3) s4⟩
              obtain ⟨hq1, hq2⟩ := hq0
              replace hq := Lib.hid hq
              have hval := mask_1 qv hq1 hq2
              have HV := Lib.hid hval
              rw [hval] at hone
              clear hval
              gi_wp2
              have hmS : Mod (fun k => k = b6 ∨ k = b7) wc ((wc.setCell ⟨b6, 0, none⟩ (.int .u32 (bits BinOp.and IntKind.u32 qv 255))).setCell ⟨b7, 0, none⟩ (.int .i64 1)) := ((Mod.refl (fun k => k = b6 ∨ k = b7) wc).setCell (.inl (.inl rfl)) _).setCell (.inl (.inr rfl)) _
              have hmA : Mod (fun k => k = b6 ∨ k = b7) W ((wc.setCell ⟨b6, 0, none⟩ (.int .u32 (bits BinOp.and IntKind.u32 qv 255))).setCell ⟨b7, 0, none⟩ (.int .i64 1)) := (hm69.mono (fun _ _ f => f.elim)).trans hmS
              obtain ⟨r6, r7⟩ := two_cells HF9.out.h6 HF9.out.h7 (by omega) (.int .u32 (bits BinOp.and IntKind.u32 qv 255)) (.int .i64 1)
              refine ⟨keepsFrom_of hmA HF.out.h6 HF.out.h7, rfl, ⟨pre, x, (bits BinOp.and IntKind.u32 qv 255, 1), rfl, HN.out, hone, r6, r7, Nat.le_trans HF.out.size hmA.size⟩, hB.trans (hmA.belowAt hW ?_)⟩
              rintro k (rfl | rfl) <;> omega
  case done =>
    rintro D ys W hD hys ⟨hf, hn, hB⟩ hK
    have hsk : seek l.reverse a 1 = (0, 0) := by
      rw [← hys]
      refine seek_none _ _ _ (fun s hs => ?_)
      obtain ⟨y, hy, rfl⟩ := List.mem_map.1 hs
      exact hn y hy
    have g6 : W.cell? ⟨b6, 0, none⟩ = some (.int .u32 0) := cell_of W hf.h6 0
    have g7 : W.cell? ⟨b7, 0, none⟩ = some (.int .i64 0) := cell_of W hf.h7 0
    have f6 := free_of W hf.h6 0
    have f7 := free_of W hf.h7 0
    have HF := Lib.hid hf
    clear hf hys hn
    gi_wp2
    obtain ⟨r6, r7⟩ := two_cells HF.out.h6 HF.out.h7 (by omega) (.int .u32 0) (.int .i64 0)
    have hmS : Mod (fun k => k = b6 ∨ k = b7) W ((W.setCell ⟨b6, 0, none⟩ (.int .u32 0)).setCell ⟨b7, 0, none⟩ (.int .i64 0)) := ((Mod.refl (fun k => k = b6 ∨ k = b7) W).setCell (.inl (.inl rfl)) _).setCell (.inl (.inr rfl)) _
    have hK2 : ((W.setCell ⟨b6, 0, none⟩ (.int .u32 0)).setCell ⟨b7, 0, none⟩ (.int .i64 0)).heap[D]? = some (.deferred (some [])) := hmS.at hK (by have := HF.out.size; omega)
    have hmz : Mod (fun _ => False) w ((W.setCell ⟨b6, 0, none⟩ (.int .u32 0)).setCell ⟨b7, 0, none⟩ (.int .i64 0)) := (Mod.of_below (hB.mono (by omega))).trans' hmS (by rintro i hi (rfl | rfl) <;> omega)
    generalize (W.setCell ⟨b6, 0, none⟩ (.int .u32 0)).setCell ⟨b7, 0, none⟩ (.int .i64 0) = W2 at *
    have hg2 := grownBy_putObj' W2 D (.deferred none)
    have hr2 : ∀ r, (some D : Option Nat) = some r → ∃ o, W2.heap[r]? = some o ∧ o.isCells = false := fun r e => by cases e; exact ⟨_, hK2, rfl⟩
    refine ⟨by simp, .inl ⟨_, _, rfl, run_takeDeferred hK2, ?_⟩⟩
    exact ⟨_, forward_res rfl rfl (cell_of _ (own_at hg2 hr2 r6) 0) (cell_of _ (own_at hg2 hr2 r7) 0), by first | rfl | rw [hsk], hmz.trans' (Mod.of_grown hg2) (by rintro i hi hh; cases hh; have := HF.out.size; omega)⟩
  case stop =>
    rintro D c pre W hD ⟨rr, hrr⟩ ⟨rfl, hfd, hB⟩ hK
    obtain ⟨p0, y, r, e1, e2, e3, e4, e5, e6⟩ := hfd
    have hsk : seek l.reverse a 1 = r := by
      rw [← hrr, e1, List.map_append]
      refine seek_some _ _ _ _ _ e3 _ (fun s hs => ?_)
      obtain ⟨y, hy, rfl⟩ := List.mem_map.1 hs
      exact e2 y hy
    clear hrr e2 e3
    gi_wp2
    have hmz : Mod (fun _ => False) w W := Mod.of_below (hB.mono (by omega))
    have hg2 := grownBy_putObj' W D (.deferred none)
    have hr2 : ∀ r, (some D : Option Nat) = some r → ∃ o, W.heap[r]? = some o ∧ o.isCells = false := fun r e => by cases e; exact ⟨_, hK, rfl⟩
    refine ⟨by simp, .inl ⟨_, _, rfl, run_takeDeferred hK, ?_⟩⟩
    exact ⟨_, forward_res rfl rfl (cell_of _ (own_at hg2 hr2 e4) 0) (cell_of _ (own_at hg2 hr2 e5) 0), by first | rfl | rw [hsk], hmz.trans' (Mod.of_grown hg2) (by rintro i hi hh; cases hh; omega)⟩

end
end Go.Proofs.Ytknjlmpjkkkilaa
