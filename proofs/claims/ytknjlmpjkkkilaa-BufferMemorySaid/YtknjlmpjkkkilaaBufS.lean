/- The law's played: calls against a buffer and a list. -/
import Derived.Test.YtknjlmpjkkkilaaBufferPushesWalk
namespace Go.Proofs.Ytknjlmpjkkkilaa
open Go.RowKit
set_option linter.unusedVariables false
set_option linter.unusedSimpArgs false

/-- A call: what is not 0: Pop; else Push of the store. -/
structure BAct where
  what : Int
  store : Store
def BAct.cells (a : BAct) : List Value := .int .i64 a.what :: a.store.cells
def BAct.Fits (a : BAct) : Prop := a.store.Fits
abbrev BActs (w : World) (a : Option Addr) (l : List BAct) : Prop := ArgList BAct.cells BAct.Fits 4 w a l
def actStep (l : List Store) (x : BAct) : List Store := if x.what = 0 then pushList l x.store else l.drop 1
def playedL (l : List BAct) : List Store := l.foldl actStep []
theorem playedL_succ {l : List BAct} {j : Nat} {s : BAct} (h : l[j]? = some s) : playedL (l.take (j + 1)) = actStep (playedL (l.take j)) s := by
  rw [List.take_add_one, h, playedL, List.foldl_append]
  rfl
/-- A list without its first one. -/
theorem Seen.drop1 {w : World} {q : Option Addr} {c : Nat} {l : List Store} (h : Seen w (.slice q l.length c) l) (k : Nat) (hk : (k = 0 ∧ l = []) ∨ (k = 1 ∧ l ≠ [])) :
    Seen w (.slice (if c = k then q else q.map (fun x => x.add (k * 3))) (l.length - k) (c - k)) (l.drop 1) := by
  obtain ⟨q', c', e, h2, h3, h4, h5, h6⟩ := h.ex
  simp only [Value.slice.injEq, true_and] at e
  obtain ⟨rfl, rfl⟩ := e
  have hlen : l.length - k = (l.drop 1).length := by
    rcases hk with ⟨rfl, rfl⟩ | ⟨rfl, _⟩
    · rfl
    · simp
  refine ⟨⟨_, _, by rw [hlen], by rw [← hlen]; omega, fun e => ?_, fun a ha => ?_, by omega, fun i m hi => ?_⟩, fun m hm => h.fits m (List.mem_of_mem_drop hm)⟩
  · have hq : q = none := by
      split at e
      · exact e
      · simpa using e
    obtain ⟨e1, e2⟩ := h3 hq
    subst e1
    exact ⟨rfl, by omega⟩
  · split at ha
    · exact h4 a ha
    · obtain ⟨b, hb, rfl⟩ := Option.map_eq_some_iff.1 ha
      obtain ⟨g, o, rfl⟩ := h4 b hb
      exact ⟨g, o + k * 3, addr_add _ _ _⟩
  · rcases hk with ⟨rfl, rfl⟩ | ⟨rfl, hne⟩
    · simp at hi
    · rw [List.getElem?_drop] at hi
      obtain ⟨g, o, e1, e2, e3⟩ := h6 (1 + i) m hi
      have hl := (List.getElem?_eq_some_iff.1 hi).1
      refine ⟨g, o + 1 * 3, ?_, ?_, e3⟩
      · rw [if_neg (by omega), e1]
        simp [addr_add]
      · rw [show o + 1 * 3 + i * 3 = o + (1 + i) * 3 by omega]
        exact e2
section
attribute [local go_sem] heap_drew blk_past cell_past free_past
set_option maxRecDepth 100000 in
set_option maxHeartbeats 4000000 in
theorem played_ok (w : World) (a : Option Addr) (c : Nat) (l : List BAct) (h : BActs w a l) (hl : l.length ≤ 100) : Calls Try.prog 16 #[.slice a l.length c] w fun e w' =>
    ∃ p v, e = .returned (.tuple #[.pointer (some ⟨p, 0, none⟩), v, .bool true]) ∧ Buf w' p (playedL l) ∧ Seen w' v (playedL l) ∧ (∀ s ∈ playedL l, Good s) ∧ w.heap.size ≤ p ∧ Mod (fun _ => False) w w' := by
  go_enter Try.func16, Try.ntmps16
  go_wp2_with fail
  refine (new_ok _).mono ?_
  rintro e w1 ⟨p, rfl, hbuf, hp, hm1⟩
  go_wp2_with fail
  go_loopw [6, 7] (fun x y wr => ∃ j : Nat, j ≤ l.length ∧ y = .int .i64 j ∧ Seen wr x (playedL (l.take j)) ∧ Buf wr p (playedL (l.take j)) ∧ (∀ s ∈ playedL (l.take j), Good s) ∧ Mod (fun _ => False) w wr) (fun _ y _ => l.length - (intOf y).toNat)
  case atStart => exact ⟨0, by omega, rfl, Seen.empty _, hbuf, by simp [playedL], hm1⟩
  case round =>
    obtain ⟨j, hj, rfl, hseen, hbw, hgood, hmo⟩ := hrel
    clear hbuf hm1
    have h4 := hbw.four
    by_cases hlt : j < l.length
    · obtain ⟨g, o, s, rfl, hs, hsf, hsr⟩ := (h.keep hmo).at hlt
      have hj0 : (0 : Int) ≤ (j : Int) := by omega
      have hj1 : (j : Int) < (l.length : Int) := by omega
      have hps := playedL_succ hs
      have c0 : wr.cell? ⟨g, o + j * 4, none⟩ = some (.int .i64 s.what) := by have := hsr 0 _ rfl; simpa using this
      have hcs : ∀ w' : World, Mod (fun _ => False) w w' → w'.cell? ⟨g, o + j * 4 + 1, none⟩ = some (.int .u32 s.store.addr) ∧ w'.cell? ⟨g, o + j * 4 + 1 + 1, none⟩ = some (.int .i64 s.store.width) ∧ w'.cell? ⟨g, o + j * 4 + 1 + 2, none⟩ = some (.int .u32 s.store.value) := by
        intro w' hm'
        obtain ⟨g', o', s', e1, e2, e3, hr'⟩ := (h.keep hm').at hlt
        cases e1
        rw [hs] at e2
        cases e2
        exact ⟨hr' 1 _ rfl, hr' 2 _ rfl, hr' 3 _ rfl⟩
      by_cases hwt : s.what = 0
      · have hne : (s.what != 0) = false := by simp [hwt]
        have hps' : playedL (l.take (j + 1)) = pushList (playedL (l.take j)) s.store := by rw [hps, actStep, if_pos hwt]
        have hgn := pushNum_good _ hgood s.store hsf
        rw [← hps'] at hgn
        have hrp := fun w x (h : Seen w x (playedL (l.take j))) => refpush_ok w x _ s.store h hsf (by omega)
        have hpu := fun w (h : Buf w p (playedL (l.take j))) => push_ok w p _ h s.store hsf
        rw [← hps'] at hrp hpu
        obtain ⟨no, hno⟩ : ∃ no, pushNum (playedL (l.take j)) s.store = no := ⟨_, rfl⟩
        rw [hno] at hrp hpu
        have hkc := hcs wr hmo
        generalize playedL (l.take j) = lw at *
        generalize hln : playedL (l.take (j + 1)) = ln at *
        clear hs hsr hps hgood hcs
        obtain ⟨wh, ⟨sa, sw, sv⟩⟩ := s
        obtain ⟨k0, k1, k2⟩ := hkc
        dsimp only [Store.cells] at *
        go_wp2_with fail
        refine (hrp _ _ hseen).mono ?_
        rintro e w2 ⟨v', rfl, hseen', hm2⟩
        have d0 := hm2.cell k0 (fun x => x)
        have d1 := hm2.cell k1 (fun x => x)
        have d2 := hm2.cell k2 (fun x => x)
        replace hbw := hbw.keep hm2 (fun x => x)
        clear c0 k0 k1 k2 hseen
        go_wp2_with fail
        refine (hpu _ hbw).mono ?_
        rintro e w3 ⟨rfl, hbw', hm3⟩
        have hpc : Seen w3 v' ln := by
          obtain ⟨r, f, e1, _⟩ := hbw.ex
          exact hseen'.keepP hm3 e1 (by decide)
        have hnn : (no != no) = false := by simp
        have hmW := (hmo.trans hm2).own hm3 hp
        clear d0 d1 d2
        go_wp2_with (go_at_call 14; refine (num_ok _ _).mono ?_; rintro e wn ⟨rfl, rfl⟩)
        go_roundw
        case rel => exact ⟨j + 1, by omega, by go_num, by rw [hln]; exact hpc, by rw [hln]; exact hbw', by rw [hln]; exact hgn, hmW⟩
        case measure => simp [intOf]; omega
      · have hne : (s.what != 0) = true := by simp [hwt]
        have hps' : playedL (l.take (j + 1)) = (playedL (l.take j)).drop 1 := by rw [hps, actStep, if_neg hwt]
        obtain ⟨q, c', rfl, hcc⟩ := hseen.len
        generalize playedL (l.take j) = lw at *
        go_wp2_with fail
        refine (lawhead_ok _ _ lw hseen).mono ?_
        rintro e w2 ⟨rfl, hm2⟩
        obtain ⟨sh, hsh⟩ : ∃ sh, headOf lw = sh := ⟨_, rfl⟩
        obtain ⟨be, hbe⟩ : ∃ be, some1 lw = be := ⟨_, rfl⟩
        rw [hsh, hbe]
        simp only [Store.cells]
        go_upto_region 8 with fail
        have hb8 := blk_new w2 (Obj.cells #[Value.int IntKind.u32 sh.addr, Value.int IntKind.i64 sh.width, Value.int IntKind.u32 sh.value] 24)
        have hmA : Mod (fun _ => False) wr (w2.alloc (Obj.cells #[Value.int IntKind.u32 sh.addr, Value.int IntKind.i64 sh.width, Value.int IntKind.u32 sh.value] 24)) := hm2.alloc _
        generalize w2.heap.size = b8 at *
        generalize w2.alloc (Obj.cells #[Value.int IntKind.u32 sh.addr, Value.int IntKind.i64 sh.width, Value.int IntKind.u32 sh.value] 24) = w3 at *
        go_wp2_with fail
        refine (pop_ok _ p lw (hbw.keep hmA (fun x => x))).mono ?_
        rintro e w4 ⟨rfl, hb4, hm4⟩
        rw [hsh, hbe]
        simp only [Store.cells]
        have hpb : b8 ≠ p := by
          rintro rfl
          obtain ⟨r, f, e1, _⟩ := (hbw.keep hmA (fun x => x)).ex
          rw [hb8] at e1
          simp at e1
        have hse4 : Seen w4 (.slice q lw.length c') lw := by
          obtain ⟨r, f, e1, _⟩ := (hbw.keep hmA (fun x => x)).ex
          exact (hseen.keep0 hmA).keepP hm4 e1 (by decide)
        replace hb8 := hm4.at hb8 hpb
        have hmW := (hmo.trans hmA).own hm4 hp
        go_upto_region 9 with fail
        have hb10 := blk_new w4 (Obj.cells #[Value.int IntKind.u32 sh.addr, Value.int IntKind.i64 sh.width, Value.int IntKind.u32 sh.value] 24)
        replace hb8 := blk_old w4 (Obj.cells #[Value.int IntKind.u32 sh.addr, Value.int IntKind.i64 sh.width, Value.int IntKind.u32 sh.value] 24) hb8
        have hmB : Mod (fun _ => False) w4 (w4.alloc (Obj.cells #[Value.int IntKind.u32 sh.addr, Value.int IntKind.i64 sh.width, Value.int IntKind.u32 sh.value] 24)) := (Mod.refl _ _).alloc _
        replace hmW := hmW.trans hmB
        replace hb4 := hb4.keep hmB (fun x => x)
        replace hse4 := hse4.keep0 hmB
        clear hmB hcs c0
        generalize w4.heap.size = b10 at *
        generalize w4.alloc (Obj.cells #[Value.int IntKind.u32 sh.addr, Value.int IntKind.i64 sh.width, Value.int IntKind.u32 sh.value] 24) = w5 at *
        have x0 : w5.cell? ⟨b8, 0, none⟩ = some (.int .u32 sh.addr) := cell_of w5 hb8 0
        have x1 : w5.cell? ⟨b8, 1, none⟩ = some (.int .i64 sh.width) := cell_of w5 hb8 1
        have x2 : w5.cell? ⟨b8, 2, none⟩ = some (.int .u32 sh.value) := cell_of w5 hb8 2
        have y0 : w5.cell? ⟨b10, 0, none⟩ = some (.int .u32 sh.addr) := cell_of w5 hb10 0
        have y1 : w5.cell? ⟨b10, 1, none⟩ = some (.int .i64 sh.width) := cell_of w5 hb10 1
        have y2 : w5.cell? ⟨b10, 2, none⟩ = some (.int .u32 sh.value) := cell_of w5 hb10 2
        have hnq := fun w => neq_store w sh sh
        simp only [Store.cells, decide_true, Bool.not_true] at hnq
        have hbb : (be != be) = false := by simp
        go_upto_region 10 with fail
        obtain ⟨k, hk⟩ : ∃ k : Nat, k = (if (lw.length : Int) < 1 then (lw.length : Int) else 1).toNat := ⟨_, rfl⟩
        have hk2 : (k = 0 ∧ lw = []) ∨ (k = 1 ∧ lw ≠ []) := by
          rw [hk]
          cases lw with
          | nil => exact .inl ⟨rfl, rfl⟩
          | cons x t => exact .inr ⟨by rw [if_neg (by simp; omega)]; rfl, by simp⟩
        rw [← hk]
        have hse6 := hse4.drop1 k hk2
        generalize (Value.slice (if c' = k then q else Option.map (fun x => x.add (k * 3)) q) (lw.length - k) (c' - k)) = v6 at *
        have hgd : ∀ s ∈ lw.drop 1, Good s := fun s hs => hgood s (List.mem_of_mem_drop hs)
        clear hk hk2 hgood
        go_wp2_with fail
        go_roundw
        case rel => exact ⟨j + 1, by omega, by go_num, by rw [hps']; exact hse6, by rw [hps']; exact hb4, by rw [hps']; exact hgd, hmW⟩
        case measure => simp [intOf]; omega
    · obtain rfl : j = l.length := by omega
      rw [List.take_length] at hseen hbw hgood
      go_wp2
      go_ret3
      exact ⟨p, _, rfl, hbw, hseen, hgood, hp, hmo⟩
end
end Go.Proofs.Ytknjlmpjkkkilaa
