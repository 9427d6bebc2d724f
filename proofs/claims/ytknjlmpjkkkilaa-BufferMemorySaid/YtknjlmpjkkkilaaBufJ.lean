/- The buffer's Head and Pop. -/
import Derived.Test.YtknjlmpjkkkilaaBufG
namespace Go.Proofs.Ytknjlmpjkkkilaa
open Go.RowKit
set_option linter.unusedVariables false
set_option linter.unusedSimpArgs false

def headOf (l : List Store) : Store := l.head?.getD zeroStore
def some1 (l : List Store) : Bool := !l.isEmpty
/-- Head's answer: a store in a cell of the frame's, a bool. -/
theorem head_res {fn : Func} (hr : fn.results = #[.cell 2 24, .tmp 3]) {tmps : Array Value} {w : World} {R : Nat} {s : Store} {b : Bool} (h2 : tmps[2]? = some (.pointer (some ⟨R, 0, none⟩))) (h3 : tmps[3]? = some (.bool b))
    (hb : w.heap[R]? = some (.cells s.cells.toArray 24 (0, 0))) : (results fn tmps).run Try.prog w = .ok (.tuple #[.agg s.cells.toArray, .bool b]) w := by
  have hlo := run_loadVar_row (P := Try.prog) w R 24 24 _ _ _ hb Try.underlying24 rfl (by rw [info24]; rfl)
  simp [results, hr, asAddr, hlo, h2, h3]
section
attribute [local go_sem] heap_drew blk_past cell_past free_past
theorem head_any (w : World) (v : Option Addr) (l : List Store) (h : BufP w v l) : Calls Try.prog 20 #[.pointer v] w fun e w' => e = .returned (.tuple #[.agg (headOf l).cells.toArray, .bool (some1 l)]) ∧ Mod (fun _ => False) w w' := by
  go_enter Try.func20, Try.ntmps20
  go_upto_region 1 with fail
  have hm0 : Mod (fun _ => False) w (w.alloc (Obj.cells #[Value.int IntKind.u32 0, Value.int IntKind.i64 0, Value.int IntKind.u32 0] 24)) := (Mod.refl _ _).alloc _
  have hb := blk_new w (Obj.cells #[Value.int IntKind.u32 0, Value.int IntKind.i64 0, Value.int IntKind.u32 0] 24)
  obtain ⟨R, hR⟩ : ∃ R, R = w.heap.size := ⟨_, rfl⟩
  have hwR : w.heap.size ≤ R := by omega
  rw [← hR] at hb ⊢
  clear hR
  generalize w.alloc (Obj.cells #[Value.int IntKind.u32 0, Value.int IntKind.i64 0, Value.int IntKind.u32 0] 24) = w0 at *
  have r0 : w0.cell? ⟨R, 0, none⟩ = some (.int .u32 0) := cell_of w0 hb 0
  have r1 : w0.cell? ⟨R, 1, none⟩ = some (.int .i64 0) := cell_of w0 hb 1
  have r2 : w0.cell? ⟨R, 2, none⟩ = some (.int .u32 0) := cell_of w0 hb 2
  have f0 := free_of w0 hb 0
  have f1 := free_of w0 hb 1
  have f2 := free_of w0 hb 2
  replace h := h.keep0 hm0
  cases l with
  | nil =>
    go_wp2_with (go_at_call 21; refine (len_any _ v [] h).mono ?_; rintro e w1 ⟨rfl, rfl⟩)
    exact bodyPost_ret (head_res (s := zeroStore) rfl rfl rfl (set3 (o := 0) hb)) rfl ⟨rfl, hm0.trans' (Mod.set3 (o := 0) (S := fun k => k = R) rfl) (by rintro i hi rfl; omega)⟩
  | cons s l =>
    rcases h with ⟨_, h0⟩ | ⟨p, rfl, hbuf⟩
    · cases h0
    have hpR : p ≠ R := by
      rintro rfl
      obtain ⟨r, f, e1, _⟩ := hbuf.ex
      rw [hb] at e1
      simp at e1
    obtain ⟨r, f, e1, e2, e3, e4⟩ := hbuf.ex
    have hrs : r[(f + 0) % 4]? = some s := by rw [e4 0 (by simp)]; rfl
    have hcell := ringCells_at f (s :: l).length _ s hrs e2
    have hat := at_ok w0 p r f (s :: l).length 0 e1 e2 e3 (by omega)
    generalize (f + 0) % 4 = q at *
    have c0 : w0.cell? ⟨p, q * 3, none⟩ = some (.int .u32 s.addr) := by rw [cell_of w0 e1, List.getElem?_toArray]; exact hcell 0 _ rfl
    have c1 : w0.cell? ⟨p, q * 3 + 1, none⟩ = some (.int .i64 s.width) := by rw [cell_of w0 e1, List.getElem?_toArray]; exact hcell 1 _ rfl
    have c2 : w0.cell? ⟨p, q * 3 + 2, none⟩ = some (.int .u32 s.value) := by rw [cell_of w0 e1, List.getElem?_toArray]; exact hcell 2 _ rfl
    have hl0 : (((s :: l).length : Int) == 0) = false := by simp; omega
    have hlen := len_ok w0 p (s :: l) hbuf
    generalize (s :: l).length = n at *
    clear hcell hrs e1 e2 e3 e4 hbuf
    go_wp2_with (first
      | (go_at_call 21; refine hlen.mono ?_; rintro e w1 ⟨rfl, rfl⟩)
      | (go_at_call 26; refine hat.mono ?_; rintro e w1 ⟨rfl, m, rfl⟩))
    exact bodyPost_ret (head_res (s := s) rfl rfl rfl (set3 (w := w1.drewN m) (o := 0) hb)) rfl ⟨rfl, (hm0.drewN m).trans' (Mod.set3 (w := w1.drewN m) (o := 0) (S := fun k => k = R) rfl) (by rintro i hi rfl; omega)⟩
theorem pop_nil (w : World) (v : Option Addr) (h : BufP w v []) : Calls Try.prog 18 #[.pointer v] w fun e w' => e = .returned (.tuple #[.agg (headOf []).cells.toArray, .bool (some1 [])]) ∧ Mod (fun _ => False) w w' := by
  go_enter Try.func18, Try.ntmps18
  go_upto_region 1 with fail
  have hm0 : Mod (fun _ => False) w (w.alloc (Obj.cells #[Value.int IntKind.u32 0, Value.int IntKind.i64 0, Value.int IntKind.u32 0] 24)) := (Mod.refl _ _).alloc _
  have hb := blk_new w (Obj.cells #[Value.int IntKind.u32 0, Value.int IntKind.i64 0, Value.int IntKind.u32 0] 24)
  obtain ⟨R, hR⟩ : ∃ R, R = w.heap.size := ⟨_, rfl⟩
  have hwR : w.heap.size ≤ R := by omega
  rw [← hR] at hb ⊢
  clear hR
  generalize w.alloc (Obj.cells #[Value.int IntKind.u32 0, Value.int IntKind.i64 0, Value.int IntKind.u32 0] 24) = w0 at *
  go_wp2_with fail
  refine (head_any _ v [] (h.keep0 hm0)).mono ?_
  rintro e w1 ⟨rfl, hm1⟩
  replace hb := hm1.at hb (fun x => x)
  have r0 : w1.cell? ⟨R, 0, none⟩ = some (.int .u32 0) := cell_of w1 hb 0
  have r1 : w1.cell? ⟨R, 1, none⟩ = some (.int .i64 0) := cell_of w1 hb 1
  have r2 : w1.cell? ⟨R, 2, none⟩ = some (.int .u32 0) := cell_of w1 hb 2
  have f0 := free_of w1 hb 0
  have f1 := free_of w1 hb 1
  have f2 := free_of w1 hb 2
  have hRl : Old w1 R := lt_of_block hb
  rw [show some1 ([] : List Store) = false from rfl, show headOf [] = ⟨0, 0, 0⟩ from rfl]
  simp only [Store.cells]
  go_wp2
  exact bodyPost_ret (head_res (s := zeroStore) rfl rfl rfl (set3 (o := 0) (blk_old _ _ hb))) rfl ⟨rfl, (((hm0.trans hm1).alloc _)).trans' (Mod.set3 (o := 0) (S := fun k => k = R) rfl) (by rintro i hi rfl; omega)⟩
theorem ring_pop {r : List Store} {f : Nat} {s : Store} {l : List Store} (hf : f < 4) (h2 : r.length = 4) (h4 : (s :: l).length ≤ 4) (h : ∀ k, k < (s :: l).length → r[(f + k) % 4]? = (s :: l)[k]?) :
    ∀ k, k < l.length → (r.set ((f + 0) % 4) zeroStore)[((f + 1) % 4 + k) % 4]? = l[k]? := by
  intro k hk
  simp only [List.length_cons] at h4 h
  rw [List.getElem?_set_ne (by omega), show ((f + 1) % 4 + k) % 4 = (f + (k + 1)) % 4 by omega, h (k + 1) (by omega)]
  rfl
theorem pop_some (w : World) (p : Nat) (s : Store) (l : List Store) (h : Buf w p (s :: l)) : Calls Try.prog 18 #[.pointer (some ⟨p, 0, none⟩)] w fun e w' => e = .returned (.tuple #[.agg s.cells.toArray, .bool true]) ∧ Buf w' p l ∧ Mod (fun k => k = p) w w' := by
  have hlt := h.lt
  go_enter Try.func18, Try.ntmps18
  go_upto_region 1 with fail
  have hm0 : Mod (fun _ => False) w (w.alloc (Obj.cells #[Value.int IntKind.u32 0, Value.int IntKind.i64 0, Value.int IntKind.u32 0] 24)) := (Mod.refl _ _).alloc _
  have hb := blk_new w (Obj.cells #[Value.int IntKind.u32 0, Value.int IntKind.i64 0, Value.int IntKind.u32 0] 24)
  obtain ⟨R, hR⟩ : ∃ R, R = w.heap.size := ⟨_, rfl⟩
  have hwR : w.heap.size ≤ R := by omega
  rw [← hR] at hb ⊢
  clear hR
  generalize w.alloc (Obj.cells #[Value.int IntKind.u32 0, Value.int IntKind.i64 0, Value.int IntKind.u32 0] 24) = w0 at *
  replace h := h.keep hm0 (fun x => x)
  go_wp2_with fail
  refine (head_any _ (some ⟨p, 0, none⟩) (s :: l) (.inr ⟨p, rfl, h⟩)).mono ?_
  rintro e w1 ⟨rfl, hm1⟩
  replace hb := hm1.at hb (fun x => x)
  replace h := h.keep hm1 (fun x => x)
  replace hm0 := hm0.trans hm1
  clear hm1
  rw [show some1 (s :: l) = true from rfl, show headOf (s :: l) = s from rfl]
  simp only [Store.cells]
  go_upto_region 3 with fail
  have hmA : Mod (fun _ => False) w1 (w1.alloc (Obj.cells #[Value.int IntKind.u32 s.addr, Value.int IntKind.i64 s.width, Value.int IntKind.u32 s.value] 24)) := (Mod.refl _ _).alloc _
  have hb4 := blk_new w1 (Obj.cells #[Value.int IntKind.u32 s.addr, Value.int IntKind.i64 s.width, Value.int IntKind.u32 s.value] 24)
  have hs1 := hm0.size
  obtain ⟨b4, hbe⟩ : ∃ b4, b4 = w1.heap.size := ⟨_, rfl⟩
  rw [← hbe] at hb4 ⊢
  have hp4 : p < b4 := by omega
  clear hbe
  generalize w1.alloc (Obj.cells #[Value.int IntKind.u32 s.addr, Value.int IntKind.i64 s.width, Value.int IntKind.u32 s.value] 24) = w2 at *
  replace hb := hmA.at hb (fun x => x)
  replace h := h.keep hmA (fun x => x)
  replace hm0 := hm0.trans hmA
  clear hmA
  have h4 := h.four
  have hfits := h.fits
  obtain ⟨r, f, e1, e2, e3, e4⟩ := h.ex
  have hrp := ring_pop e3 e2 h4 e4
  obtain ⟨s0, hs0⟩ : ∃ s0, r[(f + 0) % 4]? = some s0 := ⟨_, List.getElem?_eq_getElem (by rw [e2]; exact Nat.mod_lt _ (by omega))⟩
  have hcell := ringCells_at f (s :: l).length _ s0 hs0 e2
  have hat := at_ok w2 p r f (s :: l).length 0 e1 e2 e3 (by omega)
  have hset := ringCells_set f (s :: l).length ((f + 0) % 4) (Nat.mod_lt _ (by omega)) zeroStore e2
  have hr2 : (r.set ((f + 0) % 4) zeroStore).length = 4 := by rw [List.length_set]; exact e2
  generalize hq : (f + 0) % 4 = q at *
  generalize r.set q zeroStore = r2 at *
  have c0 : w2.cell? ⟨p, q * 3, none⟩ = some (.int .u32 s0.addr) := by rw [cell_of w2 e1, List.getElem?_toArray]; exact hcell 0 _ rfl
  have c1 : w2.cell? ⟨p, q * 3 + 1, none⟩ = some (.int .i64 s0.width) := by rw [cell_of w2 e1, List.getElem?_toArray]; exact hcell 1 _ rfl
  have c2 : w2.cell? ⟨p, q * 3 + 2, none⟩ = some (.int .u32 s0.value) := by rw [cell_of w2 e1, List.getElem?_toArray]; exact hcell 2 _ rfl
  have g0 := free_of w2 e1 (q * 3)
  have g1 := free_of w2 e1 (q * 3 + 1)
  have g2 := free_of w2 e1 (q * 3 + 2)
  have HE := Lib.hid (And.intro e1 (And.intro hset hrp))
  have hl3 : l.length ≤ 3 := by simp at h4; omega
  clear hcell hs0 e1 e2 e4 hset hq hrp h h4
  go_upto_region 4 with (go_at_call 26; refine hat.mono ?_; rintro e w3 ⟨rfl, m, rfl⟩)
  have hnew := set3 (w := w2.drewN m) (o := q * 3) (x := .int .u32 0) (y := .int .i64 0) (z := .int .u32 0) HE.out.1
  have hm3 := Mod.set3 (w := w2.drewN m) (p := p) (o := q * 3) (x := .int .u32 0) (y := .int .i64 0) (z := .int .u32 0) (S := fun k => k = p) rfl
  have hnew2 : ((((w2.drewN m).setCell ⟨p, q * 3, none⟩ (.int .u32 0)).setCell ⟨p, q * 3 + 1, none⟩ (.int .i64 0)).setCell ⟨p, q * 3 + 2, none⟩ (.int .u32 0)).heap[p]? = some (.cells (ringCells r2 f (s :: l).length).toArray 63 (0, 0)) :=
    hnew.trans (congrArg (fun c => some (Obj.cells c 63 (0, 0))) HE.out.2.1)
  have hrp := Lib.hid HE.out.2.2
  have hm4 : Mod (fun k => k = p) w2 ((((w2.drewN m).setCell ⟨p, q * 3, none⟩ (.int .u32 0)).setCell ⟨p, q * 3 + 1, none⟩ (.int .i64 0)).setCell ⟨p, q * 3 + 2, none⟩ (.int .u32 0)) := (Mod.drewN' w2 m).trans hm3
  generalize (((w2.drewN m).setCell ⟨p, q * 3, none⟩ (.int .u32 0)).setCell ⟨p, q * 3 + 1, none⟩ (.int .i64 0)).setCell ⟨p, q * 3 + 2, none⟩ (.int .u32 0) = w3 at *
  clear hnew hm3 HE c0 c1 c2 g0 g1 g2 hat
  have hbR := hm4.at hb (by omega)
  have hb4' := hm4.at hb4 (by omega)
  have c12 : w3.cell? ⟨p, 12, none⟩ = some (.int .i64 f) := by rw [cell_of w3 hnew2, List.getElem?_toArray]; exact ringCells_first f _ hr2
  have c13 : w3.cell? ⟨p, 13, none⟩ = some (.int .i64 (s :: l).length) := by rw [cell_of w3 hnew2, List.getElem?_toArray]; exact ringCells_n f _ hr2
  have g12 := free_of w3 hnew2 12
  have g13 := free_of w3 hnew2 13
  rw [List.length_cons, show ((l.length + 1 : Nat) : Int) = (l.length : Int) + 1 by omega] at c13
  have hN := Lib.hid hnew2
  clear hnew2
  go_upto_region 6 with fail
  have e12 : ((f : Int) + 1) % 4 = (((f + 1) % 4 : Nat) : Int) := by omega
  rw [e12]
  have n1 := heap_setCell_same w3 p 12 _ _ (.int .i64 (((f + 1) % 4 : Nat) : Int)) hN.out
  rw [ringCells_setF _ _ _ hr2] at n1
  have n2 := heap_setCell_same _ p 13 _ _ (.int .i64 (l.length : Nat)) n1
  rw [ringCells_setN _ _ _ hr2] at n2
  have hm5 : Mod (fun k => k = p) w3 ((w3.setCell ⟨p, 12, none⟩ (.int .i64 (((f + 1) % 4 : Nat) : Int))).setCell ⟨p, 13, none⟩ (.int .i64 l.length)) := ((Mod.refl (fun k => k = p) w3).setCell (.inl rfl) _).setCell (.inl rfl) _
  generalize (w3.setCell ⟨p, 12, none⟩ (.int .i64 (((f + 1) % 4 : Nat) : Int))).setCell ⟨p, 13, none⟩ (.int .i64 l.length) = w4 at *
  have hm6 := hm4.trans hm5
  clear hm4 hm5 hN c12 c13 g12 g13 n1 e12 hbR hb4'
  have hbR := hm6.at hb (by omega)
  have hb4' := hm6.at hb4 (by omega)
  have r0 : w4.cell? ⟨R, 0, none⟩ = some (.int .u32 0) := cell_of w4 hbR 0
  have r1 : w4.cell? ⟨R, 1, none⟩ = some (.int .i64 0) := cell_of w4 hbR 1
  have r2' : w4.cell? ⟨R, 2, none⟩ = some (.int .u32 0) := cell_of w4 hbR 2
  have f0 := free_of w4 hbR 0
  have f1 := free_of w4 hbR 1
  have f2 := free_of w4 hbR 2
  have k0 : w4.cell? ⟨b4, 0, none⟩ = some (.int .u32 s.addr) := cell_of w4 hb4' 0
  have k1 : w4.cell? ⟨b4, 1, none⟩ = some (.int .i64 s.width) := cell_of w4 hb4' 1
  have k2 : w4.cell? ⟨b4, 2, none⟩ = some (.int .u32 s.value) := cell_of w4 hb4' 2
  go_wp2
  have hmR := Mod.set3 (w := w4) (p := R) (o := 0) (x := .int .u32 s.addr) (y := .int .i64 s.width) (z := .int .u32 s.value) (S := fun k => k = R) rfl
  refine bodyPost_ret (head_res (s := s) rfl rfl rfl (set3 (o := 0) hbR)) rfl ⟨rfl, ⟨⟨r2, (f + 1) % 4, hmR.at n2 (by omega), hr2, Nat.mod_lt _ (by omega), hrp.out⟩, by omega, fun x hx => hfits x (by simp [hx])⟩, ?_⟩
  exact ((hm0.mono (T := fun k => k = p) (fun _ _ f => f.elim)).trans hm6).trans' hmR (by rintro i hi rfl; omega)
/-- The stores behind a Pop. -/
theorem pop_ok (w : World) (p : Nat) (l : List Store) (h : Buf w p l) : Calls Try.prog 18 #[.pointer (some ⟨p, 0, none⟩)] w fun e w' => e = .returned (.tuple #[.agg (headOf l).cells.toArray, .bool (some1 l)]) ∧ Buf w' p (l.drop 1) ∧ Mod (fun k => k = p) w w' := by
  cases l with
  | nil =>
    refine (pop_nil w (some ⟨p, 0, none⟩) (.inr ⟨p, rfl, h⟩)).mono ?_
    rintro e w' ⟨rfl, hm⟩
    exact ⟨rfl, h.keep hm (fun x => x), hm.mono (fun _ _ f => f.elim)⟩
  | cons s l => exact pop_some w p s l h
end
end Go.Proofs.Ytknjlmpjkkkilaa
