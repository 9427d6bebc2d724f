/- Contracts of image's Write, Read, Bytes, Copy, Same. -/
import Derived.Test.YtbpjbhcehgeggaaImgE
namespace Go.Proofs.Ytbpjbhcehgeggaa
open Go.RowKit
set_option linter.unusedVariables false
set_option linter.unusedSimpArgs false
attribute [local go_sem] World.cell? World.frozen? heap_drew newKey_nil newKey_cons
attribute [local go_sem ↓] blk_new

instance (n : Int) : Decidable (wide n) := by unfold wide; infer_instance
/-- Why an access is refused (0: it isn't). -/
def refusal (n : Nat) (a wd : Int) : Int := if ¬ wide wd then 2 else if a % wd ≠ 0 then 120 else if (n : Int) ≤ a then 4 else 0

theorem access_no (p d : Nat) (a wd no : Int) (bs : List Int) (f : Value) (w : World) (h : Img w p d bs) (ha : 0 ≤ a) (ha4 : a ≤ 4294967295) (hno : refusal bs.length a wd = no) (hn0 : no ≠ 0) :
    Calls Try.prog 23 #[.pointer (some ⟨p, 0, none⟩), .int .u32 a, .int .i64 wd, f] w fun e w' => e = .returned (.int .i64 no) ∧ Mod (fun _ => False) w w' := by
  unfold refusal at hno
  split at hno
  · subst hno; rename_i hw; exact access_arg p d a wd bs f w h hw
  · rename_i hw
    have hw : wide wd := Classical.not_not.1 hw
    split at hno
    · subst hno; rename_i hal; exact access_align p d a wd bs f w h ha ha4 hw (by simpa using hal)
    · rename_i hal
      split at hno
      · subst hno; rename_i hr; exact access_range p d a wd bs f w h ha ha4 hw (by simpa using hal) hr
      · exact (hn0 hno.symm).elim

theorem refusal_zero {n : Nat} {a wd : Int} (ha : 0 ≤ a) (h : refusal n a wd = 0) : wide wd ∧ a % wd = 0 ∧ a < n := by
  unfold refusal at h
  split at h
  · omega
  · rename_i hw
    split at h
    · omega
    · rename_i hal
      split at h
      · omega
      · exact ⟨Classical.not_not.1 hw, Classical.not_not.1 hal, by omega⟩

/-- Where sizes are multiples of 4, an access that isn't refused lies within. -/
theorem refusal_fits {n : Nat} {a wd : Int} (ha : 0 ≤ a) (hn : n % 4 = 0) (h : refusal n a wd = 0) : wide wd ∧ a % wd = 0 ∧ a + wd ≤ n := by
  obtain ⟨h1, h2, h3⟩ := refusal_zero ha h
  refine ⟨h1, h2, ?_⟩
  rcases h1 with rfl | rfl | rfl <;> omega

theorem write_no (p d : Nat) (a wd v no : Int) (bs : List Int) (w : World) (h : Img w p d bs) (ha : 0 ≤ a) (ha4 : a ≤ 4294967295) (hno : refusal bs.length a wd = no) (hn0 : no ≠ 0) :
    Calls Try.prog 13 #[.pointer (some ⟨p, 0, none⟩), .int .u32 a, .int .i64 wd, .int .u32 v] w fun e w' => e = .returned (.int .i64 no) ∧ Mod (fun _ => False) w w' := by
  go_enter Try.func13, Try.ntmps13
  go_wp2_with fail
  have hm0 : Mod (fun _ => False) w (w.alloc (Obj.cells #[Value.int IntKind.u32 v] 23)) := (Mod.refl _ _).alloc _
  refine (access_no p d a wd no bs _ _ (h.keep hm0 (fun x => x) (fun x => x)) ha ha4 hno hn0).mono ?_
  rintro e w1 ⟨rfl, hm⟩
  go_wp2_with fail
  go_ret
  exact ⟨rfl, hm0.trans hm⟩

theorem write_yes (p d a wd : Nat) (v : Int) (bs : List Int) (w : World) (h : Img w p d bs) (hw : wide wd) (hal : a % wd = 0) (hr : a + wd ≤ bs.length) (h0 : 0 ≤ v) (h4 : v ≤ 4294967295) :
    Calls Try.prog 13 #[.pointer (some ⟨p, 0, none⟩), .int .u32 a, .int .i64 wd, .int .u32 v] w fun e w' => e = .returned (.int .i64 0) ∧
      Img w' p d (over bs a (le v wd)) ∧ Mod (· = d) w w' := by
  have hlt := h.lt
  go_enter Try.func13, Try.ntmps13
  go_wp2_with fail
  have hm0 : Mod (fun _ => False) w (w.alloc (Obj.cells #[Value.int IntKind.u32 v] 23)) := (Mod.refl _ _).alloc _
  refine (access_write p d w.heap.size a wd v bs 23 _ (h.keep hm0 (fun x => x) (fun x => x)) hw hal hr h0 h4 (by omega) (blk_new _ _)).mono ?_
  rintro e w1 ⟨rfl, hi, hm⟩
  go_wp2_with fail
  go_ret
  exact ⟨rfl, hi, (hm0.mono (fun _ _ x => x.elim)).trans hm⟩

theorem read_no (p d : Nat) (a wd no : Int) (bs : List Int) (w : World) (h : Img w p d bs) (ha : 0 ≤ a) (ha4 : a ≤ 4294967295) (hno : refusal bs.length a wd = no) (hn0 : no ≠ 0) :
    Calls Try.prog 14 #[.pointer (some ⟨p, 0, none⟩), .int .u32 a, .int .i64 wd] w fun e w' => e = .returned (.tuple #[.int .u32 0, .int .i64 no]) ∧ Mod (fun _ => False) w w' := by
  go_enter Try.func14, Try.ntmps14
  go_wp2_with fail
  have hm0 : Mod (fun _ => False) w (w.alloc (Obj.cells #[Value.int IntKind.u32 0] 23)) := (Mod.refl _ _).alloc _
  refine (access_no p d a wd no bs _ _ (h.keep hm0 (fun x => x) (fun x => x)) ha ha4 hno hn0).mono ?_
  rintro e w1 ⟨rfl, hm⟩
  have hc := hm.at (blk_new w (Obj.cells #[Value.int IntKind.u32 0] 23)) (fun x => x)
  go_wp2_with fail
  go_ret2
  exact ⟨rfl, hm0.trans hm⟩

theorem read_yes (p d a wd : Nat) (bs : List Int) (w : World) (h : Img w p d bs) (hw : wide wd) (hal : a % wd = 0) (hr : a + wd ≤ bs.length) :
    Calls Try.prog 14 #[.pointer (some ⟨p, 0, none⟩), .int .u32 a, .int .i64 wd] w fun e w' => e = .returned (.tuple #[.int .u32 (leSum ((bs.drop a).take wd)), .int .i64 0]) ∧ Mod (fun _ => False) w w' := by
  have hlt := h.lt
  go_enter Try.func14, Try.ntmps14
  go_wp2_with fail
  have hm0 : Mod (fun _ => False) w (w.alloc (Obj.cells #[Value.int IntKind.u32 0] 23)) := (Mod.refl _ _).alloc _
  refine (access_read p d w.heap.size a wd bs 23 _ (h.keep hm0 (fun x => x) (fun x => x)) hw hal hr (by omega) (blk_new _ _)).mono ?_
  rintro e w1 ⟨rfl, hc, hm⟩
  go_wp2_with fail
  go_ret2
  refine ⟨rfl, ((hm0.mono (T := fun x => x = w.heap.size) (fun _ _ x => x.elim)).trans hm).mono (fun k hk e => by omega)⟩
end Go.Proofs.Ytbpjbhcehgeggaa
