/- Contracts of image's access, Write and Read. -/
import Derived.Test.YtbpjbhcehgeggaaImgD
namespace Go.Proofs.Ytbpjbhcehgeggaa
open Go.RowKit
set_option linter.unusedVariables false
set_option linter.unusedSimpArgs false
attribute [local go_sem] World.cell? World.frozen? heap_drew newKey_nil newKey_cons

def widthsMap : Obj := .map #[{ key := Value.int IntKind.i64 1, val := Value.bool true, born := 0 }, { key := Value.int IntKind.i64 2, val := Value.bool true, born := 1 }, { key := Value.int IntKind.i64 4, val := Value.bool true, born := 2 }] 3
def wide (n : Int) : Prop := n = 1 ∨ n = 2 ∨ n = 4

theorem widths_yes (w : World) (r : Nat) (hr : w.heap[r]? = some widthsMap) (n : Int) (h : wide n) :
    (Instr.lookup 56 (.map (some r)) (.int .i64 n) false).run Try.prog w = .ok (.bool true) w := by
  rcases h with rfl | rfl | rfl
  · exact run_lookup_hit (P := Try.prog) _ 3 4 .i64 Try.underlying56 Try.underlying3 w r _ _ hr 1 0 (.bool true) rfl false
  · exact run_lookup_hit (P := Try.prog) _ 3 4 .i64 Try.underlying56 Try.underlying3 w r _ _ hr 2 1 (.bool true) rfl false
  · exact run_lookup_hit (P := Try.prog) _ 3 4 .i64 Try.underlying56 Try.underlying3 w r _ _ hr 4 2 (.bool true) rfl false
theorem widths_no (w : World) (r : Nat) (hr : w.heap[r]? = some widthsMap) (n : Int) (h : ¬ wide n) :
    (Instr.lookup 56 (.map (some r)) (.int .i64 n) false).run Try.prog w = .ok (.bool false) w := by
  have h1 : (n == 1) = false := by simp; intro e; exact h (.inl e)
  have h2 : (n == 2) = false := by simp; intro e; exact h (.inr (.inl e))
  have h3 : (n == 4) = false := by simp; intro e; exact h (.inr (.inr e))
  exact run_lookup_miss (P := Try.prog) _ 3 4 .i64 Try.underlying56 Try.underlying3 (.bool false) (fun w => by kernel_rfl) w r _ _ hr n (by simp [Instr.findNow, Instr.sameNow, h1, h2, h3]) false

theorem access_arg (p d : Nat) (a wd : Int) (bs : List Int) (f : Value) (w : World) (h : Img w p d bs) (hw : ¬ wide wd) :
    Calls Try.prog 23 #[.pointer (some ⟨p, 0, none⟩), .int .u32 a, .int .i64 wd, f] w fun e w' => e = .returned (.int .i64 2) ∧ Mod (fun _ => False) w w' := by
  have hmm := @run_makeMap Try.prog
  have hins := run_insert_new (P := Try.prog) 56 3 4 .i64 Try.underlying56 Try.underlying3
  have hm0 : Mod (fun _ => False) w (w.alloc widthsMap) := (Mod.refl _ _).alloc _
  have hi0 := h.keep hm0 (fun x => x) (fun x => x)
  have hr0 := blk_new w widthsMap
  go_enter Try.func23, Try.ntmps23
  go_wp2_with fail
  clear hmm hins
  change Calls _ _ _ (w.alloc widthsMap) _
  generalize w.alloc widthsMap = w1 at *
  obtain ⟨cap, rest, e1, e2, e3, e4⟩ := hi0.ex
  have hl := widths_no w1 _ hr0 wd hw
  refine (none_not p _ _ _ _ (by rw [cell_of w1 e1]; rfl)).mono ?_
  rintro e w2 ⟨rfl, rfl⟩
  go_wp2_with fail
  go_ret
  exact ⟨rfl, hm0⟩

theorem access_align (p d : Nat) (a wd : Int) (bs : List Int) (f : Value) (w : World) (h : Img w p d bs) (ha : 0 ≤ a) (ha4 : a ≤ 4294967295) (hw : wide wd) (hal : (a % wd != 0) = true) :
    Calls Try.prog 23 #[.pointer (some ⟨p, 0, none⟩), .int .u32 a, .int .i64 wd, f] w fun e w' => e = .returned (.int .i64 120) ∧ Mod (fun _ => False) w w' := by
  have hmm := @run_makeMap Try.prog
  have hins := run_insert_new (P := Try.prog) 56 3 4 .i64 Try.underlying56 Try.underlying3
  have hm0 : Mod (fun _ => False) w (w.alloc widthsMap) := (Mod.refl _ _).alloc _
  have hi0 := h.keep hm0 (fun x => x) (fun x => x)
  have hr0 := blk_new w widthsMap
  go_enter Try.func23, Try.ntmps23
  go_wp2_with fail
  clear hmm hins
  change Calls _ _ _ (w.alloc widthsMap) _
  generalize w.alloc widthsMap = w1 at *
  obtain ⟨cap, rest, e1, e2, e3, e4⟩ := hi0.ex
  have hl := widths_yes w1 _ hr0 wd hw
  refine (none_not p _ _ _ _ (by rw [cell_of w1 e1]; rfl)).mono ?_
  rintro e w2 ⟨rfl, rfl⟩
  have hwd : 1 ≤ wd ∧ wd ≤ 4 := by rcases hw with rfl | rfl | rfl <;> omega
  have hwz : (wd == 0) = false := by simp; omega
  clear hw
  go_wp2_with fail
  go_ret
  exact ⟨rfl, hm0⟩

theorem access_range (p d : Nat) (a wd : Int) (bs : List Int) (f : Value) (w : World) (h : Img w p d bs) (ha : 0 ≤ a) (ha4 : a ≤ 4294967295) (hw : wide wd) (hal : (a % wd != 0) = false) (hr : (bs.length : Int) ≤ a) :
    Calls Try.prog 23 #[.pointer (some ⟨p, 0, none⟩), .int .u32 a, .int .i64 wd, f] w fun e w' => e = .returned (.int .i64 4) ∧ Mod (fun _ => False) w w' := by
  have hmm := @run_makeMap Try.prog
  have hins := run_insert_new (P := Try.prog) 56 3 4 .i64 Try.underlying56 Try.underlying3
  have hm0 : Mod (fun _ => False) w (w.alloc widthsMap) := (Mod.refl _ _).alloc _
  have hi0 := h.keep hm0 (fun x => x) (fun x => x)
  have hr0 := blk_new w widthsMap
  have hsm := h.small
  go_enter Try.func23, Try.ntmps23
  go_wp2_with fail
  clear hmm hins
  change Calls _ _ _ (w.alloc widthsMap) _
  generalize w.alloc widthsMap = w1 at *
  obtain ⟨cap, rest, e1, e2, e3, e4⟩ := hi0.ex
  have hl := widths_yes w1 _ hr0 wd hw
  refine (none_not p _ _ _ _ (by rw [cell_of w1 e1]; rfl)).mono ?_
  rintro e w2 ⟨rfl, rfl⟩
  have hwd : 1 ≤ wd ∧ wd ≤ 4 := by rcases hw with rfl | rfl | rfl <;> omega
  have hwz : (wd == 0) = false := by simp; omega
  clear hw
  go_wp2_with fail
  go_ret
  exact ⟨rfl, hm0⟩

theorem access_write (p d c a wd : Nat) (v : Int) (bs : List Int) (t2 : TypeId) (w : World) (h : Img w p d bs) (hw : wide wd) (hal : a % wd = 0) (hr : a + wd ≤ bs.length) (h0 : 0 ≤ v) (h4 : v ≤ 4294967295)
    (hdc : d ≠ c) (hc : w.heap[c]? = some (.cells #[.int .u32 v] t2 (0, 0))) :
    Calls Try.prog 23 #[.pointer (some ⟨p, 0, none⟩), .int .u32 a, .int .i64 wd, .func (.func 24) #[] #[.pointer (some ⟨c, 0, none⟩)]] w fun e w' => e = .returned (.int .i64 0) ∧
      Img w' p d (over bs a (le v wd)) ∧ Mod (· = d) w w' := by
  have hmm := @run_makeMap Try.prog
  have hins := run_insert_new (P := Try.prog) 56 3 4 .i64 Try.underlying56 Try.underlying3
  have hm0 : Mod (fun _ => False) w (w.alloc widthsMap) := (Mod.refl _ _).alloc _
  have hi0 := h.keep hm0 (fun x => x) (fun x => x)
  have hc0 := blk_old w widthsMap hc
  have hr0 := blk_new w widthsMap
  have hsm := h.small
  go_enter Try.func23, Try.ntmps23
  go_wp2_with fail
  clear hmm hins
  change Calls _ _ _ (w.alloc widthsMap) _
  generalize w.alloc widthsMap = w1 at *
  obtain ⟨cap, rest, e1, e2, e3, e4⟩ := hi0.ex
  have hl := widths_yes w1 _ hr0 wd hw
  refine (none_not p _ _ _ _ (by rw [cell_of w1 e1]; rfl)).mono ?_
  rintro e w2 ⟨rfl, rfl⟩
  have hwd : 1 ≤ wd ∧ wd ≤ 4 := by rcases hw with h | h | h <;> omega
  have hwz : ((wd : Int) == 0) = false := by simp; omega
  have hal' : ((a : Int) % (wd : Int) != 0) = false := by simp; omega
  have hcl : bs.length ≤ cap := by rw [← e3]; simp
  have hcm : cap ≤ 9223372036854775807 := e4
  clear hw hal
  go_wp2_with fail
  refine (write1_ok d a c wd v (u8s bs ++ rest) t2 _ hwd.2 h0 h4 hdc e2 (by simp; omega) hc0).mono ?_
  rintro e w2 ⟨rfl, hd2, hm2⟩
  go_wp2_with fail
  go_ret
  have hol := over_length bs a (le v wd) (by simp; omega)
  refine ⟨rfl, ⟨⟨cap, rest, ?_, ?_, ?_, e4⟩, h.ne, by omega, ?_⟩, (hm0.mono (fun _ _ x => x.elim)).trans hm2⟩
  · rw [hol]; exact hm2.at e1 h.ne
  · rw [hd2, over_append _ _ _ _ (by simp; omega), over_u8s]
  · rw [← e3]; simp [hol]
  · intro x hx; rcases mem_over hx with hx | hx
    · exact h.bytes x hx
    · exact le_range _ _ x hx

theorem access_read (p d c a wd : Nat) (bs : List Int) (t2 : TypeId) (w : World) (h : Img w p d bs) (hw : wide wd) (hal : a % wd = 0) (hr : a + wd ≤ bs.length)
    (hdc : d ≠ c) (hc : w.heap[c]? = some (.cells #[.int .u32 0] t2 (0, 0))) :
    Calls Try.prog 23 #[.pointer (some ⟨p, 0, none⟩), .int .u32 a, .int .i64 wd, .func (.func 25) #[] #[.pointer (some ⟨c, 0, none⟩)]] w fun e w' => e = .returned (.int .i64 0) ∧
      w'.heap[c]? = some (.cells #[.int .u32 (leSum ((bs.drop a).take wd))] t2 (0, 0)) ∧ Mod (· = c) w w' := by
  have hmm := @run_makeMap Try.prog
  have hins := run_insert_new (P := Try.prog) 56 3 4 .i64 Try.underlying56 Try.underlying3
  have hm0 : Mod (fun _ => False) w (w.alloc widthsMap) := (Mod.refl _ _).alloc _
  have hi0 := h.keep hm0 (fun x => x) (fun x => x)
  have hc0 := blk_old w widthsMap hc
  have hr0 := blk_new w widthsMap
  have hsm := h.small
  go_enter Try.func23, Try.ntmps23
  go_wp2_with fail
  clear hmm hins
  change Calls _ _ _ (w.alloc widthsMap) _
  generalize w.alloc widthsMap = w1 at *
  obtain ⟨cap, rest, e1, e2, e3, e4⟩ := hi0.ex
  have hl := widths_yes w1 _ hr0 wd hw
  refine (none_not p _ _ _ _ (by rw [cell_of w1 e1]; rfl)).mono ?_
  rintro e w2 ⟨rfl, rfl⟩
  have hwd : 1 ≤ wd ∧ wd ≤ 4 := by rcases hw with h | h | h <;> omega
  have hwz : ((wd : Int) == 0) = false := by simp; omega
  have hal' : ((a : Int) % (wd : Int) != 0) = false := by simp; omega
  have hcl : bs.length ≤ cap := by rw [← e3]; simp
  have hcm : cap ≤ 9223372036854775807 := e4
  have hs : ∀ j v, (u8s ((bs.drop a).take wd))[j]? = some v → (u8s bs ++ rest)[a + j]? = some v := by
    intro j v hv
    rw [u8s_get, List.getElem?_take] at hv
    split at hv
    · rw [List.getElem?_drop] at hv
      rw [List.getElem?_append_left (by simp; omega), u8s_get]; exact hv
    · simp at hv
  have HS := Lib.hid hs
  clear hw hal hs
  go_wp2_with fail
  refine (read1_ok d a c wd (u8s bs ++ rest) ((bs.drop a).take wd) t2 _ _ hwd.2 hdc e2 (by simp; omega) HS.out (fun x hx => h.bytes x (List.mem_of_mem_drop (List.mem_of_mem_take hx))) hc0).mono ?_
  rintro e w2 ⟨rfl, hd2, hm2⟩
  go_wp2_with fail
  go_ret
  exact ⟨rfl, hd2, (hm0.mono (fun _ _ x => x.elim)).trans hm2⟩
end Go.Proofs.Ytbpjbhcehgeggaa
