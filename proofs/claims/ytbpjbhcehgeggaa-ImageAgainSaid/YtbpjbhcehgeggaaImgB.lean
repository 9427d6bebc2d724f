/- Contracts of image's SetLine and Line. -/
import Derived.Test.YtbpjbhcehgeggaaImgA
namespace Go.Proofs.Ytbpjbhcehgeggaa
open Go.RowKit
set_option linter.unusedVariables false
set_option linter.unusedSimpArgs false

theorem info_u8_size : (Try.prog.info? 5).map (·.size) = some 1 := by kernel_rfl

/-- A list with another one laid over it from o on. -/
def over {α : Type} (l : List α) (o : Nat) (m : List α) : List α := l.take o ++ (m ++ l.drop (o + m.length))
theorem over_length {α : Type} (l : List α) (o : Nat) (m : List α) (h : o + m.length ≤ l.length) : (over l o m).length = l.length := by simp [over]; omega
theorem over_append {α : Type} (l r : List α) (o : Nat) (m : List α) (h : o + m.length ≤ l.length) : over (l ++ r) o m = over l o m ++ r := by
  simp [over, List.take_append, List.drop_append, show o - l.length = 0 by omega, show o + m.length - l.length = 0 by omega]
theorem over_u8s (l : List Int) (o : Nat) (m : List Int) : over (u8s l) o (u8s m) = u8s (over l o m) := by simp [over, u8s]
theorem mem_over {α : Type} {l : List α} {o : Nat} {m : List α} {x : α} (h : x ∈ over l o m) : x ∈ l ∨ x ∈ m := by
  simp only [over, List.mem_append] at h
  rcases h with h | h | h
  · exact .inl (List.mem_of_mem_take h)
  · exact .inr h
  · exact .inl (List.mem_of_mem_drop h)

/-- The function that SetLine hands on: it lays 16 bytes over a line. -/
theorem setline1_ok (d o c : Nat) (cur : List Value) (ls : List Int) (t1 t2 : TypeId) (w : World) (h16 : ls.length = 16) (hd : w.heap[d]? = some (.cells cur.toArray t1 (0, 0))) (hc : w.heap[c]? = some (.cells (u8s ls).toArray t2 (0, 0)))
    (ho : o + 16 ≤ cur.length) :
    Calls Try.prog 19 #[.slice (some ⟨d, o, none⟩) 16 16, .pointer (some ⟨c, 0, none⟩)] w fun e w' => e = .returned (.tuple #[]) ∧
      w'.heap[d]? = some (.cells (over cur o (u8s ls)).toArray t1 (0, 0)) ∧ Mod (· = d) w w' := by
  have hcp := run_copy_row (P := Try.prog) w 22 22 3 5 d o 16 16 ⟨c, 0, none⟩ 16 16 cur.toArray t1 (u8s ls)
    under_bytes info_u8_size hd (by simp [h16]) (src_of (rest := []) (by simpa using hc)) (by simpa [h16] using ho) (u8s_one ls)
  simp only [u8s_length, h16] at hcp
  go_enter Try.func19, Try.ntmps19
  go_wp2
  go_end0
  refine ⟨rfl, ?_, (Mod.refl (· = d) _).setRow (.inl rfl) _⟩
  rw [setRow_heap _ _ _ _ _ _ hd]
  simp [over, h16]

/-- The function that Line hands on: it takes the bytes of a line. -/
theorem line1_ok (d o c : Nat) (cur out : List Value) (ls : List Int) (t1 t2 : TypeId) (w : World) (h16 : ls.length = 16) (hd : w.heap[d]? = some (.cells cur.toArray t1 (0, 0))) (hc : w.heap[c]? = some (.cells out.toArray t2 (0, 0)))
    (hout : out.length = 16) (hs : ∀ j v, (u8s ls)[j]? = some v → cur[o + j]? = some v) :
    Calls Try.prog 20 #[.slice (some ⟨d, o, none⟩) 16 16, .pointer (some ⟨c, 0, none⟩)] w fun e w' => e = .returned (.tuple #[]) ∧
      w'.heap[c]? = some (.cells (u8s ls).toArray t2 (0, 0)) ∧ Mod (· = c) w w' := by
  have hcp := run_copy_row (P := Try.prog) w 22 22 3 5 c 0 16 16 ⟨d, o, none⟩ 16 16 out.toArray t2 (u8s ls)
    under_bytes info_u8_size hc (by simp [h16]) (fun j v hv => by rw [addr_add, cell_of w hd]; simpa using hs j v hv) (by simp [h16, hout]) (u8s_one ls)
  have e5 : List.take 0 out ++ u8s ls ++ List.drop (0 + (u8s ls).length) out = u8s ls := by simp [h16, hout]
  rw [show out.toArray.toList = out from rfl, e5] at hcp
  simp only [u8s_length, h16] at hcp
  go_enter Try.func20, Try.ntmps20
  go_wp2
  go_end0
  exact ⟨rfl, setRow_heap _ _ _ _ _ _ hc, (Mod.refl (· = c) _).setRow (.inl rfl) _⟩

/-- line, of a line that is there, that is to be set. -/
theorem line_set (p d c k : Nat) (bs ls : List Int) (t2 : TypeId) (w : World) (h : Img w p d bs) (h16 : ls.length = 16) (hls : ∀ x ∈ ls, 0 ≤ x ∧ x ≤ 255) (hk : k < bs.length / 16) (hc : w.heap[c]? = some (.cells (u8s ls).toArray t2 (0, 0))) :
    Calls Try.prog 18 #[.pointer (some ⟨p, 0, none⟩), .int .u32 k, .func (.func 19) #[] #[.pointer (some ⟨c, 0, none⟩)]] w fun e w' => e = .returned (.int .i64 0) ∧
      Img w' p d (over bs (k * 16) ls) ∧ Mod (· = d) w w' := by
  obtain ⟨cap, rest, e1, e2, e3, e4⟩ := h.ex
  have c1 := cell_of w e1 0
  simp at c1
  have hsm := h.small
  have hm : cap ≤ 9223372036854775807 := e4
  have hcl : bs.length ≤ cap := by rw [← e3]; simp
  have hko : k * 16 + 16 ≤ bs.length := by omega
  go_enter Try.func18, Try.ntmps18
  go_wp2_with (go_at_call 21; refine (none_not p _ _ _ _ c1).mono ?_; rintro e w' ⟨rfl, rfl⟩)
  refine (setline1_ok d (k * 16) c (u8s bs ++ rest) ls _ t2 w h16 e2 hc (by simp; omega)).mono ?_
  rintro e w1 ⟨rfl, hd1, hm1⟩
  go_wp2
  go_ret
  have hl := over_length bs (k * 16) ls (by omega)
  refine ⟨rfl, ⟨⟨cap, rest, ?_, ?_, ?_, e4⟩, h.ne, by omega, ?_⟩, hm1⟩
  · rw [hl]; exact hm1.at e1 h.ne
  · rw [hd1, over_append _ _ _ _ (by simp; omega), over_u8s]
  · rw [← e3]; simp [hl]
  · intro x hx; rcases mem_over hx with hx | hx
    · exact h.bytes x hx
    · exact hls x hx

/-- line, of a line that is there, that is to be read into block c. -/
theorem line_get (p d c k : Nat) (bs : List Int) (out : List Value) (t2 : TypeId) (w : World) (h : Img w p d bs) (hk : k < bs.length / 16) (hc : w.heap[c]? = some (.cells out.toArray t2 (0, 0))) (hout : out.length = 16) :
    Calls Try.prog 18 #[.pointer (some ⟨p, 0, none⟩), .int .u32 k, .func (.func 20) #[] #[.pointer (some ⟨c, 0, none⟩)]] w fun e w' => e = .returned (.int .i64 0) ∧
      w'.heap[c]? = some (.cells (u8s ((bs.drop (k * 16)).take 16)).toArray t2 (0, 0)) ∧ Mod (· = c) w w' := by
  obtain ⟨cap, rest, e1, e2, e3, e4⟩ := h.ex
  have c1 := cell_of w e1 0
  simp at c1
  have hsm := h.small
  have hm : cap ≤ 9223372036854775807 := e4
  have hcl : bs.length ≤ cap := by rw [← e3]; simp
  have hko : k * 16 + 16 ≤ bs.length := by omega
  have hs : ∀ j v, (u8s ((bs.drop (k * 16)).take 16))[j]? = some v → (u8s bs ++ rest)[k * 16 + j]? = some v := by
    intro j v hv
    rw [u8s_get, List.getElem?_take] at hv
    split at hv
    · rename_i hj
      rw [List.getElem?_drop] at hv
      rw [List.getElem?_append_left (by simp; omega), u8s_get]; exact hv
    · simp at hv
  go_enter Try.func18, Try.ntmps18
  go_wp2_with (go_at_call 21; refine (none_not p _ _ _ _ c1).mono ?_; rintro e w' ⟨rfl, rfl⟩)
  refine (line1_ok d (k * 16) c (u8s bs ++ rest) out ((bs.drop (k * 16)).take 16) _ t2 w (by simp; omega) e2 hc hout hs).mono ?_
  rintro e w1 ⟨rfl, hd1, hm1⟩
  go_wp2
  go_ret
  exact ⟨rfl, hd1, hm1⟩

/-- line, of a line that isn't there. -/
theorem line_none (p d : Nat) (k : Int) (bs : List Int) (f : Value) (w : World) (h : Img w p d bs) (h0 : 0 ≤ k) (h4 : k ≤ 4294967295) (hk : (bs.length : Int) / 16 ≤ k) :
    Calls Try.prog 18 #[.pointer (some ⟨p, 0, none⟩), .int .u32 k, f] w fun e w' => e = .returned (.int .i64 4) ∧ w = w' := by
  obtain ⟨cap, rest, e1, e2, e3, e4⟩ := h.ex
  have c1 := cell_of w e1 0
  simp at c1
  have hsm := h.small
  go_enter Try.func18, Try.ntmps18
  go_wp2_with (go_at_call 21; refine (none_not p _ _ _ _ c1).mono ?_; rintro e w' ⟨rfl, rfl⟩)
  go_ret
  exact ⟨rfl, rfl⟩
end Go.Proofs.Ytbpjbhcehgeggaa
