/- The plain law behind NetAll; lists of messages seen from the middle; what is sent, what came, what is on its way. -/
import Derived.Test.YtklokcndhkhdmaaNetT
import Derived.Test.YtklokcndhkhdmaaNetI
namespace Go.Proofs.Ytklokcndhkhdmaa
open Go.RowKit
set_option linter.unusedVariables false
set_option linter.unusedSimpArgs false

/-- Where a list and the same without its k0-th part ways first. -/
theorem first_diff {α : Type} (L : List α) (k0 : Nat) (h0 : k0 < L.length) (k : Nat) (ht : (L.eraseIdx k0).take k = L.take k) (hk : k ≤ (L.eraseIdx k0).length)
    (hs : k = (L.eraseIdx k0).length ∨ (L.eraseIdx k0)[k]? ≠ L[k]?) : L[k]? = L[k0]? ∧ (L.eraseIdx k0).drop k = L.drop (k + 1) := by
  have hl : (L.eraseIdx k0).length = L.length - 1 := by rw [List.length_eraseIdx, if_pos h0]
  have hge : k0 ≤ k := by
    rcases Nat.lt_or_ge k k0 with h | h
    · exfalso
      rcases hs with hs | hs
      · omega
      · apply hs; rw [List.getElem?_eraseIdx, if_pos h]
    · exact h
  have hstep : ∀ i, k0 ≤ i → i < k → L[i + 1]? = L[i]? := by
    intro i h1 h2
    have e1 : ((L.eraseIdx k0).take k)[i]? = (L.take k)[i]? := by rw [ht]
    rw [List.getElem?_take_of_lt h2, List.getElem?_take_of_lt h2, List.getElem?_eraseIdx, if_neg (by omega)] at e1
    exact e1
  refine ⟨?_, ?_⟩
  · have : ∀ d, k0 + d ≤ k → L[k0 + d]? = L[k0]? := by
      intro d
      induction d with
      | zero => intro _; rfl
      | succ d ih => intro h; rw [← ih (by omega)]; exact hstep (k0 + d) (by omega) (by omega)
    have := this (k - k0) (by omega)
    rwa [show k0 + (k - k0) = k by omega] at this
  · apply List.ext_getElem?
    intro j
    rw [List.getElem?_drop, List.getElem?_drop, List.getElem?_eraseIdx, if_neg (by omega)]
    congr 1
    omega

/-- What Deliver takes out. -/
theorem del_perm {L : List Msg} (h : 0 < L.length) (pick : Int) : L.Perm (delMsg L pick :: delList L pick) := by
  have hlt := pickAt_lt pick L.length h
  unfold delMsg delList
  rw [List.getElem?_eq_getElem hlt, List.eraseIdx_eq_take_drop_succ]
  generalize hk : pickAt pick L.length = k at *
  have e : L = L.take k ++ L[k] :: L.drop (k + 1) := by rw [← List.drop_eq_getElem_cons hlt, List.take_append_drop]
  have h2 : (L.take k ++ L[k] :: L.drop (k + 1)).Perm (L[k] :: (L.take k ++ L.drop (k + 1))) := List.perm_middle
  rw [← e] at h2
  exact h2

theorem del_len {L : List Msg} (h : 0 < L.length) (pick : Int) : (delList L pick).length = L.length - 1 := by
  unfold delList
  rw [List.length_eraseIdx, if_pos (pickAt_lt _ _ h)]
theorem del_le (L : List Msg) (pick : Int) : (delList L pick).length ≤ L.length := by
  unfold delList
  rw [List.length_eraseIdx]
  split <;> omega
theorem del_le1 (L : List Msg) (pick : Int) : (delList L pick).length ≤ L.length - 1 := by
  cases L with
  | nil => simp [delList]
  | cons x l => rw [del_len (by simp)]; omega
theorem delOk_eq (L : List Msg) : delOk L = decide (0 < L.length) := by cases L <;> simp [delOk]

abbrev MsgArgs (w : World) (a : Option Addr) (l : List Msg) : Prop := ArgList Msg.cells Msg.Fits 20 w a l
theorem Msgs.args {w : World} {q : Option Addr} {n c : Nat} {l : List Msg} (h : Msgs w (.slice q n c) l) : MsgArgs w q l := by
  refine ⟨h.fits, fun i m hi => ?_, h.row.len_le⟩
  have hl := (List.getElem?_eq_some_iff.1 hi).1
  obtain ⟨g, cap, m', hv, hm, hf, hr, _⟩ := h.at hl
  rw [hi] at hm
  cases hm
  simp only [Value.slice.injEq] at hv
  exact ⟨g, 0, hv.1, by simpa using hr⟩
/-- The end of a list, seen as a list. -/
theorem Msgs.drop_args {w : World} {g n c : Nat} {l : List Msg} (h : Msgs w (.slice (some ⟨g, 0, none⟩) n c) l) (k : Nat) (hk : k ≤ l.length) (a : Addr) (ha : a = ⟨g, k * 20, none⟩ ∨ k = l.length) : MsgArgs w (some a) (l.drop k) := by
  refine ⟨fun m hm => h.fits m (List.mem_of_mem_drop hm), fun i m hi => ?_, by have := h.row.len_le; rw [List.length_drop]; omega⟩
  rw [List.getElem?_drop] at hi
  have hl := (List.getElem?_eq_some_iff.1 hi).1
  obtain ⟨g', cap, m', hv, hm, hf, hr, _⟩ := h.at hl
  rw [hi] at hm
  cases hm
  simp only [Value.slice.injEq, Option.some.injEq, Addr.mk.injEq] at hv
  obtain ⟨⟨rfl, _⟩, _⟩ := hv
  rcases ha with rfl | ha
  · exact ⟨g, k * 20, rfl, by rw [← Nat.add_mul]; exact hr⟩
  · omega
/-- One is seen. -/
theorem ArgList.at {α : Type} {cells : α → List Value} {fits : α → Prop} {sz : Nat} {w : World} {a : Option Addr} {l : List α} (h : ArgList cells fits sz w a l) {i : Nat} (hi : i < l.length) : ∃ g o m, a = some ⟨g, o, none⟩ ∧ l[i]? = some m ∧ fits m ∧ w.rangeAt g (o + i * sz) (cells m) := by
  obtain ⟨g, o, e, hr⟩ := h.at_ i l[i] (List.getElem?_eq_getElem hi)
  exact ⟨g, o, l[i], e, List.getElem?_eq_getElem hi, h.fits _ (List.getElem_mem _), hr⟩

section
attribute [-go_sem] Instr.loadAt
attribute [local go_sem 500] run_loadAt_open
attribute [local go_sem] heap_drew
set_option maxHeartbeats 1000000 in
theorem refsame_args (w : World) (qa qb : Option Addr) (ca cb : Nat) (a b : List Msg) (ha : MsgArgs w qa a) (hb : MsgArgs w qb b) (hla : a.length ≤ 1000000) (hlb : b.length ≤ 1000000) :
    Calls Try.prog 18 #[.slice qa a.length ca, .slice qb b.length cb] w fun e w' => e = .returned (.bool (decide (a = b))) ∧ Mod (fun _ => False) w w' := by
  by_cases hn : a.length = b.length
  · go_enter Try.func18, Try.ntmps18
    go_wp2_with fail
    go_loopw [5] (fun i wr => ∃ j : Nat, j ≤ a.length ∧ i = .int .i64 j ∧ a.take j = b.take j ∧ Mod (fun _ => False) w wr) (fun i _ => a.length - (intOf i).toNat)
    case atStart => exact ⟨0, by omega, rfl, rfl, Mod.refl _ _⟩
    case round =>
      obtain ⟨j, hj, rfl, htk, hmo⟩ := hrel
      by_cases hlt : j < a.length
      · obtain ⟨g, og, x, rfl, hx, hxf, hxr⟩ := (ha.keep hmo).at hlt
        obtain ⟨g2, og2, y, rfl, hy, hyf, hyr⟩ := (hb.keep hmo).at (show j < b.length by omega)
        have hj0 : (0 : Int) ≤ (j : Int) := by omega
        have hja : (j : Int) < (a.length : Int) := by omega
        have hjb : (j : Int) < (b.length : Int) := by omega
        have hl1 := load_msg_at x hxf g (og + j * 20)
        have hl2 := load_msg_at y hyf g2 (og2 + j * 20)
        have hne := neq_msg (x := x) (y := y) (hx := hxf) (hy := hyf)
        obtain ⟨be, hbe⟩ : ∃ be, (!decide (x = y)) = be := ⟨_, rfl⟩
        rw [hbe] at hne
        go_upto_region 6 with fail
        go_cut [25] (fun v25 wx => v25 = .bool be ∧ Mod (fun _ => False) wr wx)
        case first =>
          go_region_held3 (fun w' => Mod (fun _ => False) wr w' ∧ w'.rangeAt g (og + j * 20) x.cells ∧ w'.rangeAt g2 (og2 + j * 20) y.cells) ((go_split_ands; refine keepRR hxr hyr ?_; (repeat first | exact Mod.refl _ _ | assumption | apply Mod.drew | apply Mod.drewN | apply Mod.alloc | (refine Mod.setCell ?_ (Or.inr (by (first | (with_reducible exact Nat.le_refl _) | ((try simp only [World.size_alloc, World.size_setCell, World.size_drew] at *); omega)))) _) | (refine Mod.trans ?_ (by assumption))))) (fail)
          go_wp2_with fail
          go_split_ands
          go_meet
          case rel => exact ⟨rfl, by assumption⟩
        case rest =>
          obtain ⟨rfl, hmx⟩ := hcut
          clear hne hl1 hl2
          cases be
          · have hxy : x = y := by simpa using hbe
            subst hxy
            clear hbe
            go_wp2_with fail
            go_roundw
            case rel => exact ⟨j + 1, by omega, by go_num, take_succ_eq htk hx hy, hmo.trans hmx⟩
            case measure => simp [intOf]; omega
          · have hxy : ¬ x = y := by simpa using hbe
            clear hbe
            have hd : decide (a = b) = false := by simp only [decide_eq_false_iff_not]; rintro rfl; rw [hx] at hy; exact hxy (Option.some.inj hy)
            go_wp2
            go_ret
            exact ⟨by rw [hd]; rfl, hmo.trans hmx⟩
      · obtain rfl : j = a.length := by omega
        have hd : decide (a = b) = true := by
          rw [List.take_of_length_le (by omega), List.take_of_length_le (by omega)] at htk
          simpa using htk
        go_wp2
        go_ret
        exact ⟨by rw [hd]; rfl, hmo⟩
  · have hd : decide (a = b) = false := by simp only [decide_eq_false_iff_not]; rintro rfl; exact hn rfl
    go_enter Try.func18, Try.ntmps18
    go_wp2
    go_ret
    exact ⟨by rw [hd]; rfl, Mod.refl _ _⟩
end

theorem refsame_eq (w : World) (qa qb : Option Addr) (na nb ca cb : Nat) (a b : List Msg) (h : a = b) (hna : na = a.length) (hnb : nb = b.length) (ha : MsgArgs w qa a) (hb : MsgArgs w qb b) (hla : a.length ≤ 1000000) (hlb : b.length ≤ 1000000) :
    Calls Try.prog 18 #[.slice qa na ca, .slice qb nb cb] w fun e w' => e = .returned (.bool true) ∧ Mod (fun _ => False) w w' := by
  subst hna hnb h
  refine (refsame_args w qa qb ca cb a a ha hb hla hlb).mono ?_
  rintro e w' ⟨rfl, hm⟩
  exact ⟨by simp, hm⟩

/-- A net, what was sent, what came: each lies apart. -/
structure All (N0 : Nat) (w : World) (p : Nat) (o : Option Nat) (L : List Msg) (vS : Value) (S : List Msg) (vC : Value) (C : List Msg) : Prop where
  net : Net w p o L 1024
  mS : Msgs w vS S
  mC : Msgs w vC C
  sS : ∀ g, ownOf vS = some g → ownOf vC ≠ some g ∧ o ≠ some g ∧ N0 ≤ g
  sC : ∀ g, ownOf vC = some g → o ≠ some g ∧ N0 ≤ g
  own : ∀ g, o = some g → N0 ≤ g
  pN : N0 ≤ p
section
variable {N0 : Nat} {w w' : World} {p : Nat} {o o' : Option Nat} {L L' : List Msg} {vS vS' : Value} {S S' : List Msg} {vC vC' : Value} {C C' : List Msg}
theorem All.keep0 (h : All N0 w p o L vS S vC C) (hm : Mod (fun _ => False) w w') : All N0 w' p o L vS S vC C :=
  ⟨h.net.keep hm (fun x => x) (fun _ _ x => x), h.mS.keep hm (fun _ _ x => x), h.mC.keep hm (fun _ _ x => x), h.sS, h.sC, h.own, h.pN⟩
theorem All.net_on (h : All N0 w p o L vS S vC C) (hN : N0 ≤ w.heap.size) (hn : Net w' p o' L' 1024) (hm : Mod (fun k => k = p ∨ o = some k) w w') (ho : ∀ g, o' = some g → o = some g ∨ w.heap.size ≤ g) : All N0 w' p o' L' vS S vC C := by
  obtain ⟨v0, e0, _⟩ := h.net.ex
  refine ⟨hn, h.mS.keep hm ?_, h.mC.keep hm ?_, fun g hg => ⟨(h.sS g hg).1, fun hh => ?_, (h.sS g hg).2.2⟩, fun g hg => ⟨fun hh => ?_, (h.sC g hg).2⟩, fun g hg => ?_, h.pN⟩
  · rintro g hg (hh | hh)
    · exact h.mS.ne e0 (by decide) g hg hh
    · exact (h.sS g hg).2.1 hh
  · rintro g hg (hh | hh)
    · exact h.mC.ne e0 (by decide) g hg hh
    · exact (h.sC g hg).1 hh
  · rcases ho g hh with h1 | h1
    · exact (h.sS g hg).2.1 h1
    · have := h.mS.row.lt hg; omega
  · rcases ho g hh with h1 | h1
    · exact (h.sC g hg).1 h1
    · have := h.mC.row.lt hg; omega
  · rcases ho g hg with h1 | h1
    · exact h.own g h1
    · omega
theorem All.sent (h : All N0 w p o L vS S vC C) (hN : N0 ≤ w.heap.size) (hs : Msgs w' vS' S') (hm : Mod (fun k => ownOf vS = some k) w w') (ho : ∀ g, ownOf vS' = some g → ownOf vS = some g ∨ w.heap.size ≤ g) : All N0 w' p o L vS' S' vC C := by
  obtain ⟨v0, e0, _⟩ := h.net.ex
  refine ⟨h.net.keep hm (fun hh => h.mS.ne e0 (by decide) p hh rfl) (fun g hg hh => (h.sS g hh).2.1 hg), hs, h.mC.keep hm (fun g hg hh => (h.sS g hh).1 hg), fun g hg => ?_, h.sC, h.own, h.pN⟩
  rcases ho g hg with h1 | h1
  · exact h.sS g h1
  · refine ⟨fun hh => ?_, fun hh => ?_, by omega⟩
    · have := h.mC.row.lt hh; omega
    · have := h.net.lt.2 g hh; omega
theorem All.came (h : All N0 w p o L vS S vC C) (hN : N0 ≤ w.heap.size) (hs : Msgs w' vC' C') (hm : Mod (fun k => ownOf vC = some k) w w') (ho : ∀ g, ownOf vC' = some g → ownOf vC = some g ∨ w.heap.size ≤ g) : All N0 w' p o L vS S vC' C' := by
  obtain ⟨v0, e0, _⟩ := h.net.ex
  refine ⟨h.net.keep hm (fun hh => h.mC.ne e0 (by decide) p hh rfl) (fun g hg hh => (h.sC g hh).1 hg), h.mS.keep hm (fun g hg hh => (h.sS g hg).1 hh), hs, fun g hg => ⟨fun hh => ?_, (h.sS g hg).2⟩, fun g hg => ?_, h.own, h.pN⟩
  · rcases ho g hh with h1 | h1
    · exact (h.sS g hg).1 h1
    · have := h.mS.row.lt hg; omega
  · rcases ho g hg with h1 | h1
    · exact h.sC g h1
    · refine ⟨fun hh => ?_, by omega⟩
      have := h.net.lt.2 g hh; omega
theorem All.modS (h : All N0 w p o L vS S vC C) {w0 : World} (e : w0.heap.size = N0) (h0 : Mod (fun _ => False) w0 w) (hm : Mod (fun k => ownOf vS = some k) w w') : Mod (fun _ => False) w0 w' :=
  h0.trans' hm (by intro i hi hh; have := (h.sS i hh).2.2; omega)
theorem All.modC (h : All N0 w p o L vS S vC C) {w0 : World} (e : w0.heap.size = N0) (h0 : Mod (fun _ => False) w0 w) (hm : Mod (fun k => ownOf vC = some k) w w') : Mod (fun _ => False) w0 w' :=
  h0.trans' hm (by intro i hi hh; have := (h.sC i hh).2; omega)
theorem All.modN (h : All N0 w p o L vS S vC C) {w0 : World} (e : w0.heap.size = N0) (h0 : Mod (fun _ => False) w0 w) (hm : Mod (fun k => k = p ∨ o = some k) w w') : Mod (fun _ => False) w0 w' :=
  h0.trans' hm (by rintro i hi (hh | hh); have := h.pN; omega; have := h.own i hh; omega)
end
end Go.Proofs.Ytklokcndhkhdmaa
