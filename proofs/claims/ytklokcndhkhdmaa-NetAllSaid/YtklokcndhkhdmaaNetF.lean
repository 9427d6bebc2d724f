/- The net: Deliver. -/
import Derived.Test.YtklokcndhkhdmaaNetE
namespace Go.Proofs.Ytklokcndhkhdmaa
open Go.RowKit
set_option linter.unusedVariables false
set_option linter.unusedSimpArgs false

def zeroMsg : Msg := ⟨0, 0, 0, 0, zero16⟩
theorem zeroMsg_fits : zeroMsg.Fits := ⟨rfl, by intro x hx; simp [zeroMsg, zero16] at hx; omega⟩

theorem zeroMsg_cells : zeroMsg.cells.toArray = #[Value.int IntKind.i64 0, Value.int IntKind.i64 0, Value.int IntKind.i64 0, Value.int IntKind.u32 0, Value.int IntKind.u8 0, Value.int IntKind.u8 0, Value.int IntKind.u8 0, Value.int IntKind.u8 0, Value.int IntKind.u8 0, Value.int IntKind.u8 0, Value.int IntKind.u8 0, Value.int IntKind.u8 0, Value.int IntKind.u8 0, Value.int IntKind.u8 0, Value.int IntKind.u8 0, Value.int IntKind.u8 0, Value.int IntKind.u8 0, Value.int IntKind.u8 0, Value.int IntKind.u8 0, Value.int IntKind.u8 0] := rfl
theorem zeroMsg_size : zeroMsg.cells.toArray.size = 20 := rfl

theorem deliver_nil (w : World) (pick : Int) :
    Calls Try.prog 16 #[.pointer none, .int .i64 pick] w fun e w' => e = .returned (.tuple #[.agg zeroMsg.cells.toArray, .bool false]) ∧ Mod (fun _ => False) w w' := by
  go_enter Try.func16, Try.ntmps16
  go_wp2_with fail
  rw [← zeroMsg_cells]
  have hm0 : Mod (fun _ => False) w (w.alloc (Obj.cells zeroMsg.cells.toArray 26)) := (Mod.refl _ _).alloc _
  have hb := blk_new w (Obj.cells zeroMsg.cells.toArray 26)
  generalize hB : w.heap.size = B at hb ⊢
  generalize w.alloc (Obj.cells zeroMsg.cells.toArray 26) = w0 at hm0 hb ⊢
  refine (len_nil _).mono ?_
  rintro e w1 ⟨rfl, rfl⟩
  go_wp2_with (refine wpL_store rfl 26 _ _ rfl B rfl zeroMsg.cells.toArray (congrArg Value.agg zeroMsg_cells.symm) _ hb 20 info26 rfl rfl (cells_one zeroMsg) ?_)
  have hb3 := setRow_heap w1 B _ zeroMsg.cells.toArray _ _ hb
  have hlo := run_loadVar_row (P := Try.prog) _ B 26 26 _ _ _ hb3 Try.underlying26 rfl (by rw [info26]; rfl)
  refine bodyPost_ret (v := .tuple #[.agg zeroMsg.cells.toArray, .bool false]) (by simp [results, Try.results16, asAddr, hlo]) rfl ⟨rfl, ?_⟩
  exact hm0.setRow (.inr (by omega)) _
theorem deliver_empty (w : World) (p : Nat) (o : Option Nat) (most : Int) (h : Net w p o [] most) (pick : Int) :
    Calls Try.prog 16 #[.pointer (some ⟨p, 0, none⟩), .int .i64 pick] w fun e w' => e = .returned (.tuple #[.agg zeroMsg.cells.toArray, .bool false]) ∧ Mod (fun _ => False) w w' := by
  go_enter Try.func16, Try.ntmps16
  go_wp2_with fail
  rw [← zeroMsg_cells]
  have hm0 : Mod (fun _ => False) w (w.alloc (Obj.cells zeroMsg.cells.toArray 26)) := (Mod.refl _ _).alloc _
  have hb := blk_new w (Obj.cells zeroMsg.cells.toArray 26)
  generalize hB : w.heap.size = B at hb ⊢
  generalize w.alloc (Obj.cells zeroMsg.cells.toArray 26) = w0 at hm0 hb ⊢
  refine (len_ok _ p o [] most (h.keep hm0 (fun x => x) (fun _ _ x => x))).mono ?_
  rintro e w1 ⟨rfl, rfl⟩
  go_wp2_with (refine wpL_store rfl 26 _ _ rfl B rfl zeroMsg.cells.toArray (congrArg Value.agg zeroMsg_cells.symm) _ hb 20 info26 rfl rfl (cells_one zeroMsg) ?_)
  have hb3 := setRow_heap w1 B _ zeroMsg.cells.toArray _ _ hb
  have hlo := run_loadVar_row (P := Try.prog) _ B 26 26 _ _ _ hb3 Try.underlying26 rfl (by rw [info26]; rfl)
  refine bodyPost_ret (v := .tuple #[.agg zeroMsg.cells.toArray, .bool false]) (by simp [results, Try.results16, asAddr, hlo]) rfl ⟨rfl, ?_⟩
  exact hm0.setRow (.inr (by omega)) _

/-- The first ones of a list, with room for no more. -/
theorem Msgs.head {w : World} {g n cap : Nat} {l : List Msg} (h : Msgs w (.slice (some ⟨g, 0, none⟩) n (cap + 1)) l) (k : Nat) (hk : k ≤ l.length) : Msgs w (.slice (some ⟨g, 0, none⟩) k k) (l.take k) := by
  refine ⟨⟨flat_length _ (fun m hm => h.fits m (List.mem_of_mem_take hm)), ?_⟩, fun m hm => h.fits m (List.mem_of_mem_take hm)⟩
  obtain ⟨cap', cur, e1, hb, h1, h2, h3, h4⟩ := h.row.block rfl
  have hl : (l.take k).length = k := by simp; omega
  rw [hl]
  cases k with
  | zero => exact .inl ⟨rfl, .inr ⟨g, rfl⟩⟩
  | succ k =>
    refine .inr ⟨g, k, cur, rfl, hb, Nat.le_refl _, by omega, ?_, ?_⟩
    · exact Nat.le_trans (Nat.mul_le_mul_right _ (by omega)) h3
    · rw [← flat_take l h.fits, ← h4, List.take_take]
      congr 1
      have : (k + 1) * 20 ≤ l.length * 20 := Nat.mul_le_mul_right _ hk
      omega
/-- The last ones of a list. -/
theorem Msgs.tail {w : World} {g n cap : Nat} {l : List Msg} (h : Msgs w (.slice (some ⟨g, 0, none⟩) n (cap + 1)) l) (k : Nat) (hk : k ≤ l.length) (c : Nat) (a : Addr) (ha : a = ⟨g, k * 20, none⟩ ∨ k = l.length) : Src w 20 (.slice (some a) (l.length - k) c) (l.drop k).length (flat (l.drop k)) := by
  refine ⟨flat_length _ (fun m hm => h.fits m (List.mem_of_mem_drop hm)), _, _, by rw [List.length_drop], by simp, ?_⟩
  rintro a' ⟨⟩ j u hu
  rcases ha with rfl | rfl
  · have hr := h.row.range rfl 0 (flat l) (by intro j u hu; simpa using hu)
    rw [addr_add]
    rw [← flat_drop l h.fits, List.getElem?_drop] at hu
    have := hr _ _ hu
    simpa using this
  · simp at hu

theorem Msgs.tail' {w : World} {g n cap : Nat} {l : List Msg} (h : Msgs w (.slice (some ⟨g, 0, none⟩) n (cap + 1)) l) (k : Nat) (hk : k < l.length) (hn : l.length ≤ cap + 1) (c : Nat) :
    Src w 20 (.slice (if cap = k then some ⟨g, 0, none⟩ else some ⟨g, (k + 1) * 20, none⟩) (l.length - (k + 1)) c) (l.drop (k + 1)).length (flat (l.drop (k + 1))) := by
  split
  · exact h.tail (k + 1) (by omega) c _ (.inr (by omega))
  · exact h.tail (k + 1) (by omega) c _ (.inl rfl)

/-- Which one a choice takes. -/
def pickAt (pick : Int) (n : Nat) : Nat := (pick % (n : Int)).toNat
theorem pickAt_lt (pick : Int) (n : Nat) (h : 0 < n) : pickAt pick n < n := by
  unfold pickAt
  have h1 := Int.emod_nonneg pick (show (n : Int) ≠ 0 by omega)
  have h2 := Int.emod_lt_of_pos pick (show (0 : Int) < n by omega)
  omega
theorem pick_tmod (pick : Int) (n : Nat) (h : 0 < n) : (pick.tmod n + n).tmod n = (pickAt pick n : Int) ∧ -(n : Int) < pick.tmod n ∧ pick.tmod n < n := by
  have h1 := Int.emod_nonneg pick (show (n : Int) ≠ 0 by omega)
  have h2 := Int.emod_lt_of_pos pick (show (0 : Int) < n by omega)
  have h3 : -(n : Int) < pick.tmod n := by
    have := Int.lt_tmod_of_pos pick (show (0 : Int) < n by omega)
    exact this
  have h4 : pick.tmod n < n := Int.tmod_lt_of_pos pick (by omega)
  refine ⟨?_, h3, h4⟩
  unfold pickAt
  rw [Int.toNat_of_nonneg h1, Int.tmod_eq_emod_of_nonneg (by omega), Int.add_emod_right]
  rw [Int.tmod_eq_emod]
  split
  · simp
  · simp
set_option maxHeartbeats 1000000 in
theorem deliver_ok (w : World) (p : Nat) (o : Option Nat) (l : List Msg) (most : Int) (h : Net w p o l most) (h0 : 0 < l.length) (pick : Int) :
    Calls Try.prog 16 #[.pointer (some ⟨p, 0, none⟩), .int .i64 pick] w fun e w' => ∃ m, l[pickAt pick l.length]? = some m ∧ e = .returned (.tuple #[.agg m.cells.toArray, .bool true]) ∧
      ∃ o', Net w' p o' (l.eraseIdx (pickAt pick l.length)) most ∧ Mod (fun k => k = p ∨ o = some k) w w' ∧ ∀ g, o' = some g → o = some g ∨ w.heap.size ≤ g := by
  obtain ⟨hpk, hpk1, hpk2⟩ := pick_tmod pick l.length h0
  have hlt := pickAt_lt pick l.length h0
  generalize pickAt pick l.length = k at *
  have hlen := h.len
  have hm1 := h.most1
  have hm2 := h.most2
  have hlto := h.lt
  go_enter Try.func16, Try.ntmps16
  go_wp2_with fail
  rw [← zeroMsg_cells]
  have hm0 : Mod (fun _ => False) w (w.alloc (Obj.cells zeroMsg.cells.toArray 26)) := (Mod.refl _ _).alloc _
  have hb := blk_new w (Obj.cells zeroMsg.cells.toArray 26)
  generalize hB : w.heap.size = B at hb ⊢
  generalize w.alloc (Obj.cells zeroMsg.cells.toArray 26) = w0 at hm0 hb ⊢
  replace h := h.keep hm0 (fun x => x) (fun _ _ x => x)
  refine (len_ok _ p o l most h).mono ?_
  rintro e w1 ⟨rfl, rfl⟩
  obtain ⟨m, hm⟩ : ∃ m, l[k]? = some m := ⟨_, List.getElem?_eq_getElem hlt⟩
  obtain ⟨v, hp, hms, hov⟩ := h.ex
  have hmf := hms.fits m (List.mem_of_getElem? hm)
  obtain ⟨g, cap, hvq, hvg, hnc, hcm⟩ := hms.row.full h0
  have hrg := hms.row.range hvg (k * 20) m.cells (flat_at l hms.fits k m hm)
  have hne : g ≠ p := by rintro rfl; exact h.ne (hov ▸ hvg)
  subst hvq
  have hp0 : w1.cell? ⟨p, 0, none⟩ = some (.slice (some ⟨g, 0, none⟩) l.length (cap + 1)) := cell_of w1 hp 0
  have hcl := cells_length m hmf
  go_upto_region 6 with (first
    | (refine wpL_loadMid rfl 26 _ rfl g (k * 20) rfl _ hrg Try.underlying26 rfl (by rw [info26, hcl]) ?_)
    | (refine wpL_storeNew rfl 26 _ _ rfl rfl m.cells.toArray rfl _ _ 20 info26 (by simp [hcl]) rfl (cells_one m) ?_))
  have hm3 : Mod (fun _ => False) w1 (w1.alloc (Obj.cells m.cells.toArray 26)) := (Mod.refl _ _).alloc _
  have hbm := blk_new w1 (Obj.cells m.cells.toArray 26)
  have hC : w.heap.size ≤ w1.heap.size := hm0.size
  generalize w1.heap.size = C at hbm hC ⊢
  generalize w1.alloc (Obj.cells m.cells.toArray 26) = w3 at hm3 hbm ⊢
  replace hp := hm3.at hp (fun x => x)
  replace hp0 := hm3.cell hp0 (fun x => x)
  replace hb := hm3.at hb (fun x => x)
  replace hms := hms.keep hm3 (fun _ _ x => x)
  have hfin : Mod (fun k => k = p ∨ o = some k) w w3 := (hm0.trans hm3).mono (fun _ _ x => x.elim)
  clear hm0 hm3 hrg
  have hk1 : (0 : Int) ≤ (k : Int) := by omega
  have hk2 : (k : Int) ≤ (cap : Int) + 1 := by omega
  have hk3 : (k : Int) + 1 ≤ (l.length : Int) := by omega
  have hpf : w3.frozen? ⟨p, 0, none⟩ = false := free_of w3 hp 0
  have hk4 : (0 : Int) ≤ (k : Int) + 1 := by omega
  have hgp : ¬ ownOf (.slice (some ⟨g, 0, none⟩) k k) = some p := by
    cases k with
    | zero => simp [ownOf]
    | succ k => simpa [ownOf] using hne
  have hD := hms.head k (by omega)
  have hwk : IntKind.i64.wrap ((k : Int) + 1) = (k : Int) + 1 := by rw [IntKind.wrap_i64]; omega
  simp only [Act.put]
  have hgo : o = some g := by rw [← hov]; exact hvg
  have hgs := hlto.2 g hgo
  have hps := hlto.1
  have hle : l.take k ++ l.drop (k + 1) = l.eraseIdx k := (List.eraseIdx_eq_take_drop_succ ..).symm
  have hll : (l.eraseIdx k).length = l.length - 1 := by rw [List.length_eraseIdx, if_pos hlt]
  have hDg : ∀ b, ownOf (.slice (some ⟨g, 0, none⟩) k k) = some b → b = g := by
    intro b hb
    cases k with
    | zero => simp [ownOf] at hb
    | succ k => simpa [ownOf] using hb.symm
  go_cut [] (fun wx => (∃ o', Net wx p o' (l.eraseIdx k) most ∧ Mod (fun k => k = p ∨ o = some k) w wx ∧ ∀ g, o' = some g → (o = some g ∨ w.heap.size ≤ g) ∧ g ≠ B) ∧
    wx.heap[C]? = some (.cells m.cells.toArray 26 (0, 0)) ∧ wx.heap[B]? = some (.cells zeroMsg.cells.toArray 26 (0, 0)))
  case first =>
    generalize hle2 : l.eraseIdx k = le at hle hll
    go_region_law (
      refine step_msgs (by rfl) (.tmp 35) (.tmp 42) (by rfl) (by rfl) (.slice (some ⟨g, 0, none⟩) k k) _ (by rfl) (by rfl) (l.take k) (l.drop (k + 1)) (hD.keep (S := fun _ => False) (by (repeat first | exact Mod.refl _ _ | assumption | apply Mod.drew | apply Mod.drewN | apply Mod.alloc | (refine Mod.setCell ?_ (Or.inr (by (first | (with_reducible exact Nat.le_refl _) | ((try simp only [World.size_alloc, World.size_setCell, World.size_drew] at *); omega)))) _) | (refine Mod.trans ?_ (by assumption)))) (fun _ _ x => x)) (fun m hm => hms.fits m (List.mem_of_mem_drop hm)) ((hms.keep (S := fun _ => False) (by (repeat first | exact Mod.refl _ _ | assumption | apply Mod.drew | apply Mod.drewN | apply Mod.alloc | (refine Mod.setCell ?_ (Or.inr (by (first | (with_reducible exact Nat.le_refl _) | ((try simp only [World.size_alloc, World.size_setCell, World.size_drew] at *); omega)))) _) | (refine Mod.trans ?_ (by assumption)))) (fun _ _ x => x)).tail' k hlt hnc _) (by simp; omega) ?_
      intro v' w4 hms4 hmo4 hov4
      rw [hle] at hms4
      obtain ⟨q', c', hv4, _⟩ := hms4.row.form
      subst hv4
      have hp4 := hmo4.at (show (World.drew _).heap[p]? = _ from hp) hgp
      have hpc := cell_of w4 hp4 0
      have hpf4 := free_of w4 hp4 0)
    all_goals go_wp2_with fail
    all_goals (
      go_meet
      case rel =>
        have hq : Mod (fun k => k = p ∨ o = some k) w3 w4 := ((Mod.refl _ _).drew).trans (hmo4.mono (fun k _ hk => .inr (by rw [hgo, hDg k hk])))
        rw [hle2]
        rw [hll] at hms4 hov4
        refine ⟨⟨_, net_set hp4 hms4 hm1 hm2 (by omega), (hfin.trans hq).setCell (.inl (.inl rfl)) _, ?_⟩, ?_, ?_⟩
        · intro b hb'
          have hB3 := lt_of_block hb
          rcases hov4 b hb' with h1 | h1
          · have := hDg b h1
            subst this
            exact ⟨.inl hgo, by omega⟩
          · have := hfin.size; simp only [World.size_drew] at h1; exact ⟨.inr (by omega), by omega⟩
        · rw [Below.heap_setCell _ _ _ _ (show C ≠ p by omega)]
          exact hq.at hbm (by rintro (h1 | h1); omega; rw [hgo] at h1; simp at h1; omega)
        · rw [Below.heap_setCell _ _ _ _ (show B ≠ p by omega)]
          exact hq.at hb (by rintro (h1 | h1); omega; rw [hgo] at h1; simp at h1; omega))
  case rest =>
    obtain ⟨⟨o', ho1, ho2, ho3⟩, hbm, hb⟩ := hcut
    go_wp2_with (first
      | (refine wpL_load rfl 26 _ rfl C rfl _ hbm Try.underlying26 rfl 20 info26 (by simp [hcl]) ?_)
      | (refine wpL_store rfl 26 _ _ rfl B rfl m.cells.toArray rfl _ hb 20 info26 (by simp [hcl]) rfl (cells_one m) ?_))
    have hb3 := setRow_heap wc B _ m.cells.toArray _ _ hb
    have hlo := run_loadVar_row (P := Try.prog) _ B 26 26 _ _ _ hb3 Try.underlying26 rfl (by rw [info26]; simp [hcl])
    refine bodyPost_ret (v := .tuple #[.agg m.cells.toArray, .bool true]) (by simp [results, Try.results16, asAddr, hlo]) rfl ⟨m, hm, rfl, o', ?_, ho2.setRow (.inr (by omega)) _, fun g hg => (ho3 g hg).1⟩
    have hmB : Mod (fun x => x = B) wc (wc.setRow B m.cells.toArray) := (Mod.refl (fun x => x = B) wc).setRow (.inl rfl) _
    exact ho1.keep hmB (by omega) (fun b hb' => (ho3 b hb').2)
end Go.Proofs.Ytklokcndhkhdmaa
