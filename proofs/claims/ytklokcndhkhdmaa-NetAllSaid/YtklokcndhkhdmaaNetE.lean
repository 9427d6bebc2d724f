/- The net: Send. -/
import Derived.Test.YtklokcndhkhdmaaNetD
import Derived.Test.YtklokcndhkhdmaaRowB
namespace Go.Proofs.Ytklokcndhkhdmaa
open Go.RowKit
set_option linter.unusedVariables false
set_option linter.unusedSimpArgs false

theorem info26 : (Try.prog.info? 26).map (·.size) = some 20 := by kernel_rfl
/-- A message that lies in a block of its own is read. -/
theorem load26 (b : Nat) (w : World) (h : (cellsAt w b).size = 20) : (Instr.loadAt 26 (.pointer (some ⟨b, 0, none⟩))).run Try.prog w = .ok (.agg (cellsAt w b)) w :=
  load_whole _ _ 20 Try.underlying26 rfl info26 b w (by omega) h
theorem load_msg_at (m : Msg) (hm : m.Fits) (b o : Nat) (w : World) (hb : w.rangeAt b o m.cells) :
    (Instr.loadAt 26 (.pointer (some ⟨b, o, none⟩))).run Try.prog w = .ok (.agg m.cells.toArray) w :=
  run_loadAt_mid w b o _ m.cells _ hb Try.underlying26 rfl (by rw [info26, cells_length m hm])

theorem build_one (w : World) (cells : Array Value) (h : cells.size = 20) : (Instr.buildSlice 38 1 #[(0, .agg cells)]).run Try.prog w = .ok (.slice (some ⟨w.heap.size, 0, none⟩) 1 1) (w.alloc (.cells cells 26)) := by
  obtain ⟨i, z, h1, h2, h3, h4, h5⟩ := msgZero
  exact run_buildSlice_one w _ _ i z 20 Try.underlying38 h1 h2 h3 h5 (by omega) (by omega) cells h
theorem Src.msg {w : World} {m : Msg} {B : Nat} {t : TypeId} {fr : Nat × Nat} {c : Nat} (hb : w.heap[B]? = some (.cells m.cells.toArray t fr)) (hm : m.Fits) : Src w 20 (.slice (some ⟨B, 0, none⟩) 1 c) [m].length (flat [m]) := by
  rw [flat_one]
  exact Src.one hb (cells_length m hm)
/-- Messages are appended, at a step of a region that draws. -/
theorem step_msgs {ops : Array Oper} {o : Oper} {a : Act} {w : World} {K : Act → World → Prop} {Q : Exit → Act → World → Prop} {E : Prop} (hgd : o.guard = none) (s x : Operand)
    (ho : o.op = .call { callee := .builtin .append, args := #[s, x], argTypes := #[38, 38] }) (hty : o.type = 38) (v xv : Value) (hs : a.eval s = v) (hx : a.eval x = xv)
    (l k : List Msg) (hv : Msgs w v l) (hk : ∀ m ∈ k, m.Fits) (hsrc : Src w 20 xv k.length (flat k)) (hn : l.length + k.length ≤ 1000000000)
    (h : ∀ v' w', Msgs w' v' (l ++ k) → Mod (fun b => ownOf v = some b) w w' → (∀ b, ownOf v' = some b → ownOf v = some b ∨ w.heap.size ≤ b) → K (a.put o.dst v') w') :
    if Region.wanted o (yielded ops a.tmps) = true then Oper.wp Try.prog o a w K Q else E := by
  obtain ⟨v', w', hrun, h1, h2, h3⟩ := msgs_append w v xv l k hv hk hsrc hn
  exact step_append_run hgd s x _ _ ho v xv hs hx _ hty v' w' hrun (h v' w' h1 h2 h3)
/-- Messages are appended, in a plain region. -/
theorem wpL_msgs {ops : Array Oper} {rest : List Oper} {o : Oper} {a : Act} {w : World} {Q : Exit → Act → World → Prop} (hgd : o.guard = none) (s x : Operand)
    (ho : o.op = .call { callee := .builtin .append, args := #[s, x], argTypes := #[38, 38] }) (hty : o.type = 38) (v xv : Value) (hs : a.eval s = v) (hx : a.eval x = xv)
    (l k : List Msg) (hv : Msgs w v l) (hk : ∀ m ∈ k, m.Fits) (hsrc : Src w 20 xv k.length (flat k)) (hn : l.length + k.length ≤ 1000000000)
    (h : ∀ v' w', Msgs w' v' (l ++ k) → Mod (fun b => ownOf v = some b) w w' → (∀ b, ownOf v' = some b → ownOf v = some b ∨ w.heap.size ≤ b) → wpList Try.prog ops Q rest (a.put o.dst v') w') :
    wpList Try.prog ops Q (o :: rest) a w := by
  obtain ⟨v', w', hrun, h1, h2, h3⟩ := msgs_append w v xv l k hv hk hsrc hn
  exact wpL_append hgd s x _ _ ho v xv hs hx _ hty v' hrun (h v' w' h1 h2 h3)

theorem checkNum_cases (m : Msg) : checkNum m = 0 ∨ checkNum m = 2 := by unfold checkNum; split <;> simp
/-- The net's list is written. -/
theorem net_set {w : World} {p : Nat} {v0 v : Value} {l : List Msg} {most : Int} (hp : w.heap[p]? = some (.cells #[v0, .int .i64 most] 71 (0, 0))) (hms : Msgs w v l) (h1 : 1 ≤ most) (h2 : most ≤ 1024) (hl : (l.length : Int) ≤ most) :
    Net (w.setCell ⟨p, 0, none⟩ v) p (ownOf v) l most := by
  have hne : ∀ g, ownOf v = some g → ¬ g = p := by
    rintro g hg rfl
    obtain ⟨cap, cur, _, hb, _⟩ := hms.row.block hg
    rw [hp] at hb
    simp at hb
  refine ⟨⟨v, ?_, hms.keep ((Mod.refl (· = p) w).setCell (.inl rfl) _) hne, rfl⟩, h1, h2, hl⟩
  rw [heap_setCell_same _ _ _ _ _ _ hp]
  rfl

/-- What Send tells, and what is on its way behind it. -/
def sendNum (l : List Msg) (most : Int) (m : Msg) : Int := if checkNum m = 0 then (if (l.length : Int) ≥ most then 210 else 0) else 2
def sendList (l : List Msg) (most : Int) (m : Msg) : List Msg := if sendNum l most m = 0 then l ++ [m] else l

theorem send_nil (w : World) (m : Msg) : Calls Try.prog 15 #[.pointer none, .agg m.cells.toArray] w fun e w' => e = .returned (.int .i64 1) ∧ Mod (fun _ => False) w w' := by
  go_enter Try.func15, Try.ntmps15
  go_wp2_with fail
  refine (none_nil _).mono ?_
  rintro e w1 ⟨rfl, rfl⟩
  go_wp2
  go_ret
  exact ⟨rfl, (Mod.refl _ _).alloc _⟩

section
attribute [local go_sem] heap_drew blk_past cell_past free_past cellsAt
attribute [-go_sem] Instr.loadAt Instr.buildSlice
attribute [local go_sem] run_loadAt_open
attribute [local go_sem 2000] load26 build_one
attribute [local go_sem ↓] Go.wp_at_zero Go.wp_at_succ
set_option maxHeartbeats 1000000 in
theorem send_ok (w : World) (p : Nat) (o : Option Nat) (l : List Msg) (most : Int) (h : Net w p o l most) (m : Msg) (hm : m.Fits) :
    Calls Try.prog 15 #[.pointer (some ⟨p, 0, none⟩), .agg m.cells.toArray] w fun e w' => e = .returned (.int .i64 (sendNum l most m)) ∧
      ∃ o', Net w' p o' (sendList l most m) most ∧ Mod (fun k => k = p ∨ o = some k) w w' ∧ ∀ g, o' = some g → o = some g ∨ w.heap.size ≤ g := by
  have hlt := h.lt
  go_enter Try.func15, Try.ntmps15
  go_wp2_with fail
  have hm0 : Mod (fun _ => False) w (w.alloc (Obj.cells m.cells.toArray 26)) := (Mod.refl _ _).alloc _
  have hb := blk_new w (Obj.cells m.cells.toArray 26)
  generalize hB : w.heap.size = B at hb ⊢
  have hBp : B ≤ B := Nat.le_refl _
  generalize w.alloc (Obj.cells m.cells.toArray 26) = w0 at hm0 hb ⊢
  replace h := h.keep hm0 (fun x => x) (fun _ _ x => x)
  refine (none_ok _ p o l most h).mono ?_
  rintro e w1 ⟨rfl, rfl⟩
  go_wp2_with (first
    | (refine wpL_load rfl 26 _ rfl B rfl _ hb Try.underlying26 rfl 20 info26 (by simp [cells_length m hm]) ?_)
    | fail)
  refine (check_ok _ m hm).mono ?_
  rintro e w2 ⟨rfl, hm2⟩
  replace hm0 := hm0.trans hm2
  replace hb := hm2.at hb (fun x => x)
  replace h := h.keep hm2 (fun x => x) (fun _ _ x => x)
  clear hm2
  have hfin : Mod (fun k => k = p ∨ o = some k) w w2 := hm0.mono (fun _ _ x => x.elim)
  rcases checkNum_cases m with hck | hck
  · obtain ⟨v, hp, hms, hov⟩ := h.ex
    obtain ⟨q, c, hvq, hlc, hcm, hqn, hqs⟩ := hms.row.form
    have hlen := h.len
    have hm1 := h.most2
    have hp0 : w2.cell? ⟨p, 0, none⟩ = some (.slice q l.length c) := by rw [cell_of w2 hp]; simp [hvq]
    have hp1 : w2.cell? ⟨p, 1, none⟩ = some (.int .i64 most) := by rw [cell_of w2 hp]; rfl
    rcases (by omega : most ≤ (l.length : Int) ∨ (l.length : Int) < most) with hfull | hroom
    · have hres : sendNum l most m = 210 := by simp only [sendNum, hck]; simp; omega
      have hres2 : sendList l most m = l := by simp [sendList, hres]
      go_upto_region 6 with fail
      go_cut [22] (fun v22 wx => v22 = .bool true ∧ Mod (fun _ => False) w2 wx)
      case first =>
        go_quiet (fail)
        go_wp2_with fail
        go_meet
        case rel => exact ⟨by first | rfl | (simp; omega), (Mod.refl _ _).drewN _⟩
      case rest =>
        obtain ⟨rfl, hmc⟩ := hcut
        go_wp2
        go_ret
        rw [hres, hres2]
        exact ⟨rfl, o, h.keep hmc (fun x => x) (fun _ _ x => x), hfin.trans (hmc.mono (fun _ _ x => x.elim)), fun g hg => .inl hg⟩
    · have hm1' := h.most1
      have hres : sendNum l most m = 0 := by simp only [sendNum, hck]; simp; omega
      have hres2 : sendList l most m = l ++ [m] := by simp [sendList, hres]
      go_upto_region 6 with fail
      go_cut [22] (fun v22 wx => v22 = .bool false ∧ Mod (fun _ => False) w2 wx)
      case first =>
        go_quiet (fail)
        go_wp2_with fail
        go_meet
        case rel => exact ⟨by first | rfl | (simp; omega), (Mod.refl _ _).drewN _⟩
      case rest =>
        obtain ⟨rfl, hmc⟩ := hcut
        replace hfin := hfin.trans (hmc.mono (fun _ _ x => x.elim))
        replace hp := hmc.at hp (fun x => x)
        replace hb := hmc.at hb (fun x => x)
        replace hms := hms.keep hmc (fun _ _ x => x)
        clear hp0 hp1 hmc
        have hp0 : wc.cell? ⟨p, 0, none⟩ = some (.slice q l.length c) := by rw [cell_of wc hp]; simp [hvq]
        have hpf : wc.frozen? ⟨p, 0, none⟩ = false := free_of wc hp 0
        go_upto_region 8 with fail
        have hcl := cells_length m hm
        have hvp : ¬ ownOf (.slice q l.length c) = some p := by rw [← hvq, hov]; exact h.ne
        have hBo : Old wc B := lt_of_block hb
        have hpo : Old wc p := lt_of_block hp
        go_cut [] (fun wx => ∃ o', Net wx p o' (l ++ [m]) most ∧ Mod (fun k => k = p ∨ o = some k) w wx ∧ ∀ g, o' = some g → o = some g ∨ w.heap.size ≤ g)
        case first =>
          go_region_law (
            refine step_msgs (by rfl) (.tmp 27) (.tmp 29) (by rfl) (by rfl) _ _ (by rfl) (by rfl) l [m] (hvq ▸ hms.keep (S := fun _ => False) (by (repeat first | exact Mod.refl _ _ | assumption | apply Mod.drew | apply Mod.drewN | apply Mod.alloc | (refine Mod.setCell ?_ (Or.inr (by (first | (with_reducible exact Nat.le_refl _) | ((try simp only [World.size_alloc, World.size_setCell, World.size_drew] at *); omega)))) _) | (refine Mod.trans ?_ (by assumption)))) (fun _ _ x => x)) (by simpa using hm) (Src.msg (w := World.drew _) (blk_new wc _) hm) (by simp; omega) ?_
            intro v' w4 hms4 hmo4 hov4
            obtain ⟨q', c', hv4, _⟩ := hms4.row.form
            subst hv4
            have hp4 := hmo4.at (show (World.drew _).heap[p]? = _ from blk_old _ _ hp) hvp
            have hpc := cell_of w4 hp4 0
            have hpf4 := free_of w4 hp4 0)
          all_goals (
            go_wp2_with fail
            go_meet
            case rel =>
              simp only [List.length_append, List.length_cons, List.length_nil, Nat.zero_add] at hms4 hov4
              have hz : wc.heap.size ≤ (wc.alloc (Obj.cells m.cells.toArray 26)).drew.heap.size := by simp
              refine ⟨_, net_set hp4 hms4 hm1' hm1 (by simp; omega), ?_, ?_⟩
              · refine (hfin.trans ?_).setCell (.inl (.inl rfl)) _
                have hq : Mod (fun k => k = p ∨ o = some k) wc (wc.alloc (Obj.cells m.cells.toArray 26)).drew := ((Mod.refl _ _).alloc _).drew
                exact hq.trans (hmo4.mono (fun k _ hk => .inr (by rw [← hov, hvq]; exact hk)))
              · intro g hg
                rcases hov4 g hg with h1 | h1
                · exact .inl (by rw [← hov, hvq]; exact h1)
                · have := hfin.size; exact .inr (by omega))
        case rest =>
          obtain ⟨o', ho1, ho2, ho3⟩ := hcut
          go_wp2
          go_ret
          rw [hres, hres2]
          exact ⟨rfl, o', ho1, ho2, ho3⟩
  · have hres : sendNum l most m = 2 := by simp [sendNum, hck]
    have hres2 : sendList l most m = l := by simp [sendList, hres]
    go_wp2
    go_ret
    rw [hres, hres2]
    exact ⟨rfl, o, h, hfin, fun g hg => .inl hg⟩
end
end Go.Proofs.Ytklokcndhkhdmaa
