/- Slices as rows of cells: what they hold, whose block they may write, appends. Nothing of the program stands here. -/
import Derived.Test.YtknjlmpjkkkilaaBase
import Derived.ArgAppend
import Derived.Deep.MidRow
import Derived.Deep.DeepCutAuto
import Derived.Deep.RegionHeld3
import Derived.Deep.DrawnRows
import Derived.Lib.Hide
namespace Go.Proofs.Ytknjlmpjkkkilaa
open Go.RowKit
set_option linter.unusedVariables false
set_option linter.unusedSimpArgs false

theorem Mod.cell {S : Nat → Prop} {w w' : World} (h : Mod S w w') {a : Addr} {v : Value} (ha : w.cell? a = some v) (hs : ¬ S a.block) : w'.cell? a = some v := by
  have hl := w.block_lt_of_cell? a ha
  unfold World.cell? at ha ⊢
  rw [h.block _ hl hs]
  exact ha
theorem Mod.range {S : Nat → Prop} {w w' : World} (h : Mod S w w') {b o : Nat} {cs : List Value} (ha : w.rangeAt b o cs) (hs : ¬ S b) : w'.rangeAt b o cs :=
  fun j v hv => h.cell (ha j v hv) hs
theorem Mod.trans' {S T : Nat → Prop} {a b c : World} (h : Mod S a b) (k : Mod T b c) (hT : ∀ i, i < a.heap.size → T i → S i) : Mod S a c :=
  ⟨k.os.trans h.os, k.tape.trans h.tape, k.output.trans h.output, Nat.le_trans h.size k.size, fun i hi hs => (k.block i (Nat.lt_of_lt_of_le hi h.size) (fun t => hs (hT i hi t))).trans (h.block i hi hs)⟩
/-- Was it there? (A word of its own: the walk's simp must not open it.) -/
def Old (w : World) (k : Nat) : Prop := k < w.heap.size
theorem blk_past (w : World) (o : Obj) (k : Nat) (h : Old w k) : (w.alloc o).heap[k]? = w.heap[k]? := Below.heap_alloc w o k h
theorem cell_past (w : World) (o : Obj) (n i : Nat) (h : Old w n) : (w.alloc o).cell? ⟨n, i, none⟩ = w.cell? ⟨n, i, none⟩ := World.cell?_alloc_past o n i h
theorem free_past (w : World) (o : Obj) (n i : Nat) (h : Old w n) : (w.alloc o).frozen? ⟨n, i, none⟩ = w.frozen? ⟨n, i, none⟩ := World.frozen?_alloc_past o n i h
theorem Old.mod {S : Nat → Prop} {w w' : World} {k : Nat} (h : Old w k) (hm : Mod S w w') : Old w' k := Nat.lt_of_lt_of_le h hm.size
theorem Mod.of_grown {w w' : World} {r : Option Nat} (h : w.grownBy w' r) : Mod (fun k => r = some k) w w' :=
  ⟨h.os, h.tape, h.output, h.size, fun k hk hn => h.block k hk (fun e => hn e.symm)⟩

theorem Mod.drewN {S : Nat → Prop} {a w : World} (h : Mod S a w) (n : Nat) : Mod S a (w.drewN n) := ⟨h.os, h.tape, h.output, h.size, h.block⟩
theorem keepB {w0 w' : World} {b : Nat} {o : Obj} (hb : w0.heap[b]? = some o) (h : Mod (fun _ => False) w0 w') : Mod (fun _ => False) w0 w' ∧ w'.heap[b]? = some o := ⟨h, h.at hb (fun x => x)⟩
/-- A mid row is read: the guard may be spoken. -/
theorem wpL_loadMid {P : Program} {ops : Array Oper} {rest : List Oper} {o : Oper} {a : Act} {w : World} {Q : Exit → Act → World → Prop} (hgd : Region.wanted o (yielded ops a.tmps) = true) (ty : TypeId) (x : Operand) (ho : o.op = .load ty x)
    (g f : Nat) (hx : a.eval x = .pointer (some ⟨g, f, none⟩)) (cs : List Value) {d : TypeDesc} (hg : w.rangeAt g f cs)
    (hu : P.underlying ty = some d) (hd : d.isRow = true) (hi : (P.info? ty).map (·.size) = some cs.length)
    (h : wpList P ops Q rest (a.put o.dst (.agg cs.toArray)) w) : wpList P ops Q (o :: rest) a w :=
  wpL_want hgd fun _ hK => wp_load_mid ty x ho g f hx cs d hg hu hd hi (hK _ _ h)

/-- The cells of a block. -/
def cellsAt (w : World) (b : Nat) : Array Value := match w.heap[b]? with | some (.cells cs _ _) => cs | _ => #[]
theorem load_whole {P : Program} (ty : TypeId) (d : TypeDesc) (n : Nat) (hu : P.underlying ty = some d) (hd : d.isRow = true) (hi : (P.info? ty).map (·.size) = some n) (b : Nat) (w : World) (hn : 0 < n) (h : (cellsAt w b).size = n) :
    (Instr.loadAt ty (.pointer (some ⟨b, 0, none⟩))).run P w = .ok (.agg (cellsAt w b)) w := by
  have hr : w.rangeAt b 0 (cellsAt w b).toList := by
    intro j v hv
    unfold cellsAt at hv h
    split at hv
    · rename_i cs t fr hb
      rw [Nat.zero_add, cell_of w hb]
      simpa using hv
    · simp at hv
  have := run_loadAt_mid (P := P) w b 0 ty (cellsAt w b).toList d hr hu hd (by rw [hi]; simp [h])
  simpa using this

theorem run_loadAt_open {P : Program} (ty : TypeId) (v : Value) (w : World) : (Instr.loadAt ty v).run P w = (Instr.sureAddr v >>= fun a => loadVar ty a).run P w := rfl

/-- What may be written through a slice's value: the block of its cells; none, if it has room for none. -/
def ownOf : Value → Option Nat
  | .slice (some a) _ (_ + 1) => some a.block
  | _ => none

/-- A slice's value holds n elements of sz cells each: xs. -/
def Row (w : World) (e : TypeId) (sz : Nat) (v : Value) (n : Nat) (xs : List Value) : Prop :=
  xs.length = n * sz ∧ ((n = 0 ∧ (v = .slice none 0 0 ∨ ∃ g, v = .slice (some ⟨g, 0, none⟩) 0 0)) ∨
    ∃ g cap cur, v = .slice (some ⟨g, 0, none⟩) n (cap + 1) ∧ w.heap[g]? = some (.cells cur e (0, 0)) ∧ n ≤ cap + 1 ∧ cap + 1 ≤ maxLen ∧ (cap + 1) * sz ≤ cur.size ∧ cur.toList.take (n * sz) = xs)

theorem Row.empty (w : World) (e : TypeId) (sz : Nat) : Row w e sz (.slice none 0 0) 0 [] := ⟨by simp, .inl ⟨rfl, .inl rfl⟩⟩
theorem Row.form {w : World} {e : TypeId} {sz : Nat} {v : Value} {n : Nat} {xs : List Value} (h : Row w e sz v n xs) : ∃ p c, v = .slice p n c ∧ n ≤ c ∧ c ≤ maxLen ∧ (p = none → n = 0 ∧ c = 0) ∧ (∀ a, p = some a → ∃ g, a = ⟨g, 0, none⟩) := by
  rcases h.2 with ⟨rfl, rfl | ⟨g, rfl⟩⟩ | ⟨g, cap, cur, rfl, hg, h1, h2, h3, h4⟩
  · exact ⟨_, _, rfl, Nat.le_refl _, by simp [maxLen], fun _ => ⟨rfl, rfl⟩, by simp⟩
  · exact ⟨_, _, rfl, Nat.le_refl _, by simp [maxLen], by simp, by rintro a ⟨⟩; exact ⟨_, rfl⟩⟩
  · exact ⟨_, _, rfl, h1, h2, by simp, by rintro a ⟨⟩; exact ⟨_, rfl⟩⟩
theorem Row.len_le {w : World} {e : TypeId} {sz : Nat} {v : Value} {n : Nat} {xs : List Value} (h : Row w e sz v n xs) : n ≤ maxLen := by
  obtain ⟨p, c, _, h1, h2, _⟩ := h.form; omega
/-- A row of at least one element lies in a block that is there. -/
theorem Row.block {w : World} {e : TypeId} {sz : Nat} {v : Value} {n : Nat} {xs : List Value} (h : Row w e sz v n xs) {g : Nat} (hg : ownOf v = some g) :
    ∃ cap cur, v = .slice (some ⟨g, 0, none⟩) n (cap + 1) ∧ w.heap[g]? = some (.cells cur e (0, 0)) ∧ n ≤ cap + 1 ∧ cap + 1 ≤ maxLen ∧ (cap + 1) * sz ≤ cur.size ∧ cur.toList.take (n * sz) = xs := by
  rcases h.2 with ⟨rfl, rfl | ⟨g', rfl⟩⟩ | ⟨g', cap, cur, rfl, hg', h1, h2, h3, h4⟩
  · cases hg
  · cases hg
  · cases hg; exact ⟨cap, cur, rfl, hg', h1, h2, h3, h4⟩
theorem Row.full {w : World} {e : TypeId} {sz : Nat} {v : Value} {n : Nat} {xs : List Value} (h : Row w e sz v n xs) (hn : 0 < n) :
    ∃ g cap, v = .slice (some ⟨g, 0, none⟩) n (cap + 1) ∧ ownOf v = some g ∧ n ≤ cap + 1 ∧ cap + 1 ≤ maxLen := by
  rcases h.2 with ⟨rfl, _⟩ | ⟨g', cap, cur, rfl, hg', h1, h2, h3, h4⟩
  · omega
  · exact ⟨g', cap, rfl, rfl, h1, h2⟩
theorem Row.lt {w : World} {e : TypeId} {sz : Nat} {v : Value} {n : Nat} {xs : List Value} (h : Row w e sz v n xs) {g : Nat} (hg : ownOf v = some g) : g < w.heap.size := by
  obtain ⟨_, _, _, hb, _⟩ := h.block hg
  exact lt_of_block hb
theorem Row.keep {w w' : World} {S : Nat → Prop} {e : TypeId} {sz : Nat} {v : Value} {n : Nat} {xs : List Value} (h : Row w e sz v n xs) (hm : Mod S w w') (hs : ∀ g, ownOf v = some g → ¬ S g) : Row w' e sz v n xs := by
  refine ⟨h.1, ?_⟩
  rcases h.2 with h0 | ⟨g', cap, cur, rfl, hg', rest⟩
  · exact .inl h0
  · exact .inr ⟨g', cap, cur, rfl, hm.at hg' (hs _ rfl), rest⟩
/-- Its cells, where they lie. -/
theorem Row.range {w : World} {e : TypeId} {sz : Nat} {v : Value} {n : Nat} {xs : List Value} (h : Row w e sz v n xs) {g : Nat} (hg : ownOf v = some g) (o : Nat) (cs : List Value) (hcs : ∀ j u, cs[j]? = some u → xs[o + j]? = some u) : w.rangeAt g o cs := by
  obtain ⟨cap, cur, rfl, hb, h1, h2, h3, h4⟩ := h.block hg
  intro j u hu
  rw [cell_of w hb]
  have := hcs j u hu
  rw [← h4, List.getElem?_take] at this
  split at this
  · simpa using this
  · cases this

/-- The cells that a slice's value hands to an append or a copy. -/
def Src (w : World) (sz : Nat) (x : Value) (m : Nat) (news : List Value) : Prop :=
  news.length = m * sz ∧ ∃ p c, x = .slice p m c ∧ (p = none → m = 0) ∧ ∀ a, p = some a → ∀ j u, news[j]? = some u → w.cell? (a.add j) = some u
theorem Row.src {w : World} {e : TypeId} {sz : Nat} {v : Value} {n : Nat} {xs : List Value} (h : Row w e sz v n xs) : Src w sz v n xs := by
  refine ⟨h.1, ?_⟩
  have hl := h.1
  rcases h.2 with ⟨rfl, rfl | ⟨g', rfl⟩⟩ | ⟨g', cap, cur, rfl, hg', h1, h2, h3, h4⟩
  · exact ⟨_, _, rfl, fun _ => rfl, by simp⟩
  · obtain rfl : xs = [] := List.eq_nil_of_length_eq_zero (by simpa using hl)
    exact ⟨_, _, rfl, by simp, by rintro a ⟨⟩ j u hu; simp at hu⟩
  · refine ⟨_, _, rfl, by simp, ?_⟩
    rintro a ⟨⟩ j u hu
    rw [addr_add0, cell_of w hg']
    rw [← h4, List.getElem?_take] at hu
    split at hu
    · simpa using hu
    · cases hu
/-- One element that lies in a block of its own. -/
theorem Src.one {w : World} {sz : Nat} {B : Nat} {cs : List Value} {t : TypeId} {fr : Nat × Nat} {c : Nat} (hb : w.heap[B]? = some (.cells cs.toArray t fr)) (hl : cs.length = sz) : Src w sz (.slice (some ⟨B, 0, none⟩) 1 c) 1 cs := by
  refine ⟨by omega, _, _, rfl, by simp, ?_⟩
  rintro a ⟨⟩ j u hu
  rw [addr_add0, cell_of w hb]
  simpa using hu

section
variable {P : Program}
theorem run_append_none (w : World) (t ty e : TypeId) (i : TypeInfo) (ht : P.underlying t = some (.slice e)) (hi : P.info? e = some i) (p q : Option Addr) (n cap c : Nat) (h : n ≤ cap) :
    (Builtin.append_ #[t, t] ty #[.slice p n cap, .slice q 0 c]).run P w = .ok (.slice p n cap) w := by
  cases p <;> cases q <;> simp [Builtin.append_, run_underlying ht, sizeOf, typeInfo, hi, Builtin.lenOf, h, Builtin.firstCells, loadCells, loadCellsFrom, storeCells]

/-- APPEND. -/
theorem row_append (w : World) (t ty e : TypeId) (i : TypeInfo) (z : Value) (sz bytes : Nat) (ht : P.underlying t = some (.slice e)) (hi : P.info? e = some i) (hz : i.zero = some z)
    (hsize : i.size = sz) (hby : i.bytes = bytes) (hzs : z.cells.size = sz) (hsz : 0 < sz)
    (v x : Value) (n m : Nat) (xs news : List Value) (hv : Row w e sz v n xs) (hx : Src w sz x m news) (h1 : ∀ u ∈ news, u.oneCell' = true)
    (h63 : n + m ≤ maxLen) (hbytes : (n + m) * bytes ≤ 140737488355328) :
    ∃ v' w', (Builtin.append_ #[t, t] ty #[v, x]).run P w = .ok v' w' ∧ Row w' e sz v' (n + m) (xs ++ news) ∧ Mod (fun k => ownOf v = some k) w w' ∧
      (∀ k, ownOf v' = some k → ownOf v = some k ∨ w.heap.size ≤ k) := by
  obtain ⟨hl, q, c, rfl, hq, hcells⟩ := hx
  rcases Nat.eq_zero_or_pos m with rfl | hm
  · obtain rfl : news = [] := List.eq_nil_of_length_eq_zero (by simpa using hl)
    obtain ⟨p, cap, hvf, hcap, _⟩ := hv.form
    subst hvf
    exact ⟨_, _, run_append_none w t ty e i ht hi p q n cap c hcap, by simpa using hv, Mod.refl _ _, fun k hk => .inl hk⟩
  · cases q with
    | none => have := hq rfl; omega
    | some a =>
      have hnews := hcells a rfl
      have hof : ∀ {w' : World} {v' : Value} {base : Nat}, w'.ownsRow base e sz v' (n + m) (xs ++ news) → Row w' e sz v' (n + m) (xs ++ news) ∧ ∀ k, ownOf v' = some k → base ≤ k := by
        intro w' v' base ho
        rcases ho.2 with ⟨_, h0⟩ | ⟨g, cap, cur, rfl, hb, hg, a1, a2, a3, a4⟩
        · omega
        · obtain ⟨cap', rfl⟩ : ∃ k, cap = k + 1 := ⟨cap - 1, by omega⟩
          exact ⟨⟨ho.1, .inr ⟨g, cap', cur, rfl, hg, a1, a2, by omega, a4⟩⟩, by rintro k ⟨⟩; exact hb⟩
      rcases hv.2 with ⟨rfl, rfl | ⟨g, rfl⟩⟩ | ⟨g, cap, cur, rfl, hg, b1, b2, b3, b4⟩
      · obtain rfl : xs = [] := List.eq_nil_of_length_eq_zero (by simpa using hv.1)
        obtain ⟨v', w', hrun, ho, hg, _⟩ := run_append_own (P := P) w w.heap.size t ty e i z sz bytes ht hi hz hsize hby hzs hsz (.slice none 0 0) 0 [] (World.ownsRow_nil w _ e sz) a m c news hl hnews h1 h63 hbytes (Nat.le_refl _)
        refine ⟨v', w', hrun, (hof ho).1, (Mod.of_grown hg).mono (by intro k _ hk; exact hk), fun k hk => .inr ((hof ho).2 k hk)⟩
      · obtain rfl : xs = [] := List.eq_nil_of_length_eq_zero (by simpa using hv.1)
        obtain ⟨v', w', hrun, ho, hg⟩ := run_append_arg_grows (P := P) w t ty e i z sz bytes ht hi hz hsize hby hzs hsz ⟨g, 0, none⟩ 0 0 [] (by simp) (by intro j u hu; simp at hu) a m c news hl hnews (by omega) h63 hbytes
        refine ⟨v', w', hrun, (hof ho).1, (Mod.of_grown hg).mono (by intro k _ hk; cases hk), fun k hk => .inr ((hof ho).2 k hk)⟩
      · rcases Nat.lt_or_ge (cap + 1) (n + m) with hlt | hge
        · obtain ⟨v', w', hrun, ho, hg'⟩ := run_append_arg_grows (P := P) w t ty e i z sz bytes ht hi hz hsize hby hzs hsz ⟨g, 0, none⟩ n (cap + 1) xs hv.1 (by
            intro j u hu
            rw [addr_add0, cell_of w hg]
            rw [← b4, List.getElem?_take] at hu
            split at hu
            · simpa using hu
            · cases hu) a m c news hl hnews hlt h63 hbytes
          refine ⟨v', w', hrun, (hof ho).1, (Mod.of_grown hg').mono (by intro k _ hk; cases hk), fun k hk => .inr ((hof ho).2 k hk)⟩
        · have hfit : n * sz + news.length ≤ cur.size := by
            rw [hl, ← Nat.add_mul]
            exact Nat.le_trans (Nat.mul_le_mul_right _ hge) b3
          have hrun := run_append_room (P := P) w t ty e i ht hi g n (cap + 1) cur hg a m c news (by rw [hl, hsize]) hnews h1 hge (by rw [hsize]; exact hfit)
          rw [hsize] at hrun
          refine ⟨_, _, hrun, ⟨by rw [List.length_append, hv.1, hl, Nat.add_mul], .inr ⟨g, cap, _, rfl, setRow_heap w g _ _ _ _ hg, hge, b2, ?_, ?_⟩⟩, ((Mod.refl (fun k => g = k) w).setRow (.inl rfl) _).mono (by rintro k _ rfl; rfl), fun k hk => .inl hk⟩
          · simp only [List.size_toArray, List.length_append, List.length_take, List.length_drop, Array.length_toList]
            omega
          · have e1 : cur.toList.take (n * sz) ++ news = xs ++ news := by rw [b4]
            have e2 : (xs ++ news).length = (n + m) * sz := by rw [List.length_append, hv.1, hl, Nat.add_mul]
            simp only [List.toList_toArray]
            rw [e1, List.take_append_of_le_length (by omega), List.take_of_length_le (by omega)]

/-- An append at a step of a region that draws. -/
theorem step_append_run {ops : Array Oper} {o : Oper} {a : Act} {w : World} {K : Act → World → Prop} {Q : Exit → Act → World → Prop} {E : Prop} (hgd : o.guard = none) (s x : Operand) (t t' : TypeId)
    (ho : o.op = .call { callee := .builtin .append, args := #[s, x], argTypes := #[t, t'] }) (vs vx : Value) (hs : a.eval s = vs) (hx : a.eval x = vx) (ty : TypeId) (hty : o.type = ty) (v : Value) (w' : World)
    (hrun : (Builtin.append_ #[t, t'] ty #[vs, vx]).run P w = .ok v w') (h : K (a.put o.dst v) w') :
    if Region.wanted o (yielded ops a.tmps) = true then Oper.wp P o a w K Q else E := by
  have hw : Region.wanted o (yielded ops a.tmps) = true := by simp [Region.wanted, hgd]
  rw [if_pos hw]
  unfold Oper.wp execOp
  subst hty
  simp only [ho, resolve, invoke, builtin, Sem.run_bind, Sem.run_pure, Result.andThen_ok, List.map_toArray, List.map_cons, List.map_nil, hs, hx, hrun]
  exact h
end
end Go.Proofs.Ytknjlmpjkkkilaa
