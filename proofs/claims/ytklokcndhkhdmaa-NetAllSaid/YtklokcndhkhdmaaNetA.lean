/- Messages as cells; what kinds want; which messages may be. -/
import Derived.Test.YtklokcndhkhdmaaChecked
import Derived.Test.YtklokcndhkhdmaaMaps
import Derived.Test.YtklokcndhkhdmaaEq
namespace Go.Proofs.Ytklokcndhkhdmaa
open Go.RowKit
set_option linter.unusedVariables false
set_option linter.unusedSimpArgs false

/-- A message. -/
structure Msg where
  kind : Int
  fro : Int
  to : Int
  line : Int
  bytes : List Int
deriving DecidableEq

def Msg.cells (m : Msg) : List Value := [.int .i64 m.kind, .int .i64 m.fro, .int .i64 m.to, .int .u32 m.line] ++ u8s m.bytes
def Msg.val (m : Msg) : Value := .agg m.cells.toArray
/-- Its numbers are of their kinds. -/
structure Msg.Fits (m : Msg) : Prop where
  sixteen : m.bytes.length = 16
  bytes : ∀ x ∈ m.bytes, 0 ≤ x ∧ x ≤ 255

def zero16 : List Int := [0, 0, 0, 0, 0, 0, 0, 0, 0, 0, 0, 0, 0, 0, 0, 0]
theorem zero16_cells : (u8s zero16).toArray = #[Value.int IntKind.u8 0, Value.int IntKind.u8 0, Value.int IntKind.u8 0, Value.int IntKind.u8 0,
              Value.int IntKind.u8 0, Value.int IntKind.u8 0, Value.int IntKind.u8 0, Value.int IntKind.u8 0,
              Value.int IntKind.u8 0, Value.int IntKind.u8 0, Value.int IntKind.u8 0, Value.int IntKind.u8 0,
              Value.int IntKind.u8 0, Value.int IntKind.u8 0, Value.int IntKind.u8 0, Value.int IntKind.u8 0] := rfl

/-- Does a kind go to the home, has it bytes, is it one? -/
def isHome (k : Int) : Bool := k == 1 || k == 2 || k == 3 || k == 11 || k == 12 || k == 13
def hasBytes (k : Int) : Bool := k == 3 || k == 11 || k == 8 || k == 9 || k == 10
def known (k : Int) : Bool := decide (1 ≤ k ∧ k ≤ 13)
def wantV (h b : Bool) : Value := .agg #[.bool h, .bool b]
def wantsMap : Obj := .map #[
  { key := .int .i64 1, val := wantV true false, born := 0 }, { key := .int .i64 2, val := wantV true false, born := 1 }, { key := .int .i64 3, val := wantV true true, born := 2 },
  { key := .int .i64 11, val := wantV true true, born := 3 }, { key := .int .i64 12, val := wantV true false, born := 4 }, { key := .int .i64 13, val := wantV true false, born := 5 },
  { key := .int .i64 4, val := wantV false false, born := 6 }, { key := .int .i64 5, val := wantV false false, born := 7 }, { key := .int .i64 6, val := wantV false false, born := 8 }, { key := .int .i64 7, val := wantV false false, born := 9 },
  { key := .int .i64 8, val := wantV false true, born := 10 }, { key := .int .i64 9, val := wantV false true, born := 11 }, { key := .int .i64 10, val := wantV false true, born := 12 }] 13

section
attribute [local go_sem] newKey_nil newKey_cons
theorem wants_ok (w : World) : Calls Try.prog 28 #[] w fun e w' => e = .returned (.map (some w.heap.size)) ∧ w' = w.alloc wantsMap := by
  have hmm := @run_makeMap Try.prog
  have hins := run_insert_new (P := Try.prog) 68 22 66 .i64 Try.underlying68 Try.underlying22
  go_enter Try.func28, Try.ntmps28
  go_wp2
  go_ret
  exact ⟨rfl, rfl⟩
end

theorem wants_look (w : World) (r : Nat) (hr : w.heap[r]? = some wantsMap) (k : Int) :
    (Instr.lookup 68 (.map (some r)) (.int .i64 k) true).run Try.prog w = .ok (.tuple #[wantV (isHome k) (hasBytes k), .bool (known k)]) w := by
  have hit := fun i v hf => run_lookup_hit (P := Try.prog) 68 22 66 .i64 Try.underlying68 Try.underlying22 w r _ _ hr k i v hf true
  by_cases h : 1 ≤ k ∧ k ≤ 13
  · have hc : k = 1 ∨ k = 2 ∨ k = 3 ∨ k = 4 ∨ k = 5 ∨ k = 6 ∨ k = 7 ∨ k = 8 ∨ k = 9 ∨ k = 10 ∨ k = 11 ∨ k = 12 ∨ k = 13 := by omega
    clear h
    rcases hc with rfl | rfl | rfl | rfl | rfl | rfl | rfl | rfl | rfl | rfl | rfl | rfl | rfl
    · exact hit 0 _ rfl
    · exact hit 1 _ rfl
    · exact hit 2 _ rfl
    · exact hit 6 _ rfl
    · exact hit 7 _ rfl
    · exact hit 8 _ rfl
    · exact hit 9 _ rfl
    · exact hit 10 _ rfl
    · exact hit 11 _ rfl
    · exact hit 12 _ rfl
    · exact hit 3 _ rfl
    · exact hit 4 _ rfl
    · exact hit 5 _ rfl
  · have hn : ∀ j : Int, 1 ≤ j → j ≤ 13 → (k == j) = false := by intro j h1 h2; simp; omega
    have e1 : isHome k = false := by simp [isHome, hn]
    have e2 : hasBytes k = false := by simp [hasBytes, hn]
    have e3 : known k = false := by simp [known]; omega
    rw [e1, e2, e3]
    exact run_lookup_miss (P := Try.prog) 68 22 66 .i64 Try.underlying68 Try.underlying22 (wantV false false) (fun w => by kernel_rfl) w r _ _ hr k
      (by simp [Instr.findNow, Instr.sameNow, hn]) true
end Go.Proofs.Ytklokcndhkhdmaa
