/- Contracts of image's methods on whole lines, copies, bytes. -/
import Derived.Test.YtbpjbhcehgeggaaImgB
namespace Go.Proofs.Ytbpjbhcehgeggaa
open Go.RowKit
set_option linter.unusedVariables false
set_option linter.unusedSimpArgs false
attribute [local go_sem] World.cell? World.frozen?

theorem Img.keep {w w' : World} {S : Nat → Prop} {p d : Nat} {bs : List Int} (h : Img w p d bs) (hm : Mod S w w') (hp : ¬ S p) (hd : ¬ S d) : Img w' p d bs := by
  obtain ⟨cap, rest, e1, e2, e3, e4⟩ := h.ex
  exact ⟨⟨cap, rest, hm.at e1 hp, hm.at e2 hd, e3, e4⟩, h.ne, h.small, h.bytes⟩
theorem Img.lt {w : World} {p d : Nat} {bs : List Int} (h : Img w p d bs) : p < w.heap.size ∧ d < w.heap.size := by
  obtain ⟨cap, rest, e1, e2, e3, e4⟩ := h.ex
  exact ⟨lt_of_block e1, lt_of_block e2⟩

theorem setline_in (p d k : Nat) (bs ls : List Int) (w : World) (h : Img w p d bs) (h16 : ls.length = 16) (hls : ∀ x ∈ ls, 0 ≤ x ∧ x ≤ 255) (hk : k < bs.length / 16) :
    Calls Try.prog 8 #[.pointer (some ⟨p, 0, none⟩), .int .u32 k, .agg (u8s ls).toArray] w fun e w' => e = .returned (.int .i64 0) ∧
      Img w' p d (over bs (k * 16) ls) ∧ Mod (· = d) w w' := by
  go_enter Try.func8, Try.ntmps8
  go_wp2_with fail
  have hm0 : Mod (· = d) w (w.alloc (Obj.cells (u8s ls).toArray 24)) := (Mod.refl _ _).alloc _
  refine (line_set p d w.heap.size k bs ls 24 _ (h.keep (S := fun _ => False) ((Mod.refl _ _).alloc _) (fun x => x) (fun x => x)) h16 hls hk (blk_new _ _)).mono ?_
  rintro e w1 ⟨rfl, hi, hm⟩
  go_wp2
  go_ret
  exact ⟨rfl, hi, hm0.trans hm⟩

theorem setline_out (p d : Nat) (k : Int) (bs : List Int) (v : Array Value) (w : World) (h : Img w p d bs) (h0 : 0 ≤ k) (h4 : k ≤ 4294967295) (hk : (bs.length : Int) / 16 ≤ k) :
    Calls Try.prog 8 #[.pointer (some ⟨p, 0, none⟩), .int .u32 k, .agg v] w fun e w' => e = .returned (.int .i64 4) ∧
      Mod (fun _ => False) w w' := by
  go_enter Try.func8, Try.ntmps8
  go_wp2_with fail
  refine (line_none p d k bs _ _ (h.keep (S := fun _ => False) ((Mod.refl _ _).alloc _) (fun x => x) (fun x => x)) h0 h4 hk).mono ?_
  rintro e w1 ⟨rfl, rfl⟩
  go_wp2
  go_ret
  exact ⟨rfl, (Mod.refl _ _).alloc _⟩

theorem size16 : (Try.prog.info? 24).map (·.size) = some 16 := by kernel_rfl
def zero16 : List Int := [0, 0, 0, 0, 0, 0, 0, 0, 0, 0, 0, 0, 0, 0, 0, 0]
theorem zero16_cells : (u8s zero16).toArray = #[Value.int IntKind.u8 0, Value.int IntKind.u8 0, Value.int IntKind.u8 0, Value.int IntKind.u8 0,
              Value.int IntKind.u8 0, Value.int IntKind.u8 0, Value.int IntKind.u8 0, Value.int IntKind.u8 0,
              Value.int IntKind.u8 0, Value.int IntKind.u8 0, Value.int IntKind.u8 0, Value.int IntKind.u8 0,
              Value.int IntKind.u8 0, Value.int IntKind.u8 0, Value.int IntKind.u8 0, Value.int IntKind.u8 0] := rfl

theorem getline_in (p d k : Nat) (bs : List Int) (w : World) (h : Img w p d bs) (hk : k < bs.length / 16) :
    Calls Try.prog 9 #[.pointer (some ⟨p, 0, none⟩), .int .u32 k] w fun e w' => e = .returned (.tuple #[.agg (u8s ((bs.drop (k * 16)).take 16)).toArray, .int .i64 0]) ∧
      Mod (fun _ => False) w w' := by
  have hsm := h.small
  have hl : (u8s ((bs.drop (k * 16)).take 16)).toArray.size = 16 := by simp; omega
  go_enter Try.func9, Try.ntmps9
  go_wp2_with fail
  rw [← zero16_cells]
  have hm0 : Mod (fun _ => False) w ((w.alloc (Obj.cells (u8s zero16).toArray 24)).alloc (Obj.cells (u8s zero16).toArray 24)) := ((Mod.refl _ _).alloc _).alloc _
  have hb0 : ((w.alloc (Obj.cells (u8s zero16).toArray 24)).alloc (Obj.cells (u8s zero16).toArray 24)).heap[w.heap.size]? = some (.cells (u8s zero16).toArray 24 (0, 0)) := blk_old _ _ (blk_new _ _)
  have hb1 : ((w.alloc (Obj.cells (u8s zero16).toArray 24)).alloc (Obj.cells (u8s zero16).toArray 24)).heap[w.heap.size + 1]? = some (.cells (u8s zero16).toArray 24 (0, 0)) := by
    have := blk_new (w.alloc (Obj.cells (u8s zero16).toArray 24)) (Obj.cells (u8s zero16).toArray 24)
    simpa using this
  refine (line_get p d (w.heap.size + 1) k bs (u8s zero16) 24 _ (h.keep hm0 (fun x => x) (fun x => x)) hk hb1 rfl).mono ?_
  rintro e w1 ⟨rfl, hi, hm⟩
  have hb2 := hm.at hb0 (by omega)
  have hmf : Mod (fun _ => False) w w1 := (hm0.mono (T := fun x => x = w.heap.size + 1) (fun _ _ x => x.elim)).trans hm |>.mono (fun k hk e => by omega)
  clear hm0 hb0 hb1 hm
  go_wp2_with (first
    | (refine wpL_load rfl 24 _ rfl (w.heap.size + 1) rfl _ hi Try.underlying24 rfl 16 size16 hl ?_)
    | (refine wpL_store rfl 24 _ _ rfl (w.heap.size) rfl _ rfl _ hb2 16 size16 hl rfl (u8s_one _) ?_))
  have hb3 := setRow_heap w1 w.heap.size _ (u8s ((bs.drop (k * 16)).take 16)).toArray _ _ hb2
  have hlo := run_loadVar_row (P := Try.prog) _ w.heap.size 24 24 _ _ _ hb3 Try.underlying24 rfl (by rw [size16, hl])
  refine bodyPost_ret (v := .tuple #[.agg (u8s ((bs.drop (k * 16)).take 16)).toArray, .int .i64 0]) (by simp [results, Try.results9, asAddr, hlo]) rfl ⟨rfl, ?_⟩
  exact hmf.setRow (.inr (Nat.le_refl _)) _

theorem getline_out (p d : Nat) (k : Int) (bs : List Int) (w : World) (h : Img w p d bs) (h0 : 0 ≤ k) (h4 : k ≤ 4294967295) (hk : (bs.length : Int) / 16 ≤ k) :
    Calls Try.prog 9 #[.pointer (some ⟨p, 0, none⟩), .int .u32 k] w fun e w' => e = .returned (.tuple #[.agg (u8s zero16).toArray, .int .i64 4]) ∧
      Mod (fun _ => False) w w' := by
  go_enter Try.func9, Try.ntmps9
  go_wp2_with fail
  rw [← zero16_cells]
  have hm0 : Mod (fun _ => False) w ((w.alloc (Obj.cells (u8s zero16).toArray 24)).alloc (Obj.cells (u8s zero16).toArray 24)) := ((Mod.refl _ _).alloc _).alloc _
  have hb0 : ((w.alloc (Obj.cells (u8s zero16).toArray 24)).alloc (Obj.cells (u8s zero16).toArray 24)).heap[w.heap.size]? = some (.cells (u8s zero16).toArray 24 (0, 0)) := blk_old _ _ (blk_new _ _)
  have hb1 : ((w.alloc (Obj.cells (u8s zero16).toArray 24)).alloc (Obj.cells (u8s zero16).toArray 24)).heap[w.heap.size + 1]? = some (.cells (u8s zero16).toArray 24 (0, 0)) := by
    have := blk_new (w.alloc (Obj.cells (u8s zero16).toArray 24)) (Obj.cells (u8s zero16).toArray 24)
    simpa using this
  refine (line_none p d k bs _ _ (h.keep hm0 (fun x => x) (fun x => x)) h0 h4 hk).mono ?_
  rintro e w1 ⟨rfl, rfl⟩
  generalize (w.alloc (Obj.cells (u8s zero16).toArray 24)).alloc (Obj.cells (u8s zero16).toArray 24) = w1 at *
  go_wp2_with (first
    | (refine wpL_load rfl 24 _ rfl (w.heap.size + 1) rfl _ hb1 Try.underlying24 rfl 16 size16 rfl ?_)
    | (refine wpL_store rfl 24 _ _ rfl (w.heap.size) rfl _ rfl _ hb0 16 size16 rfl rfl (u8s_one _) ?_))
  have hb3 := setRow_heap w1 w.heap.size _ (u8s zero16).toArray _ _ hb0
  have hlo := run_loadVar_row (P := Try.prog) _ w.heap.size 24 24 _ _ _ hb3 Try.underlying24 rfl (by rw [size16]; rfl)
  refine bodyPost_ret (v := .tuple #[.agg (u8s zero16).toArray, .int .i64 4]) (by simp [results, Try.results9, asAddr, hlo]) rfl ⟨rfl, ?_⟩
  exact hm0.setRow (.inr (Nat.le_refl _)) _
end Go.Proofs.Ytbpjbhcehgeggaa
