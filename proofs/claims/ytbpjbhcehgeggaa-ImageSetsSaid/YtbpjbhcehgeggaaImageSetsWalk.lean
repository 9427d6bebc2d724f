/- ImageSets returns true, and changes nothing that was there: the walk. -/
import Derived.Test.YtbpjbhcehgeggaaImgM
import Derived.Test.YtbpjbhcehgeggaaEq
namespace Go.Proofs.Ytbpjbhcehgeggaa
open Go.RowKit
set_option linter.unusedVariables false
set_option linter.unusedSimpArgs false

theorem eql16 (w : World) (xs ys : List Int) (hx : xs.length = 16) (hy : ys.length = 16) :
    (binOp .eql 24 (.agg (u8s xs).toArray) (.agg (u8s ys).toArray)).run Try.prog w = .ok (.bool (decide (xs = ys))) w :=
  run_eql_ints w 24 5 16 .u8 .u8 Try.underlying24 Try.underlying5 info_u8_size xs ys hx hy

/-- A line of bytes. -/
def lineOf (bs : List Int) (k : Nat) : List Int := (bs.drop (k * 16)).take 16
theorem lineOf_length {bs : List Int} {k : Nat} (h : k < bs.length / 16) : (lineOf bs k).length = 16 := by simp [lineOf]; omega
theorem lineOf_over_same (bs ls : List Int) (k : Nat) (h : k < bs.length / 16) (hl : ls.length = 16) : lineOf (over bs (k * 16) ls) k = ls := by
  have h1 : (bs.take (k * 16)).length = k * 16 := by simp; omega
  unfold lineOf over
  rw [List.drop_append_of_le_length (by omega), List.drop_of_length_le (by omega)]
  simp [hl]
theorem lineOf_over_other (bs ls : List Int) (k o : Nat) (h : k < bs.length / 16) (ho : o < bs.length / 16) (hl : ls.length = 16) (hne : o ≠ k) : lineOf (over bs (k * 16) ls) o = lineOf bs o := by
  unfold lineOf
  apply List.ext_getElem?
  intro i
  simp only [List.getElem?_take, List.getElem?_drop]
  split
  · rename_i hi
    unfold over
    rcases Nat.lt_or_ge o k with h1 | h1
    · rw [List.getElem?_append_left (by simp; omega), List.getElem?_take_of_lt (by omega)]
    · have h2 : (bs.take (k * 16)).length = k * 16 := by simp; omega
      rw [List.getElem?_append_right (by omega), List.getElem?_append_right (by omega), List.getElem?_drop, h2, hl]
      congr 1
      omega
  · rfl

theorem setline_any (p d : Nat) (k : Int) (bs ls : List Int) (w : World) (h : Img w p d bs) (h16 : ls.length = 16) (hls : ∀ x ∈ ls, 0 ≤ x ∧ x ≤ 255) (h0 : 0 ≤ k) (h4 : k ≤ 4294967295) :
    Calls Try.prog 8 #[.pointer (some ⟨p, 0, none⟩), .int .u32 k, .agg (u8s ls).toArray] w fun e w' => ∃ (f : Int) (bs' : List Int), e = .returned (.int .i64 f) ∧
      Img w' p d bs' ∧ bs'.length = bs.length ∧ Mod (· = d) w w' ∧ (f == 0) = decide (k < (bs.length : Int) / 16) ∧
      (∀ o : Nat, o < bs.length / 16 → lineOf bs' o = if (o : Int) = k then ls else lineOf bs o) := by
  obtain ⟨k, rfl⟩ := Int.eq_ofNat_of_zero_le h0
  by_cases hk : k < bs.length / 16
  · refine (setline_in p d k bs ls w h h16 hls hk).mono ?_
    rintro e w' ⟨rfl, hi, hm⟩
    refine ⟨0, _, rfl, hi, over_length _ _ _ (by omega), hm, by simp; omega, fun o ho => ?_⟩
    split
    · rename_i e; have : o = k := by omega
      subst this; exact lineOf_over_same bs ls o hk h16
    · exact lineOf_over_other bs ls k o hk ho h16 (by omega)
  · refine (setline_out p d k bs _ w h h0 h4 (by omega)).mono ?_
    rintro e w' ⟨rfl, hm⟩
    refine ⟨4, bs, rfl, h.keep hm (fun x => x) (fun x => x), rfl, hm.mono (fun _ _ x => x.elim), by simp; omega, fun o ho => ?_⟩
    rw [if_neg (by omega)]

theorem getline_line (p d k : Nat) (bs l : List Int) (w : World) (h : Img w p d bs) (hk : k < bs.length / 16) (hl : lineOf bs k = l) :
    Calls Try.prog 9 #[.pointer (some ⟨p, 0, none⟩), .int .u32 k] w fun e w' => e = .returned (.tuple #[.agg (u8s l).toArray, .int .i64 0]) ∧
      Mod (fun _ => False) w w' := by subst hl; exact getline_in p d k bs w h hk
theorem refline_line (g k cap : Nat) (bs l : List Int) (w : World) (hg : w.heap[g]? = some (.cells (u8s bs).toArray 5 (0, 0))) (hk : k < bs.length / 16) (hn : bs.length ≤ 4096) (hl : lineOf bs k = l) :
    Calls Try.prog 11 #[.slice (some ⟨g, 0, none⟩) bs.length cap, .int .u32 k] w fun e w' => e = .returned (.agg (u8s l).toArray) ∧ Mod (fun _ => False) w w' := by
  subst hl; exact refline_ok g k cap bs w hg hk hn

theorem imageSets_long (a : Option Addr) (n0 c0 : Nat) (wd k o : Int) (ls : List Int) (w : World) (h : 10000 < n0) :
    Calls Try.prog 3 #[.slice a n0 c0, .int .i64 wd, .int .u32 k, .int .u32 o, .agg (u8s ls).toArray] w fun e w' => e = .returned (.bool true) ∧ Below w.heap.size w w' := by
  go_enter Try.func3, Try.ntmps3
  go_wp2_with fail
  refine (works_ok _).mono ?_
  rintro e w1 ⟨rfl, hm⟩
  go_wp2_with fail
  go_ret
  exact ⟨rfl, (((Mod.refl _ _).alloc _).trans hm).below⟩

set_option maxRecDepth 100000 in
set_option maxHeartbeats 1000000 in
theorem imageSets_t (a : Option Addr) (n0 c0 : Nat) (wd k o : Int) (ls : List Int) (w : World) (h : ¬ 10000 < n0) (hb : BytesAt w a n0) (h16 : ls.length = 16) (hls : ∀ x ∈ ls, 0 ≤ x ∧ x ≤ 255) (hk0 : 0 ≤ k) (hk1 : k ≤ 4294967295) (ho0 : 0 ≤ o) (ho1 : o ≤ 4294967295) :
    Calls Try.prog 3 #[.slice a n0 c0, .int .i64 wd, .int .u32 k, .int .u32 o, .agg (u8s ls).toArray] w fun e w' => e = .returned (.bool true) ∧ Below w.heap.size w w' := by
  have hm0 : Mod (fun _ => False) w (w.alloc (Obj.cells (u8s ls).toArray 24)) := (Mod.refl _ _).alloc _
  have hbox := blk_new w (Obj.cells (u8s ls).toArray 24)
  have hcs : (u8s ls).toArray.size = 16 := by simp [h16]
  go_enter Try.func3, Try.ntmps3
  go_wp2_with fail
  generalize w.alloc (Obj.cells (u8s ls).toArray 24) = w0 at *
  refine (sized_ok a n0 c0 wd w0 (hb.keep hm0)).mono ?_
  rintro e w1 ⟨g, bs, rfl, hg0, hg, hpow, hbr, hm1⟩
  have hpr := hpow.range
  go_wp2_with fail
  refine (of_ok g bs.length bs [] w1 (by simpa using hg) hpr.1 hpr.2.1 hpow.bits hbr).mono ?_
  rintro e w2 ⟨rfl, hi, hm2, -⟩
  have hg2 := hm2.at hg (fun x => x)
  have hbox1 := hm1.at hbox (fun x => x)
  have hbox2 := hm2.at hbox1 (fun x => x)
  have hne : w.heap.size ≠ w1.heap.size := by have := lt_of_block hbox1; omega
  have hgne : g ≠ w1.heap.size := by have := lt_of_block hg; omega
  obtain ⟨p, d, hp, hd⟩ : ∃ p d, p = w1.heap.size + 1 ∧ d = w1.heap.size := ⟨_, _, rfl, rfl⟩
  rw [← hp, ← hd] at hi
  rw [← hp]
  rw [← hd] at hne hgne
  have hw1 : w.heap.size ≤ d := by have := hm0.size; have := hm1.size; omega
  have hM : Mod (fun x => x = d) w w2 := ((hm0.trans hm1).trans hm2).mono (fun _ _ x => x.elim)
  clear hp hd hm0 hm1 hm2 hbox hbox1 hg hg0 hb hpow
  go_wp2_with (refine wpL_load rfl 24 _ rfl (w.heap.size) rfl _ hbox2 Try.underlying24 rfl 16 size16 hcs ?_)
  refine (setline_any p d k bs ls w2 hi h16 hls hk0 hk1).mono ?_
  rintro e w3 ⟨f, bs', rfl, hi3, hbl, hm3, hf, hlo⟩
  have hM3 := hM.trans hm3
  have hg3 := hm3.at hg2 hgne
  have hbox3 := hm3.at hbox2 hne
  have HF := Lib.hid hf
  have HL := Lib.hid hbl
  clear hM hm3 hg2 hbox2 hi hf hbl
  obtain ⟨o, rfl⟩ := Int.eq_ofNat_of_zero_le ho0
  by_cases ho : o < bs.length / 16
  · have hlo' := hlo o ho
    clear hlo
    have ho' : o < bs'.length / 16 := by rw [HL.out]; exact ho
    obtain ⟨l, hl⟩ : ∃ l, lineOf bs' o = l := ⟨_, rfl⟩
    obtain ⟨lb, hlb⟩ : ∃ lb, lineOf bs o = lb := ⟨_, rfl⟩
    rw [hl, hlb] at hlo'
    have hl16 : l.length = 16 := hl ▸ lineOf_length ho'
    have hlb16 : lb.length = 16 := hlb ▸ lineOf_length ho
    have hsz : (u8s l).toArray.size = 16 := by simp [hl16]
    have hszb : (u8s lb).toArray.size = 16 := by simp [hlb16]
    have HLL := Lib.hid hl
    have HLB := Lib.hid hlb
    have HO := Lib.hid hlo'
    have HL16 := Lib.hid hl16
    have HLB16 := Lib.hid hlb16
    have H16 := Lib.hid h16
    clear hl hlb hlo' hl16 hlb16 h16
    go_wp2_with fail
    refine (getline_line p d o bs' l w3 hi3 ho' HLL.out).mono ?_
    rintro e w4 ⟨rfl, hm4⟩
    have hg4 := hm4.at hg3 (fun x => x)
    have hbox4 := hm4.at hbox3 (fun x => x)
    have hw4 : w.heap.size < w4.heap.size := lt_of_block hbox4
    have hM4 := (hM3.trans (hm4.mono (fun _ _ x => x.elim))).alloc (Obj.cells (u8s l).toArray 24)
    go_wp2_with (refine wpL_storeNew rfl 24 _ _ rfl rfl _ rfl _ _ 16 size16 hsz rfl (u8s_one _) ?_)
    have hg5 := blk_old w4 (Obj.cells (u8s l).toArray 24) hg4
    have hbox5 := blk_old w4 (Obj.cells (u8s l).toArray 24) hbox4
    have hl5 := blk_new w4 (Obj.cells (u8s l).toArray 24)
    have hw5 : w4.heap.size < (w4.alloc (Obj.cells (u8s l).toArray 24)).heap.size := lt_of_block hl5
    generalize w4.alloc (Obj.cells (u8s l).toArray 24) = w5 at *
    clear hm4 hg4 hbox4 hi3 hM3 hg3 hbox3
    refine (refline_line g o bs.length bs lb w5 hg5 ho hpr.2.1 HLB.out).mono ?_
    rintro e w6 ⟨rfl, hm6⟩
    have hbox6 := hm6.at hbox5 (fun x => x)
    have hl6 := hm6.at hl5 (fun x => x)
    have hbox7 := blk_old w6 (Obj.cells (u8s lb).toArray 24) hbox6
    have hM6 := hM4.trans (hm6.mono (T := fun x => x = d) (fun _ _ x => x.elim))
    -- what is wanted: 'line' where the two numbers are one, else what was there; it is what was read
    have hfin : ∀ w7 : World, w7.heap[w4.heap.size]? = some (.cells (u8s l).toArray 24 (0, 0)) → w7.heap[w6.heap.size]? = some (.cells (u8s l).toArray 24 (0, 0)) → Mod (fun x => x = d) w w7 →
        w7.heap[w4.heap.size]? = some (.cells (u8s l).toArray 24 (0, 0)) ∧ w7.heap[w6.heap.size]? = some (.cells (u8s l).toArray 24 (0, 0)) ∧ Below w.heap.size w w7 :=
      fun w7 a b c => ⟨a, b, c.belowAt (Nat.le_refl _) (fun k e => by omega)⟩
    have heq : ∀ w, (binOp .eql 24 (.agg (u8s l).toArray) (.agg (u8s l).toArray)).run Try.prog w = .ok (.bool true) w := fun w => by
      rw [eql16 w l l HL16.out HL16.out]; simp
    have hnf : (decide (k < (bs.length : Int) / 16) == decide (k < (bs.length : Int) / 16)) = true := by simp
    by_cases hok : (o : Int) = k
    · have hll : l = ls := by rw [HO.out, if_pos hok]
      have hok' : ((o : Int) == k) = true := by simpa using hok
      rw [← hll] at hcs hbox7 ⊢
      have HK := Lib.hid hok
      clear hok HO hll hbox6 hbox5 hg5 hm6 hl5
      go_wp2_with (first
        | (refine wpL_storeNew rfl 24 _ _ rfl rfl _ rfl _ _ 16 size16 ?_ ?_ (u8s_one _) ?_; (first | exact hszb | exact hsz); (first | rfl | exact hszb))
        | (refine wpL_load rfl 24 _ rfl (w.heap.size) rfl _ hbox7 Try.underlying24 rfl 16 size16 hcs ?_))
      change Calls _ _ _ (w6.alloc (Obj.cells (u8s l).toArray 24)) _
      obtain ⟨k1, k2, hB⟩ := hfin _ (blk_old w6 (Obj.cells (u8s l).toArray 24) hl6) (blk_new w6 _) (hM6.alloc _)
      generalize w6.alloc (Obj.cells (u8s l).toArray 24) = w7 at *
      clear hfin hbox7 hM6 hM4 hl6
      have hf := HF.out
      go_wp2_with (first
        | (go_at_call 10; refine (num_any _ _).mono ?_; rintro e w' ⟨rfl, rfl⟩)
        | (go_at_call 5; refine (works_ok _).mono ?_; rintro e w' ⟨rfl, hmw⟩)
        | (refine wpL_load rfl 24 _ rfl (w4.heap.size) rfl _ k1 Try.underlying24 rfl 16 size16 hsz ?_)
        | (refine wpL_load rfl 24 _ rfl (w6.heap.size) rfl _ k2 Try.underlying24 rfl 16 size16 hsz ?_))
      go_ret
      exact ⟨rfl, hB.trans ((hmw.below).mono hB.size)⟩
    · have hll : lb = l := by rw [HO.out, if_neg hok]
      have hok' : ((o : Int) == k) = false := by simpa using hok
      rw [hll] at hszb hbox7 ⊢
      have HK := Lib.hid hok
      clear hok HO hll hbox6 hbox5 hg5 hm6 hl5
      go_wp2_with (refine wpL_storeNew rfl 24 _ _ rfl rfl _ rfl _ _ 16 size16 hszb rfl (u8s_one _) ?_)
      change Calls _ _ _ (w6.alloc (Obj.cells (u8s l).toArray 24)) _
      obtain ⟨k1, k2, hB⟩ := hfin _ (blk_old w6 (Obj.cells (u8s l).toArray 24) hl6) (blk_new w6 _) (hM6.alloc _)
      generalize w6.alloc (Obj.cells (u8s l).toArray 24) = w7 at *
      clear hfin hbox7 hM6 hM4 hl6
      have hf := HF.out
      go_wp2_with (first
        | (go_at_call 10; refine (num_any _ _).mono ?_; rintro e w' ⟨rfl, rfl⟩)
        | (go_at_call 5; refine (works_ok _).mono ?_; rintro e w' ⟨rfl, hmw⟩)
        | (refine wpL_load rfl 24 _ rfl (w4.heap.size) rfl _ k1 Try.underlying24 rfl 16 size16 hsz ?_)
        | (refine wpL_load rfl 24 _ rfl (w6.heap.size) rfl _ k2 Try.underlying24 rfl 16 size16 hsz ?_))
      go_ret
      exact ⟨rfl, hB.trans ((hmw.below).mono hB.size)⟩
  · clear hlo
    go_wp2_with fail
    refine (getline_out p d o bs' w3 hi3 ho0 ho1 (by rw [HL.out]; omega)).mono ?_
    rintro e w4 ⟨rfl, hm4⟩
    have hbox4 := hm4.at hbox3 (fun x => x)
    have hw4 : w.heap.size < w4.heap.size := lt_of_block hbox4
    have hB : Below w.heap.size w (w4.alloc (Obj.cells (u8s zero16).toArray 24)) := ((hM3.trans (hm4.mono (fun _ _ x => x.elim))).alloc _).belowAt (Nat.le_refl _) (fun k e => by omega)
    have hl5 := blk_new w4 (Obj.cells (u8s zero16).toArray 24)
    have heq : ∀ w, (binOp .eql 24 (.agg (u8s zero16).toArray) (.agg #[Value.int IntKind.u8 0, Value.int IntKind.u8 0, Value.int IntKind.u8 0, Value.int IntKind.u8 0,
              Value.int IntKind.u8 0, Value.int IntKind.u8 0, Value.int IntKind.u8 0, Value.int IntKind.u8 0,
              Value.int IntKind.u8 0, Value.int IntKind.u8 0, Value.int IntKind.u8 0, Value.int IntKind.u8 0,
              Value.int IntKind.u8 0, Value.int IntKind.u8 0, Value.int IntKind.u8 0, Value.int IntKind.u8 0])).run Try.prog w = .ok (.bool true) w := fun w => by
      have := eql16 w zero16 zero16 rfl rfl
      rw [decide_eq_true rfl] at this
      exact this
    clear hbox3 hbox4 hm4 hM3 hg3 hi3 HL HF
    go_wp2_with (first
      | (refine wpL_storeNew rfl 24 _ _ rfl rfl _ rfl _ _ 16 size16 rfl rfl (u8s_one _) ?_)
      | (go_at_call 10; refine (num_any _ _).mono ?_; rintro e w' ⟨rfl, rfl⟩)
      | (go_at_call 5; refine (works_ok _).mono ?_; rintro e w' ⟨rfl, hmw⟩)
      | (refine wpL_load rfl 24 _ rfl (w4.heap.size) rfl _ hl5 Try.underlying24 rfl 16 size16 rfl ?_))
    go_ret
    exact ⟨rfl, hB.trans ((hmw.below).mono hB.size)⟩

/-- ImageSets returns true. -/
theorem imageSets_walk (a : Option Addr) (n0 c0 : Nat) (wd k o : Int) (ls : List Int) (w : World) (hb : n0 ≤ 10000 → BytesAt w a n0) (h16 : ls.length = 16) (hls : ∀ x ∈ ls, 0 ≤ x ∧ x ≤ 255) (hk0 : 0 ≤ k) (hk1 : k ≤ 4294967295) (ho0 : 0 ≤ o) (ho1 : o ≤ 4294967295) :
    Calls Try.prog 3 #[.slice a n0 c0, .int .i64 wd, .int .u32 k, .int .u32 o, .agg (u8s ls).toArray] w fun e w' => e = .returned (.bool true) ∧ Below w.heap.size w w' := by
  by_cases h : 10000 < n0
  · exact imageSets_long a n0 c0 wd k o ls w h
  · exact imageSets_t a n0 c0 wd k o ls w h (hb (by omega)) h16 hls hk0 hk1 ho0 ho1
#print axioms imageSets_walk
end Go.Proofs.Ytbpjbhcehgeggaa
