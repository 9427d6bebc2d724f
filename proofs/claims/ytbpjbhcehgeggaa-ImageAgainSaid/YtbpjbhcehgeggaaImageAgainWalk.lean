/- ImageAgain returns true, and changes nothing that was there: the walk. -/
import Derived.Test.YtbpjbhcehgeggaaImgM
import Derived.Laws.BitsAllLaws
namespace Go.Proofs.Ytbpjbhcehgeggaa
open Go.RowKit
set_option linter.unusedVariables false
set_option linter.unusedSimpArgs false

def readVal (l : List Int) (a wd : Int) : Int := if refusal l.length a wd = 0 then leSum ((l.drop a.toNat).take wd.toNat) else 0
def writeVal (l : List Int) (a wd v : Int) : List Int := if refusal l.length a wd = 0 then over l a.toNat (le v wd.toNat) else l

theorem read_any (p d : Nat) (a wd : Int) (bs : List Int) (w : World) (h : Img w p d bs) (hn : bs.length % 4 = 0) (ha : 0 ≤ a) (ha4 : a ≤ 4294967295) :
    Calls Try.prog 14 #[.pointer (some ⟨p, 0, none⟩), .int .u32 a, .int .i64 wd] w fun e w' => e = .returned (.tuple #[.int .u32 (readVal bs a wd), .int .i64 (refusal bs.length a wd)]) ∧ Mod (fun _ => False) w w' := by
  by_cases hr : refusal bs.length a wd = 0
  · obtain ⟨h1, h2, h3⟩ := refusal_fits ha hn hr
    have hw0 : 0 ≤ wd := by rcases h1 with rfl | rfl | rfl <;> omega
    obtain ⟨a, rfl⟩ := Int.eq_ofNat_of_zero_le ha
    obtain ⟨wd, rfl⟩ := Int.eq_ofNat_of_zero_le hw0
    rw [readVal, if_pos hr, hr]
    exact read_yes p d a wd bs w h h1 (by exact_mod_cast h2) (by exact_mod_cast h3)
  · rw [readVal, if_neg hr]
    exact read_no p d a wd _ bs w h ha ha4 rfl hr

theorem writeVal_length (l : List Int) (a wd v : Int) (hn : l.length % 4 = 0) (ha : 0 ≤ a) : (writeVal l a wd v).length = l.length := by
  unfold writeVal
  split
  · rename_i hr
    obtain ⟨h1, h2, h3⟩ := refusal_fits ha hn hr
    have hw0 : 0 ≤ wd := by rcases h1 with rfl | rfl | rfl <;> omega
    exact over_length _ _ _ (by simp; omega)
  · rfl

theorem write_any (p d : Nat) (a wd v : Int) (bs : List Int) (w : World) (h : Img w p d bs) (hn : bs.length % 4 = 0) (ha : 0 ≤ a) (ha4 : a ≤ 4294967295) (hv0 : 0 ≤ v) (hv : v ≤ 4294967295) :
    Calls Try.prog 13 #[.pointer (some ⟨p, 0, none⟩), .int .u32 a, .int .i64 wd, .int .u32 v] w fun e w' => e = .returned (.int .i64 (refusal bs.length a wd)) ∧
      Img w' p d (writeVal bs a wd v) ∧ Mod (· = d) w w' := by
  by_cases hr : refusal bs.length a wd = 0
  · obtain ⟨h1, h2, h3⟩ := refusal_fits ha hn hr
    have hw0 : 0 ≤ wd := by rcases h1 with rfl | rfl | rfl <;> omega
    rw [writeVal, if_pos hr]
    obtain ⟨a, rfl⟩ := Int.eq_ofNat_of_zero_le ha
    obtain ⟨wd, rfl⟩ := Int.eq_ofNat_of_zero_le hw0
    rw [hr]
    exact write_yes p d a wd v bs w h h1 (by exact_mod_cast h2) (by exact_mod_cast h3) hv0 hv
  · rw [writeVal, if_neg hr]
    refine (write_no p d a wd v _ bs w h ha ha4 rfl hr).mono ?_
    rintro e w' ⟨rfl, hm⟩
    exact ⟨rfl, h.keep hm (fun x => x) (fun x => x), hm.mono (fun _ _ x => x.elim)⟩

/-! ### The plain law -/
theorem and_255 (v : Int) (h0 : 0 ≤ v) (h4 : v ≤ 4294967295) : bits .and .u32 v 255 = v % 256 :=
  bits_mask .u32 32 (by decide) (fun n a b => IntWalk.u32_in n (by omega)) 8 (by decide) v h0 (by omega)
theorem and_65535 (v : Int) (h0 : 0 ≤ v) (h4 : v ≤ 4294967295) : bits .and .u32 v 65535 = v % 65536 :=
  bits_mask .u32 32 (by decide) (fun n a b => IntWalk.u32_in n (by omega)) 16 (by decide) v h0 (by omega)

theorem over_read (l m : List Int) (a : Nat) (h : a + m.length ≤ l.length) : ((over l a m).drop a).take m.length = m := by
  have h1 : (l.take a).length = a := by simp; omega
  unfold over
  rw [List.drop_append_of_le_length (by omega), List.drop_of_length_le (by omega)]
  simp
theorem leSum_le (v : Int) (h0 : 0 ≤ v) (h4 : v ≤ 4294967295) : leSum (le v 1) = v % 256 ∧ leSum (le v 2) = v % 65536 ∧ leSum (le v 4) = v := by
  refine ⟨?_, ?_, ?_⟩ <;> simp [le, leSum, List.range_succ] <;> omega
/-- What is written is read, as far as it goes. -/
theorem again_same (l : List Int) (a wd v : Int) (hn : l.length % 4 = 0) (ha : 0 ≤ a) (h0 : 0 ≤ v) (h4 : v ≤ 4294967295) (hr : refusal l.length a wd = 0) :
    readVal (writeVal l a wd v) a wd = if wd = 1 then v % 256 else if wd = 2 then v % 65536 else v := by
  obtain ⟨h1, h2, h3⟩ := refusal_fits ha hn hr
  have hl := writeVal_length l a wd v hn ha
  rw [readVal, hl, if_pos hr, writeVal, if_pos hr]
  have hs := leSum_le v h0 h4
  have := over_read l (le v wd.toNat) a.toNat (by simp; rcases h1 with rfl | rfl | rfl <;> omega)
  rw [le_length] at this
  rw [this]
  rcases h1 with rfl | rfl | rfl
  · exact hs.1
  · exact hs.2.1
  · exact hs.2.2
theorem take_one (l : List Int) (i : Nat) (h : i < l.length) : leSum ((l.drop i).take 1) = l[i] := by
  rw [List.drop_eq_getElem_cons h]; simp only [List.take_succ_cons, List.take_zero, leSum]; omega
/-- Elsewhere all is as it was. -/
theorem again_other (l : List Int) (a wd v o : Int) (hn : l.length % 4 = 0) (ha : 0 ≤ a) (ho : 0 ≤ o) (hb : o < a ∨ a + wd ≤ o) : readVal (writeVal l a wd v) o 1 = readVal l o 1 := by
  have hl := writeVal_length l a wd v hn ha
  rw [readVal, readVal, hl]
  split
  · rename_i hr
    obtain ⟨-, -, h3⟩ := refusal_zero ho hr
    have h1 : o.toNat < l.length := by omega
    rw [show (1 : Int).toNat = 1 from rfl, take_one _ _ (by omega), take_one _ _ h1]
    unfold writeVal at hl ⊢
    split
    · rename_i hr2
      obtain ⟨q1, q2, q3⟩ := refusal_fits ha hn hr2
      have hw0 : 0 ≤ wd := by rcases q1 with rfl | rfl | rfl <;> omega
      have hlen : (over l a.toNat (le v wd.toNat)).length = l.length := over_length _ _ _ (by simp; omega)
      have e : (over l a.toNat (le v wd.toNat))[o.toNat]? = l[o.toNat]? := by
        unfold over
        have ht : (l.take a.toNat).length = a.toNat := by simp; omega
        rcases hb with hb | hb
        · rw [List.getElem?_append_left (by omega), List.getElem?_take_of_lt (by omega)]
        · rw [List.getElem?_append_right (by omega), List.getElem?_append_right (by simp; omega), List.getElem?_drop, ht]
          simp only [le_length]
          congr 1
          omega
      rw [List.getElem?_eq_getElem (by omega), List.getElem?_eq_getElem h1] at e
      simpa using e
    · rfl
  · rfl
/-- A word is that of its halves and bytes. -/
theorem again_parts (l : List Int) (at' : Int) (h0 : 0 ≤ at') (h4 : at' % 4 = 0) (hl : at' + 4 ≤ l.length) (hb : ∀ x ∈ l, 0 ≤ x ∧ x ≤ 255) :
    ∃ b0 b1 b2 b3 : Int, (0 ≤ b0 ∧ b0 ≤ 255) ∧ (0 ≤ b1 ∧ b1 ≤ 255) ∧ (0 ≤ b2 ∧ b2 ≤ 255) ∧ (0 ≤ b3 ∧ b3 ≤ 255) ∧ readVal l at' 4 = b0 + 256 * b1 + 65536 * b2 + 16777216 * b3 ∧ readVal l at' 2 = b0 + 256 * b1 ∧
      readVal l (at' + 2) 2 = b2 + 256 * b3 ∧ readVal l (at' + 3) 1 = b3 := by
  obtain ⟨i, rfl⟩ := Int.eq_ofNat_of_zero_le h0
  have hi : i + 4 ≤ l.length := by omega
  have g : ∀ k (h : k < l.length), 0 ≤ l[k] ∧ l[k] ≤ 255 := fun k h => hb _ (List.getElem_mem h)
  refine ⟨l[i], l[i + 1], l[i + 2], l[i + 3], g _ _, g _ _, g _ _, g _ _, ?_, ?_, ?_, ?_⟩
  · have hr : refusal l.length i 4 = 0 := by unfold refusal; rw [if_neg (by simp [wide]), if_neg (by omega), if_neg (by omega)]
    rw [readVal, if_pos hr]
    simp only [Int.toNat_natCast]
    rw [show (4 : Int).toNat = 4 from rfl, List.drop_eq_getElem_cons (by omega), List.drop_eq_getElem_cons (by omega), List.drop_eq_getElem_cons (by omega), List.drop_eq_getElem_cons (by omega)]
    simp only [List.take_succ_cons, List.take_zero, leSum, Nat.add_assoc, Nat.reduceAdd]; omega
  · have hr : refusal l.length i 2 = 0 := by unfold refusal; rw [if_neg (by simp [wide]), if_neg (by omega), if_neg (by omega)]
    rw [readVal, if_pos hr]
    simp only [Int.toNat_natCast]
    rw [show (2 : Int).toNat = 2 from rfl, List.drop_eq_getElem_cons (by omega), List.drop_eq_getElem_cons (by omega)]
    simp only [List.take_succ_cons, List.take_zero, leSum, Nat.add_assoc, Nat.reduceAdd]; omega
  · have hr : refusal l.length (i + 2) 2 = 0 := by unfold refusal; rw [if_neg (by simp [wide]), if_neg (by omega), if_neg (by omega)]
    rw [readVal, if_pos hr]
    rw [show (2 : Int).toNat = 2 from rfl, show ((i : Int) + 2).toNat = i + 2 by omega, List.drop_eq_getElem_cons (by omega), List.drop_eq_getElem_cons (by omega)]
    simp only [List.take_succ_cons, List.take_zero, leSum, Nat.add_assoc, Nat.reduceAdd]; omega
  · have hr : refusal l.length (i + 3) 1 = 0 := by unfold refusal; rw [if_neg (by simp [wide]), if_neg (by omega), if_neg (by omega)]
    rw [readVal, if_pos hr]
    rw [show (1 : Int).toNat = 1 from rfl, show ((i : Int) + 3).toNat = i + 3 by omega, take_one _ _ (by omega)]

set_option maxRecDepth 100000 in
set_option maxHeartbeats 8000000 in
theorem imageAgain_t (a : Option Addr) (n0 c0 : Nat) (wd A Wd V o : Int) (w : World) (h : ¬ 10000 < n0) (hb : BytesAt w a n0) (hA0 : 0 ≤ A) (hA1 : A ≤ 4294967295) (hV0 : 0 ≤ V) (hV1 : V ≤ 4294967295) (ho0 : 0 ≤ o) (ho1 : o ≤ 4294967295) :
    Calls Try.prog 4 #[.slice a n0 c0, .int .i64 wd, .agg #[.int .u32 A, .int .i64 Wd, .int .u32 V], .int .u32 o] w fun e w' => e = .returned (.bool true) ∧ Below w.heap.size w w' := by
  have hm0 : Mod (fun _ => False) w (w.alloc (Obj.cells #[.int .u32 A, .int .i64 Wd, .int .u32 V] 38)) := (Mod.refl _ _).alloc _
  have hbox := blk_new w (Obj.cells #[.int .u32 A, .int .i64 Wd, .int .u32 V] 38)
  go_enter Try.func4, Try.ntmps4
  go_wp2_with fail
  generalize w.alloc (Obj.cells #[.int .u32 A, .int .i64 Wd, .int .u32 V] 38) = w0 at *
  refine (sized_ok a n0 c0 wd w0 (hb.keep hm0)).mono ?_
  rintro e w1 ⟨g, bs, rfl, hg0, hg, hpow, hbr, hm1⟩
  have hpr := hpow.range
  go_wp2_with fail
  refine (of_ok g bs.length bs [] w1 (by simpa using hg) hpr.1 hpr.2.1 hpow.bits hbr).mono ?_
  rintro e w2 ⟨rfl, hi, hm2, -⟩
  have hbox1 := hm1.at hbox (fun x => x)
  have hbox2 := hm2.at hbox1 (fun x => x)
  have hne : w.heap.size ≠ w1.heap.size := by have := lt_of_block hbox1; omega
  obtain ⟨p, d, hp, hd⟩ : ∃ p d, p = w1.heap.size + 1 ∧ d = w1.heap.size := ⟨_, _, rfl, rfl⟩
  rw [← hp, ← hd] at hi
  rw [← hp]
  rw [← hd] at hne
  have hw1 : w.heap.size ≤ d := by have := hm0.size; have := hm1.size; omega
  have hM : Mod (fun _ => False) w w2 := (hm0.trans hm1).trans hm2
  clear hp hd hm0 hm1 hm2 hbox hbox1 hg hg0 hb hpow
  go_wp2_with fail
  refine (copy_ok p d bs w2 hi (by omega)).mono ?_
  rintro e w3 ⟨p', d', rfl, hp', hd', hi', hm3⟩
  have hi3 := hi.keep hm3 (fun x => x) (fun x => x)
  have hbox3 := hm3.at hbox2 (fun x => x)
  have hb3 := cell_of w3 hbox3
  have b0 := hb3 0
  have b1 := hb3 1
  have b2 := hb3 2
  simp at b0 b1 b2
  have hlt := hi.lt
  have hn4 : bs.length % 4 = 0 := by omega
  clear hbox2 hb3
  go_wp2_with fail
  refine (write_any p d A Wd V bs w3 hi3 hn4 hA0 hA1 hV0 hV1).mono ?_
  rintro e w4 ⟨rfl, hi4, hm4⟩
  have hbox4 := hm4.at hbox3 hne
  have hi4' := hi'.keep hm4 (by omega) (by omega)
  have hM4 : Mod (fun x => x = d) w w4 := ((hM.trans hm3).mono (fun _ _ x => x.elim)).trans hm4
  have hl4 := writeVal_length bs A Wd V hn4 hA0
  have hb4 := cell_of w4 hbox4
  have b0' := hb4 0
  have b1' := hb4 1
  have b2' := hb4 2
  simp at b0' b1' b2'
  have HL4 := Lib.hid hl4
  have HN4 := Lib.hid hn4
  clear hb4 b0 b1 b2 hl4 hn4 hM hm3 hm4 hi hi' hi3 hbox3
  go_wp2_with fail
  refine (read_any p d A Wd _ w4 hi4 (by rw [HL4.out]; exact HN4.out) hA0 hA1).mono ?_
  rintro e w5 ⟨rfl, hm5⟩
  rw [HL4.out]
  have hbox5 := hm5.at hbox4 (fun x => x)
  have hi5 := hi4.keep hm5 (fun x => x) (fun x => x)
  have hi5' := hi4'.keep hm5 (fun x => x) (fun x => x)
  have hM5 : Mod (fun x => x = d) w w5 := hM4.trans (hm5.mono (fun _ _ x => x.elim))
  have hb5 := cell_of w5 hbox5
  have c0 := hb5 0
  have c1 := hb5 1
  have c2 := hb5 2
  simp at c0 c1 c2
  clear hb5 b0' b1' b2' hi4 hi4' hM4 hm5 hbox4
  by_cases hr : refusal bs.length A Wd = 0
  · have hsame := again_same bs A Wd V HN4.out hA0 hV0 hV1 hr
    have hfit := refusal_fits hA0 HN4.out hr
    have hother := fun hb => again_other bs A Wd V o HN4.out hA0 ho0 hb
    have hbL := hi5.bytes
    have a255 := and_255 V hV0 hV1
    have a65535 := and_65535 V hV0 hV1
    rw [hr]
    obtain ⟨L, hL⟩ : ∃ L, L = writeVal bs A Wd V := ⟨_, rfl⟩
    rw [← hL] at hsame hi5 HL4 hother hbL ⊢
    rw [hsame]
    clear hr hsame hL
    have hatl : A - A % 4 + 4 ≤ L.length := by
      have h1 := HL4.out; have h2 := HN4.out
      have : A < bs.length := by rcases hfit.1 with h | h | h <;> omega
      omega
    obtain ⟨b0, b1, b2, b3, r0, r1, r2, r3, q1, q2, q3, q4⟩ := again_parts L (A - A % 4) (by omega) (by omega) hatl hbL
    have hcase : (o < A ∧ Hid (readVal L o 1 = readVal bs o 1)) ∨ (A ≤ o ∧ A + Wd ≤ o ∧ Hid (readVal L o 1 = readVal bs o 1)) ∨ (A ≤ o ∧ o < A + Wd ∧ Hid True) := by
      by_cases k1 : o < A
      · exact .inl ⟨k1, hother (.inl k1)⟩
      · by_cases k2 : A + Wd ≤ o
        · exact .inr (.inl ⟨by omega, k2, hother (.inr k2)⟩)
        · exact .inr (.inr ⟨by omega, by omega, trivial⟩)
    have HQ := Lib.hid (And.intro q1 (And.intro q2 (And.intro q3 q4)))
    have hAW : A + Wd ≤ bs.length := hfit.2.2
    have hsm := hpr.2.1
    have hw := hfit.1
    clear hother q1 q2 q3 q4 hfit hbL hatl hpr hbr
    have hn4' : L.length % 4 = 0 := by rw [HL4.out]; exact HN4.out
    have HN' := Lib.hid hn4'
    clear hn4'
    rcases hw with rfl | rfl | rfl
    all_goals
      rcases hcase with ⟨k1, HXY⟩ | ⟨k1, k2, HXY⟩ | ⟨k1, k2, HXY⟩
    all_goals
      go_wp2_with (go_at_call 10; refine (num_any _ _).mono ?_; rintro e w' ⟨rfl, rfl⟩)
      refine (read_any p d o 1 L w5 hi5 HN'.out ho0 ho1).mono ?_
      rintro e w6 ⟨rfl, hm6⟩
      first | rw [HL4.out, HXY.out] | rw [HL4.out]
      have hi6 := hi5.keep hm6 (fun x => x) (fun x => x)
      have hi6' := hi5'.keep hm6 (fun x => x) (fun x => x)
      have hbox6 := hm6.at hbox5 (fun x => x)
      have hM6 : Mod (fun x => x = d) w w6 := hM5.trans (hm6.mono (fun _ _ x => x.elim))
      clear hm6 hi5 hi5' hbox5 hM5 c0 c1 c2
      go_wp2_with fail
      refine (read_any p' d' o 1 bs w6 hi6' HN4.out ho0 ho1).mono ?_
      rintro e w7 ⟨rfl, hm7⟩
      have hi7 := hi6.keep hm7 (fun x => x) (fun x => x)
      have hbox7 := hm7.at hbox6 (fun x => x)
      have hM7 : Mod (fun x => x = d) w w7 := hM6.trans (hm7.mono (fun _ _ x => x.elim))
      have hb7 := cell_of w7 hbox7
      have c0 := hb7 0
      have c1 := hb7 1
      have c2 := hb7 2
      simp at c0 c1 c2
      clear hb7 hm7 hi6 hi6' hbox6 hM6 HXY
      go_wp2_with (go_at_call 10; refine (num_any _ _).mono ?_; rintro e w' ⟨rfl, rfl⟩)
      refine (read_any p d (A - A % 4) 4 L w7 hi7 HN'.out (by omega) (by omega)).mono ?_
      rintro e w8 ⟨rfl, hm8⟩
      rw [HQ.out.1]
      have hi8 := hi7.keep hm8 (fun x => x) (fun x => x)
      go_wp2_with fail
      refine (read_any p d (A - A % 4) 2 L w8 hi8 HN'.out (by omega) (by omega)).mono ?_
      rintro e w9 ⟨rfl, hm9⟩
      rw [HQ.out.2.1]
      have hi9 := hi8.keep hm9 (fun x => x) (fun x => x)
      go_wp2_with fail
      refine (read_any p d (A - A % 4 + 2) 2 L w9 hi9 HN'.out (by omega) (by omega)).mono ?_
      rintro e w10 ⟨rfl, hm10⟩
      rw [HQ.out.2.2.1]
      have hi10 := hi9.keep hm10 (fun x => x) (fun x => x)
      go_wp2_with fail
      refine (read_any p d (A - A % 4 + 3) 1 L w10 hi10 HN'.out (by omega) (by omega)).mono ?_
      rintro e w11 ⟨rfl, hm11⟩
      rw [HQ.out.2.2.2]
      have hB : Below w.heap.size w w11 := (hM7.trans ((((hm8.trans hm9).trans hm10).trans hm11).mono (fun _ _ x => x.elim))).belowAt (Nat.le_refl _) (fun k e => by omega)
      clear hm8 hm9 hm10 hm11 hi7 hi8 hi9 hi10 hM7 hbox7 HQ c0 c1 c2
      go_wp2_with (go_at_call 5; refine (works_ok _).mono ?_; rintro e w' ⟨rfl, hmw⟩)
      go_ret
      exact ⟨rfl, hB.trans ((hmw.below).mono hB.size)⟩
  · have hL : writeVal bs A Wd V = bs := by rw [writeVal, if_neg hr]
    rw [hL] at hi5 ⊢
    obtain ⟨R, hR⟩ : ∃ R, R = refusal bs.length A Wd := ⟨_, rfl⟩
    rw [← hR] at hr ⊢
    have hr0 : (R != 0) = true := by simpa using hr
    clear hL hR hr
    go_wp2_with (go_at_call 10; refine (num_any _ _).mono ?_; rintro e w' ⟨rfl, rfl⟩)
    refine (same_ok p d p' d' bs bs w5 hi5 hi5').mono ?_
    rintro e w6 ⟨rfl, hm6⟩
    have hB : Below w.heap.size w w6 := (hM5.trans (hm6.mono (fun _ _ x => x.elim))).belowAt (Nat.le_refl _) (fun k e => by omega)
    simp only [decide_true]
    go_wp2_with (go_at_call 5; refine (works_ok _).mono ?_; rintro e w' ⟨rfl, hmw⟩)
    go_ret
    exact ⟨rfl, hB.trans ((hmw.below).mono hB.size)⟩

set_option maxRecDepth 100000 in
theorem imageAgain_long (a : Option Addr) (n0 c0 : Nat) (wd A Wd V o : Int) (w : World) (h : 10000 < n0) :
    Calls Try.prog 4 #[.slice a n0 c0, .int .i64 wd, .agg #[.int .u32 A, .int .i64 Wd, .int .u32 V], .int .u32 o] w fun e w' => e = .returned (.bool true) ∧ Below w.heap.size w w' := by
  go_enter Try.func4, Try.ntmps4
  go_wp2_with fail
  refine (works_ok _).mono ?_
  rintro e w1 ⟨rfl, hm⟩
  go_wp2_with fail
  go_ret
  exact ⟨rfl, (((Mod.refl _ _).alloc _).trans hm).below⟩

/-- ImageAgain returns true. -/
theorem imageAgain_walk (a : Option Addr) (n0 c0 : Nat) (wd A Wd V o : Int) (w : World) (hb : n0 ≤ 10000 → BytesAt w a n0) (hA0 : 0 ≤ A) (hA1 : A ≤ 4294967295) (hV0 : 0 ≤ V) (hV1 : V ≤ 4294967295) (ho0 : 0 ≤ o) (ho1 : o ≤ 4294967295) :
    Calls Try.prog 4 #[.slice a n0 c0, .int .i64 wd, .agg #[.int .u32 A, .int .i64 Wd, .int .u32 V], .int .u32 o] w fun e w' => e = .returned (.bool true) ∧ Below w.heap.size w w' := by
  by_cases h : 10000 < n0
  · exact imageAgain_long a n0 c0 wd A Wd V o w h
  · exact imageAgain_t a n0 c0 wd A Wd V o w h (hb (by omega)) hA0 hA1 hV0 hV1 ho0 ho1
#print axioms imageAgain_walk
end Go.Proofs.Ytbpjbhcehgeggaa
