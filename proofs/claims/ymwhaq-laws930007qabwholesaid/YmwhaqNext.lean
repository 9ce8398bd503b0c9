/-
  OWN TEXT. THE WALK OF Next (9).
-/
import Derived.Test.YmwhaqState
import Derived.Test.YmwhaqPlainB
namespace Go.Proofs.Ymwhaq
open Go.RowKit

theorem above_bits (x m : Nat) (hx : x < 18446744073709551616) (hm : m < 64) : bits .andNot .u64 (x : Int) (IntKind.u64.wrap (IntKind.u64.wrap (2 ^ m) - 1)) = ((above x m : Nat) : Int) := by
  have hp : 0 < 2 ^ m := Nat.pow_pos (by omega)
  have hlt : (2 : Nat) ^ m < 2 ^ 64 := Nat.pow_lt_pow_right (by omega) hm
  have h64 : (2 : Nat) ^ 64 = 18446744073709551616 := by decide
  rw [pow_wrap m hm]
  unfold above
  generalize (2 : Nat) ^ m = t at hp hlt
  rw [h64] at hlt
  have e : IntKind.u64.wrap ((t : Int) - 1) = ((t - 1 : Nat) : Int) := by
    rw [IntKind.wrap_u64]; omega
  rw [e]
  exact u64_andNot_nat x (t - 1) hx (by omega)

/-- What Next answers. -/
def nextRes (r : Option Nat) : Value := .tuple #[.int .i64 (ansI r), .bool r.isSome]

theorem ret_next {a : Int} {b : Bool} {r : Option Nat} (h1 : a = ansI r) (h2 : b = r.isSome) : Ending.returned (.tuple #[.int .i64 a, .bool b]) = .returned (nextRes r) := by rw [h1, h2]; rfl

set_option maxHeartbeats 400000 in
theorem next_far (bb n cap : Nat) (ao : Option Addr) (s : Nat) (w : World) (hs : n ≤ s / 64) (hs2 : s ≤ 9223372036854775807)
    (hb : w.cell? ⟨bb, 0, none⟩ = some (.slice ao n cap)) :
    Calls Yaqv.prog 9 #[.pointer (some ⟨bb, 0, none⟩), .int .i64 (s : Int)] w fun e w' => e = .returned (nextRes none) ∧ w' = w := by
  go_enter Yaqv.func9, Yaqv.ntmps9
  go_wp2_with fail
  go_ret2
  exact ⟨ret_next rfl rfl, rfl⟩

set_option maxHeartbeats 400000 in
theorem next_neg_far (bb cap : Nat) (ao : Option Addr) (i : Int) (w : World) (hs : i < 0)
    (hb : w.cell? ⟨bb, 0, none⟩ = some (.slice ao 0 cap)) :
    Calls Yaqv.prog 9 #[.pointer (some ⟨bb, 0, none⟩), .int .i64 i] w fun e w' => e = .returned (nextRes none) ∧ w' = w := by
  go_enter Yaqv.func9, Yaqv.ntmps9
  go_wp2_with fail
  go_ret2
  exact ⟨ret_next rfl rfl, rfl⟩

set_option maxHeartbeats 1600000 in
theorem next_in (bb g n cap : Nat) (f : Nat → Nat) (s : Nat) (w : World) (hs : s / 64 < n) (hok : Hid (Ok n f)) (hn : n ≤ 16384)
    (hb : w.cell? ⟨bb, 0, none⟩ = some (.slice (some ⟨g, 0, none⟩) n cap)) (hc : Hid (∀ j, j < n → w.cell? ⟨g, j, none⟩ = some (.int .u64 (f j : Int)))) :
    Calls Yaqv.prog 9 #[.pointer (some ⟨bb, 0, none⟩), .int .i64 (s : Int)] w fun e w' => ∃ r, isNext (has f) s r ∧ e = .returned (nextRes r) ∧ w' = w := by
  have hs2 : s < 1048576 := by omega
  have hx : f (s / 64) < 18446744073709551616 := hok.out.bd _
  have hc0 := hc.out (s / 64) hs
  have hab := above_bits (f (s / 64)) (s % 64) hx (by omega)
  obtain ⟨y, hy⟩ : ∃ y, above (f (s / 64)) (s % 64) = y := ⟨_, rfl⟩
  have HY : Hid (above (f (s / 64)) (s % 64) = y) := hy
  rw [hy] at hab
  have hy64 : y < 18446744073709551616 := by rw [← hy]; exact above_lt hx _
  have hd1 : decide ((s : Int) < 0) = false := decide_eq_false (by omega)
  have hd2 : decide ((n : Int) ≤ (s : Int) / 64) = false := decide_eq_false (by omega)
  clear hy
  by_cases hy0 : y = 0
  · have hne : ((y : Int) != 0) = false := by simp [hy0]
    have HN : Hid (∀ m, s ≤ m → m / 64 < s / 64 + 1 → has f m = false) := next_not_here (HY.out.trans hy0)
    clear hy0
    go_enter Yaqv.func9, Yaqv.ntmps9
    go_wp2_with fail
    go_loop [9] (fun v => ∃ j : Nat, s / 64 < j ∧ j ≤ n ∧ v = .int .i64 (j : Nat) ∧ Hid (∀ m, s ≤ m → m / 64 < j → has f m = false)) (fun v => n - (intOf v).toNat)
    case atStart => exact ⟨s / 64 + 1, by omega, by omega, by go_num, HN⟩
    case round =>
      obtain ⟨j, hj1, hj2, rfl, HJ⟩ := hrel
      by_cases hlt : j < n
      · have hcj := hc.out j hlt
        have hxj : f j < 18446744073709551616 := hok.out.bd _
        by_cases hz : f j = 0
        · have hzb : ((f j : Int) != 0) = false := by simp [hz]
          have HJ' : Hid (∀ m, s ≤ m → m / 64 < j + 1 → has f m = false) := next_skip hz HJ.out
          clear hz
          go_wp2_with fail
          go_round
          case rel => exact ⟨j + 1, by omega, by omega, by go_num, HJ'⟩
          case measure => simp [intOf]; omega
        · have hzb : ((f j : Int) != 0) = true := by simp; omega
          have HJ' : Hid (isNext (has f) s (some (j * 64 + low (f j)))) := next_there hxj hz hj1 HJ.out
          have hl := low_le (f j)
          clear hz
          go_wp2_with fail
          refine (low_any (f j) hxj _).mono ?_
          rintro e w' ⟨rfl, rfl⟩
          go_wp2_with fail
          go_ret2
          exact ⟨_, HJ'.out, ret_next (by simp [ansI]) rfl, rfl⟩
      · have hjn : j = n := by omega
        have HJ' : Hid (isNext (has f) s none) := next_none hok.out (hjn ▸ HJ.out)
        clear hjn
        go_wp2_with fail
        go_ret2
        exact ⟨_, HJ'.out, ret_next rfl rfl, rfl⟩
  · have hne : ((y : Int) != 0) = true := by simp; omega
    have HN : Hid (isNext (has f) s (some (s / 64 * 64 + low y))) := by
      have := next_here (f := f) (s := s) hx (by rw [HY.out]; exact hy0)
      rw [HY.out] at this
      exact this
    have hl := low_le y
    clear hy0
    go_enter Yaqv.func9, Yaqv.ntmps9
    go_wp2_with fail
    refine (low_any y hy64 _).mono ?_
    rintro e w' ⟨rfl, rfl⟩
    go_wp2_with fail
    go_ret2
    exact ⟨_, HN.out, ret_next (by simp [ansI]) rfl, rfl⟩

set_option maxHeartbeats 1600000 in
theorem next_neg (bb g n cap : Nat) (f : Nat → Nat) (i : Int) (w : World) (hi : i < 0) (hs : 0 < n) (hok : Hid (Ok n f)) (hn : n ≤ 16384)
    (hb : w.cell? ⟨bb, 0, none⟩ = some (.slice (some ⟨g, 0, none⟩) n cap)) (hc : Hid (∀ j, j < n → w.cell? ⟨g, j, none⟩ = some (.int .u64 (f j : Int)))) :
    Calls Yaqv.prog 9 #[.pointer (some ⟨bb, 0, none⟩), .int .i64 i] w fun e w' => ∃ r, isNext (has f) 0 r ∧ e = .returned (nextRes r) ∧ w' = w := by
  have hc0 := hc.out 0 hs
  have hx : f 0 < 18446744073709551616 := hok.out.bd _
  have ha0 : above (f 0) 0 = f 0 := by
    unfold above
    simp only [Nat.pow_zero, Nat.sub_self, Nat.sub_zero]
    have := Nat.and_two_pow_sub_one_eq_mod (f 0) 64
    rw [Nat.mod_eq_of_lt (hok.out.bd 0)] at this
    exact this
  have hab : bits .andNot .u64 (f 0 : Int) 0 = (f 0 : Int) := by
    have := u64_andNot_nat (f 0) 0 hx (by omega)
    rw [show (18446744073709551615 - 0 : Nat) = 18446744073709551615 - (2 ^ 0 - 1) from rfl] at this
    exact this.trans (congrArg Nat.cast ha0)
  have hn0 : ¬ n = 0 := by omega
  have HA : Hid (above (f 0) 0 = f 0) := ha0
  clear ha0
  by_cases hy0 : f 0 = 0
  · have hne : ((f 0 : Int) != 0) = false := by simp [hy0]
    have HN : Hid (∀ m, 0 ≤ m → m / 64 < 1 → has f m = false) := next_not_here (f := f) (s := 0) (HA.out.trans hy0)
    clear hy0
    go_enter Yaqv.func9, Yaqv.ntmps9
    go_wp2_with fail
    go_loop [9] (fun v => ∃ j : Nat, 0 < j ∧ j ≤ n ∧ v = .int .i64 (j : Nat) ∧ Hid (∀ m, 0 ≤ m → m / 64 < j → has f m = false)) (fun v => n - (intOf v).toNat)
    case atStart => exact ⟨1, by omega, by omega, rfl, HN⟩
    case round =>
      obtain ⟨j, hj1, hj2, rfl, HJ⟩ := hrel
      by_cases hlt : j < n
      · have hcj := hc.out j hlt
        have hxj : f j < 18446744073709551616 := hok.out.bd _
        by_cases hz : f j = 0
        · have hzb : ((f j : Int) != 0) = false := by simp [hz]
          have HJ' : Hid (∀ m, 0 ≤ m → m / 64 < j + 1 → has f m = false) := next_skip hz HJ.out
          clear hz
          go_wp2_with fail
          go_round
          case rel => exact ⟨j + 1, by omega, by omega, by go_num, HJ'⟩
          case measure => simp [intOf]; omega
        · have hzb : ((f j : Int) != 0) = true := by simp; omega
          have HJ' : Hid (isNext (has f) 0 (some (j * 64 + low (f j)))) := next_there hxj hz (by omega) HJ.out
          have hl := low_le (f j)
          clear hz
          go_wp2_with fail
          refine (low_any (f j) hxj _).mono ?_
          rintro e w' ⟨rfl, rfl⟩
          go_wp2_with fail
          go_ret2
          exact ⟨_, HJ'.out, ret_next (by simp [ansI]) rfl, rfl⟩
      · have hjn : j = n := by omega
        have HJ' : Hid (isNext (has f) 0 none) := next_none hok.out (hjn ▸ HJ.out)
        clear hjn
        go_wp2_with fail
        go_ret2
        exact ⟨_, HJ'.out, ret_next rfl rfl, rfl⟩
  · have hne : ((f 0 : Int) != 0) = true := by simp; omega
    have HN : Hid (isNext (has f) 0 (some (low (f 0)))) := by
      have := next_here (f := f) (s := 0) hx (by rw [HA.out]; exact hy0)
      rw [HA.out] at this
      have e : 0 / 64 * 64 + low (f 0) = low (f 0) := by omega
      rw [e] at this
      exact this
    have hl := low_le (f 0)
    clear hy0
    go_enter Yaqv.func9, Yaqv.ntmps9
    go_wp2_with fail
    refine (low_any (f 0) hx _).mono ?_
    rintro e w' ⟨rfl, rfl⟩
    go_wp2_with fail
    go_ret2
    exact ⟨_, HN.out, ret_next (by simp [ansI]) rfl, rfl⟩

/-- THE CONTRACT OF Next. -/
theorem next_any {B : Nat} {w : World} {bb n : Nat} {f : Nat → Nat} (h : BitsAt B w bb n f) (i : Int) (hi : i ≤ 9223372036854775807) :
    Calls Yaqv.prog 9 #[.pointer (some ⟨bb, 0, none⟩), .int .i64 i] w fun e w' => ∃ r, isNext (has f) i.toNat r ∧ e = .returned (nextRes r) ∧ w' = w := by
  obtain ⟨ao, cap, hb, hown, hrow⟩ := h.form
  have hok := h.2.1
  by_cases h0 : i < 0
  · have e0 : i.toNat = 0 := by omega
    rw [e0]
    by_cases hn : n = 0
    · subst hn
      refine (next_neg_far bb cap ao i w h0 (cell_of_one hb)).mono ?_
      rintro e w' ⟨rfl, rfl⟩
      exact ⟨none, next_none hok (fun m _ h => by omega), rfl, rfl⟩
    · obtain ⟨g, rfl, _, _, hc⟩ := hrow (by omega)
      exact next_neg bb g n cap f i w h0 (by omega) hok hok.len (cell_of_one hb) hc
  · obtain ⟨s, rfl⟩ := Int.eq_ofNat_of_zero_le (show 0 ≤ i by omega)
    rw [Int.toNat_natCast]
    by_cases hs : s / 64 < n
    · obtain ⟨g, rfl, _, _, hc⟩ := hrow (by omega)
      exact next_in bb g n cap f s w hs hok hok.len (cell_of_one hb) hc
    · refine (next_far bb n cap ao s w (by omega) (by omega) (cell_of_one hb)).mono ?_
      rintro e w' ⟨rfl, rfl⟩
      exact ⟨none, next_none hok (fun m _ h => by omega), rfl, rfl⟩

end Go.Proofs.Ymwhaq
