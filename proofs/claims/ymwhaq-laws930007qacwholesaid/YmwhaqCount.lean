/-
  OWN TEXT. THE WALKS OF onesCount (17) and Count (16): of their answers only the bounds are told; no more is wanted.
-/
import Derived.Test.YmwhaqState
import Derived.Test.YmwhaqPlainC
namespace Go.Proofs.Ymwhaq
open Go.RowKit

theorem pred_bits (x : Nat) (hx : x < 18446744073709551616) (h : x ≠ 0) : bits .and .u64 (x : Int) ((x : Int) - 1) = ((x &&& (x - 1) : Nat) : Int) := by
  rw [show ((x : Int) - 1) = ((x - 1 : Nat) : Int) by omega]
  exact u64_and_nat x (x - 1) hx (by omega)

set_option maxHeartbeats 400000 in
theorem ones_any (x : Nat) (hx : x < 18446744073709551616) (w : World) :
    Calls Yaqv.prog 17 #[.int .u64 x] w fun e w' => ∃ c : Nat, c ≤ 64 ∧ e = .returned (.int .i64 c) ∧ w' = w := by
  go_enter Yaqv.func17, Yaqv.ntmps17
  go_wp2
  go_loop [0, 3] (fun y s => ∃ y' n : Nat, y' < 18446744073709551616 ∧ n ≤ 64 ∧ y = .int .u64 y' ∧ s = .int .i64 n ∧ Hid (∀ j, j < n → y'.testBit j = false)) (fun _ s => 64 - (intOf s).toNat)
  case atStart => exact ⟨x, 0, hx, by omega, rfl, rfl, fun j h => by omega⟩
  case round =>
    obtain ⟨y, n, hy, hn, rfl, rfl, Hy⟩ := hrel
    by_cases h0 : y = 0
    · have hz : ((y : Int) != 0) = false := by simp [h0]
      clear h0
      go_wp2
      go_ret
      exact ⟨n, hn, rfl, rfl⟩
    · have hz : ((y : Int) != 0) = true := by simp; omega
      have hy1 : (1 : Int) ≤ (y : Int) := by omega
      obtain ⟨h1, h2⟩ := ones_step hy h0 Hy.out
      have HP : Hid (bits .and .u64 (y : Int) ((y : Int) - 1) = ((y &&& (y - 1) : Nat) : Int)) := pred_bits y hy h0
      have Hn : Hid (∀ j, j < n + 1 → (y &&& (y - 1)).testBit j = false) := h2
      have hlt : (y &&& (y - 1)) < 18446744073709551616 := pred_lt hy
      clear h0 h2
      go_wp2
      go_round
      case rel => exact ⟨y &&& (y - 1), n + 1, hlt, by omega, by rw [HP.out], by go_num, Hn⟩
      case measure => simp [intOf]; omega

set_option maxHeartbeats 400000 in
theorem count_any {B : Nat} {w : World} {bb n : Nat} {f : Nat → Nat} (h : BitsAt B w bb n f) :
    Calls Yaqv.prog 16 #[.pointer (some ⟨bb, 0, none⟩)] w fun e w' => ∃ c : Nat, c ≤ 1048576 ∧ e = .returned (.int .i64 c) ∧ w' = w := by
  obtain ⟨ao, cap, hb, hown, hrow⟩ := h.form
  have hn := h.2.1.len
  have hbc := cell_of_one hb
  have Hrow : Hid (0 < n → ∃ g, ao = some ⟨g, 0, none⟩ ∧ B ≤ g ∧ n ≤ cap ∧ ∀ j, j < n → w.cell? ⟨g, j, none⟩ = some (.int .u64 (f j : Int))) := hrow
  have Hbd : Hid (∀ j, f j < 18446744073709551616) := h.2.1.bd
  clear hb hown hrow h
  go_enter Yaqv.func16, Yaqv.ntmps16
  go_wp2_with fail
  go_loop [3, 11] (fun c s => ∃ k c' : Nat, k ≤ n ∧ c' ≤ 64 * k ∧ s = .int .i64 k ∧ c = .int .i64 c') (fun _ s => n - (intOf s).toNat)
  case atStart => exact ⟨0, 0, Nat.zero_le _, by omega, rfl, rfl⟩
  case round =>
    obtain ⟨k, c, hk, hc, rfl, rfl⟩ := hrel
    by_cases hlt : k < n
    · obtain ⟨g, hao, _, _, hcs⟩ := Hrow.out (by omega)
      have hck := hcs k hlt
      have hfk := Hbd.out k
      subst hao
      clear hcs
      go_wp2_with fail
      refine (ones_any (f k) hfk _).mono ?_
      rintro e w' ⟨d, hd, rfl, rfl⟩
      go_wp2_with fail
      go_round
      case rel => exact ⟨k + 1, c + d, by omega, by omega, by go_num, by go_num⟩
      case measure => simp [intOf]; omega
    · go_wp2_with fail
      go_ret
      exact ⟨c, by omega, rfl, rfl⟩

end Go.Proofs.Ymwhaq
