/-
  OWN TEXT. THE WALKS OF THE LEAVES: lowBit (15), trim (14), Has (13).
-/
import Derived.Test.YmwhaqWorld
namespace Go.Proofs.Ymwhaq
open Go.RowKit

theorem ret_int {k : IntKind} {a b : Int} (h : a = b) : Ending.returned (.int k a) = .returned (.int k b) := by rw [h]
theorem ret_bool {a b : Bool} (h : a = b) : Ending.returned (.bool a) = .returned (.bool b) := by rw [h]

theorem ret_slice {a : Option Addr} {m n c : Nat} (h : m = n) : Ending.returned (.slice a m c) = .returned (.slice a n c) := by rw [h]

theorem lowFrom_succ (r x k : Nat) : lowFrom (r + 1) x k = if x.testBit k then k else lowFrom r x (k + 1) := rfl
theorem lowFrom_miss (x k : Nat) (hk : k < 64) (h : x.testBit k = false) : lowFrom (64 - (k + 1)) x (k + 1) = lowFrom (64 - k) x k := by
  rw [show 64 - k = 64 - (k + 1) + 1 by omega, lowFrom_succ, h]
  rfl
theorem lowFrom_hit (x k : Nat) (hk : k < 64) (h : x.testBit k = true) : lowFrom (64 - k) x k = k := by
  rw [show 64 - k = 64 - (k + 1) + 1 by omega, lowFrom_succ, h]
  rfl

set_option maxHeartbeats 400000 in
theorem low_any (x : Nat) (hx : x < 18446744073709551616) (w : World) :
    Calls Yaqv.prog 15 #[.int .u64 x] w fun e w' => e = .returned (.int .i64 (low x)) ∧ w' = w := by
  go_enter Yaqv.func15, Yaqv.ntmps15
  go_wp2
  go_loop [3] (fun n => ∃ k : Nat, k ≤ 64 ∧ n = .int .i64 k ∧ Hid (lowFrom (64 - k) x k = low x)) (fun n => 64 - (intOf n).toNat)
  case atStart => exact ⟨0, by omega, rfl, rfl⟩
  case round =>
    obtain ⟨k, hk, rfl, hlow⟩ := hrel
    have H := shr_zero x k hx
    by_cases hlt : k < 64
    · cases hb : x.testBit k
      · rw [hb] at H
        have HL := lowFrom_miss x k hlt hb
        have HL2 : Hid (lowFrom (64 - (k + 1)) x (k + 1) = low x) := HL.trans hlow
        clear HL hlow hb
        go_wp2
        go_round
        case rel => exact ⟨k + 1, by omega, by go_num, HL2⟩
        case measure => simp [intOf]; omega
      · rw [hb] at H
        have HL2 : Hid (low x = k) := hlow.out.symm.trans (lowFrom_hit x k hlt hb)
        clear hlow hb
        go_wp2
        go_ret
        exact ⟨ret_int (by rw [HL2.out]), rfl⟩
    · have hk64 : k = 64 := by omega
      have HL2 : Hid (low x = k) := by
        have := hlow.out
        rw [hk64] at this ⊢
        exact this.symm
      clear hlow hk64 H
      go_wp2
      go_ret
      exact ⟨ret_int (by rw [HL2.out]), rfl⟩

theorem trimN_step (f : Nat → Nat) (m : Nat) (h : f m = 0) : trimN f (m + 1) = trimN f m := by simp [trimN, h]
theorem trimN_stop (f : Nat → Nat) (m : Nat) (h : f m ≠ 0) : trimN f (m + 1) = m + 1 := by simp [trimN, h]

set_option maxHeartbeats 400000 in
theorem trim_any (g n cap : Nat) (f : Nat → Nat) (w : World) (hn : n ≤ 16384) (hcap : n ≤ cap) (hc : Hid (∀ j, j < n → w.cell? ⟨g, j, none⟩ = some (.int .u64 (f j : Int)))) :
    Calls Yaqv.prog 14 #[.slice (some ⟨g, 0, none⟩) n cap] w fun e w' => e = .returned (.slice (some ⟨g, 0, none⟩) (trimN f n) cap) ∧ w' = w := by
  go_enter Yaqv.func14, Yaqv.ntmps14
  go_wp2
  go_loop [3] (fun s => ∃ m : Nat, m ≤ n ∧ s = .int .i64 m ∧ Hid (trimN f m = trimN f n)) (fun s => (intOf s).toNat)
  case atStart => exact ⟨n, by omega, rfl, rfl⟩
  case round =>
    obtain ⟨m, hm, rfl, htr⟩ := hrel
    match m, hm, htr with
    | 0, hm, htr =>
      have HT : Hid (0 = trimN f n) := htr.out
      clear htr
      go_wp2
      go_ret
      exact ⟨ret_slice HT.out, rfl⟩
    | m + 1, hm, htr =>
      have hcell := hc.out m (by omega)
      by_cases hz : f m = 0
      · have hz' : ((f m : Int) == 0) = true := by simp [hz]
        have HT : Hid (trimN f m = trimN f n) := (trimN_step f m hz).symm.trans htr.out
        clear hz htr
        go_wp2
        go_round
        case rel => exact ⟨m, by omega, rfl, HT⟩
        case measure => simp [intOf]
      · have hz' : ((f m : Int) == 0) = false := by simp; omega
        have HT : Hid (m + 1 = trimN f n) := (trimN_stop f m hz).symm.trans htr.out
        clear hz htr
        go_wp2
        go_ret
        exact ⟨ret_slice HT.out, rfl⟩

/-- What Has answers. -/
def hasI (f : Nat → Nat) (i : Int) : Bool := decide (0 ≤ i) && has f i.toNat

theorem hasI_neg (f : Nat → Nat) (i : Int) (h : i < 0) : hasI f i = false := by simp [hasI]; omega
theorem hasI_nat (f : Nat → Nat) (i : Nat) : hasI f (i : Int) = has f i := by simp [hasI]
theorem has_out (f : Nat → Nat) (i : Nat) (h : f (i / 64) = 0) : has f i = false := by simp [has, h]

set_option maxHeartbeats 400000 in
theorem has_neg (a : Addr) (i : Int) (w : World) (h0 : i < 0) :
    Calls Yaqv.prog 13 #[.pointer (some a), .int .i64 i] w fun e w' => e = .returned (.bool false) ∧ w' = w := by
  go_enter Yaqv.func13, Yaqv.ntmps13
  go_wp2
  go_ret
  exact ⟨rfl, rfl⟩

set_option maxHeartbeats 400000 in
theorem has_far (bb n cap : Nat) (ao : Option Addr) (i : Nat) (w : World) (hi : n ≤ i / 64) (hi2 : i ≤ 9223372036854775807)
    (hb : w.cell? ⟨bb, 0, none⟩ = some (.slice ao n cap)) :
    Calls Yaqv.prog 13 #[.pointer (some ⟨bb, 0, none⟩), .int .i64 (i : Int)] w fun e w' => e = .returned (.bool false) ∧ w' = w := by
  go_enter Yaqv.func13, Yaqv.ntmps13
  go_wp2
  go_ret
  exact ⟨rfl, rfl⟩

set_option maxHeartbeats 400000 in
theorem has_in (bb g n cap : Nat) (x : Nat) (i : Nat) (w : World) (hi : i / 64 < n) (hn : n ≤ 16384) (hx : x < 18446744073709551616)
    (hb : w.cell? ⟨bb, 0, none⟩ = some (.slice (some ⟨g, 0, none⟩) n cap)) (hc : w.cell? ⟨g, i / 64, none⟩ = some (.int .u64 (x : Int))) :
    Calls Yaqv.prog 13 #[.pointer (some ⟨bb, 0, none⟩), .int .i64 (i : Int)] w fun e w' => e = .returned (.bool (x.testBit (i % 64))) ∧ w' = w := by
  have hi2 : i < 1048576 := by omega
  have H : Hid ((bits .and .u64 ((x : Int) / 2 ^ (i % 64)) 1 == 1) = x.testBit (i % 64)) := shr_one x (i % 64) hx
  go_enter Yaqv.func13, Yaqv.ntmps13
  go_wp2
  go_ret
  exact ⟨ret_bool H.out, rfl⟩

/-- THE SLICE OF THE SET, written out: its words' cells, where there are words. -/
theorem BitsAt.form {B : Nat} {w : World} {bb n : Nat} {f : Nat → Nat} (h : BitsAt B w bb n f) : ∃ ao cap, w.heap[bb]? = some (.cells #[.slice ao n cap] 27 (0, 0)) ∧ w.ownsRow B 31 1 (.slice ao n cap) n (cellsW f n) ∧
    (0 < n → ∃ g, ao = some ⟨g, 0, none⟩ ∧ B ≤ g ∧ n ≤ cap ∧ ∀ j, j < n → w.cell? ⟨g, j, none⟩ = some (.int .u64 (f j : Int))) := by
  obtain ⟨_, _, v, hv, hown⟩ := h
  rcases hown.2 with ⟨rfl, rfl⟩ | ⟨g, cap, cur, rfl, hB, _, hle, _⟩
  · exact ⟨none, 0, hv, hown, fun h => by omega⟩
  · exact ⟨_, cap, hv, hown, fun _ => ⟨g, rfl, hB, hle, fun j hj => by rw [hown.cellAt j (by omega)]; exact cellsW_get f n j hj⟩⟩

theorem has_any {B : Nat} {w : World} {bb n : Nat} {f : Nat → Nat} (h : BitsAt B w bb n f) (i : Int) (hi : i ≤ 9223372036854775807) :
    Calls Yaqv.prog 13 #[.pointer (some ⟨bb, 0, none⟩), .int .i64 i] w fun e w' => e = .returned (.bool (hasI f i)) ∧ w' = w := by
  by_cases h0 : i < 0
  · rw [hasI_neg f i h0]
    exact has_neg _ i w h0
  · obtain ⟨i, rfl⟩ := Int.eq_ofNat_of_zero_le (show 0 ≤ i by omega)
    rw [hasI_nat]
    obtain ⟨ao, cap, hb, hown, hrow⟩ := h.form
    by_cases hlt : i / 64 < n
    · obtain ⟨g, rfl, _, _, hc⟩ := hrow (by omega)
      exact has_in bb g n cap (f (i / 64)) i w hlt h.2.1.len (h.2.1.bd _) (cell_of_one hb) (hc _ hlt)
    · rw [has_out f i (h.2.1.out _ (by omega))]
      exact has_far bb n cap ao i w (by omega) (by omega) (cell_of_one hb)

end Go.Proofs.Ymwhaq
