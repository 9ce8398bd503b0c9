/-
  OWN TEXT. THE WALK OF LawS930007QAAWhole (3).
-/
import Derived.Test.YmwhaqState
import Derived.Deep.CutRange
namespace Go.Proofs.Ymwhaq
open Go.RowKit

set_option maxHeartbeats 4000000 in
theorem lawA_short (a0 : Option Addr) (len0 cap0 : Nat) (a1 : Int) (a2 : Bool) (w : World) (hl : len0 ≤ 1024) (ha1 : a1 ≤ 9223372036854775807)
    (hc : Hid (∀ k, k < len0 → ∃ (b off z : Nat), a0 = some ⟨b, off, none⟩ ∧ z < 65536 ∧ b < w.heap.size ∧ w.cell? ⟨b, off + k, none⟩ = some (.int .u16 (z : Int)))) :
    Calls Yaqv.prog 3 #[.slice a0 len0 cap0, .int .i64 a1, .bool a2] w fun e w' => e = .returned (.bool true) ∧ Below w.heap.size w w' := by
  have hz := zero23
  obtain ⟨B, hB⟩ : ∃ B, w.heap.size = B := ⟨_, rfl⟩
  have hd : decide (1024 < (len0 : Int)) = false := decide_eq_false (by omega)
  go_enter Yaqv.func3, Yaqv.ntmps3
  go_wp2_with fail
  clear hz
  go_loopw [29] (fun i wr => ∃ k pr n f, k ≤ len0 ∧ i = .int .i64 (k : Nat) ∧ St B 23 320 (B + 1) w wr pr n f) (fun i _ => len0 - (intOf i).toNat)
  case atStart => exact ⟨0, _, _, _, Nat.zero_le _, rfl, St.start hB⟩
  case round =>
    obtain ⟨k, pr, n, f, hk, rfl, hst⟩ := hrel
    by_cases hlt : k < len0
    · obtain ⟨b, off, z, hao, hz16, hbB, hcz⟩ := hc.out k hlt
      rw [hB] at hbB
      have hcz' : wr.cell? ⟨b, off + k, none⟩ = some (.int .u16 (z : Int)) := (hst.below.cell (p := ⟨b, off + k, none⟩) hbB).trans hcz
      subst hao
      go_wp2_with fail
      refine (set_any hst.bits _ (by omega) (by omega)).mono ?_
      rintro e w1 ⟨rfl, n', f', hb', hf', hfr⟩
      have hr := hfr.rowIs hst.row (by decide) (by decide)
      have hc1 := hr.cell (i := z % 320) (by omega)
      have hf1 := hr.frozen (z % 320)
      have hst' := hst.set (i := z % 320) (by omega) (by decide) (by decide) hb' (by omega) hf' hfr
      clear hb' hf' hfr hr hst
      go_wp2_with fail
      go_roundw
      case rel => exact ⟨k + 1, _, _, _, by omega, by go_num, hst'⟩
      case measure => simp [intOf]; omega
    · clear hc
      have hcases : (a2 = false ∧ ∃ t : Nat, Hid (wrap64 ((IntKind.u64.wrap a1).tmod 320) = (t : Int)) ∧ (t : Int) < 320) ∨ (a2 = true ∧ ∃ t : Nat, a1 = (t : Int) ∧ (t : Int) < 320) ∨ (a2 = true ∧ 0 ≤ a1 ∧ 320 ≤ a1) ∨ (a2 = true ∧ ¬ 0 ≤ a1) := by
        cases a2
        · obtain ⟨t, ht, htn⟩ := mapped320 a1
          exact .inl ⟨rfl, t, ht, by omega⟩
        · by_cases h0 : 0 ≤ a1
          · by_cases h1 : a1 < 320
            · exact .inr (.inl ⟨rfl, a1.toNat, by omega, by omega⟩)
            · exact .inr (.inr (.inl ⟨rfl, h0, by omega⟩))
          · exact .inr (.inr (.inr ⟨rfl, h0⟩))
      rcases hcases with ⟨rfl, t, HT, hin2⟩ | ⟨rfl, t, rfl, hin2⟩ | ⟨rfl, hin1, hin2⟩ | ⟨rfl, hin1⟩
      focus
        have hin1 : (0 : Int) ≤ (t : Int) := by omega
        have hc1 := hst.row.cell (i := t) (by omega)
        have hf1 := hst.row.frozen t
        go_upto_region 15 with fail
        rw [HT.out]
        go_wp2_with fail
        refine (clear_any (hst.bits.store hst.row (by decide) (by decide) _) _ (by omega)).mono ?_
        rintro e w1 ⟨rfl, n', f', hb', hf', hfr⟩
        rw [hst.hasI_in t (by omega)]
        have hst' := hst.clear_in (i := t) (by decide) (by decide) hb' hf' hfr
        clear hst hb' hf' hfr hc1 hf1
      rotate_left
      focus
        have hin1 : (0 : Int) ≤ (t : Int) := by omega
        have hc1 := hst.row.cell (i := t) (by omega)
        have hf1 := hst.row.frozen t
        go_wp2_with fail
        refine (clear_any (hst.bits.store hst.row (by decide) (by decide) _) _ (by omega)).mono ?_
        rintro e w1 ⟨rfl, n', f', hb', hf', hfr⟩
        rw [hst.hasI_in t (by omega)]
        have hst' := hst.clear_in (i := t) (by decide) (by decide) hb' hf' hfr
        clear hst hb' hf' hfr hc1 hf1
      rotate_left
      focus
        go_wp2_with fail
        refine (clear_any hst.bits _ (by omega)).mono ?_
        rintro e w1 ⟨rfl, n', f', hb', hf', hfr⟩
        rw [hst.hasI_out a1 (by omega)]
        have hst' := hst.clear_out (i := a1) (by omega) (by decide) (by decide) hb' hf' hfr
        clear hst hb' hf' hfr
      rotate_left
      focus
        go_wp2_with fail
        refine (clear_any hst.bits _ (by omega)).mono ?_
        rintro e w1 ⟨rfl, n', f', hb', hf', hfr⟩
        rw [hst.hasI_out a1 (by omega)]
        have hst' := hst.clear_out (i := a1) (by omega) (by decide) (by decide) hb' hf' hfr
        clear hst hb' hf' hfr
      rotate_left
      all_goals
        go_wp2_with fail
        obtain ⟨P, hst⟩ : ∃ P, St B 23 320 (B + 1) w w1 P n' f' := ⟨_, hst'⟩
        clear hst'
        go_loop [15, 16] (fun s v => ∃ (k : Nat) (h : Int), (k : Int) ≤ 320 ∧ v = .int .i64 k ∧ s = .int .i64 h ∧ -1 ≤ h ∧ h < 320 ∧ HighIs P k h) (fun _ v => 320 - (intOf v).toNat)
        case atStart => exact ⟨0, -1, by omega, rfl, rfl, by omega, by omega, .inl ⟨rfl, fun j h => by omega⟩⟩
        case round =>
          obtain ⟨k2, h, hk2, rfl, rfl, hh1, hh2, hhi⟩ := hrel
          by_cases hlt2 : (k2 : Int) < 320
          · have hcell := hst.row.cell (i := k2) (by omega)
            cases hp : P k2
            · rw [hp] at hcell
              have hhi' := hhi.miss hp
              go_wp2_with fail
              go_round
              case rel => exact ⟨k2 + 1, h, by omega, by go_num, rfl, hh1, hh2, hhi'⟩
              case measure => simp [intOf]; omega
            · rw [hp] at hcell
              have hhi' := HighIs.hit hp
              go_wp2_with fail
              go_round
              case rel => exact ⟨k2 + 1, (k2 : Int), by omega, by go_num, rfl, by omega, by omega, hhi'⟩
              case measure => simp [intOf]; omega
          · obtain ⟨ao, cap, hbox, hown, hrow⟩ := hst.bits.form
            have hbc := cell_of_one hbox
            have hn5 := hst.bits.2.1.len
            clear hbox hown
            have hfin := hst.high (by omega) hhi
            clear hhi
            rcases hfin with ⟨rfl, hn0⟩ | ⟨m, rfl, hm320, hnm⟩
            · subst hn0
              clear hrow
              go_wp2_with fail
              refine wp_loop_rounds 1 ?_
              rw [rounds_succ]
              go_wp2_with fail
              go_ret
              exact ⟨rfl, by first | exact hst.below | (rw [hB]; exact hst.below)⟩
            · obtain ⟨g, rfl, hBg, hle, hcs⟩ := hrow (by omega)
              have hnm' : ((n' : Int) != (m : Int) / 64 + 1) = false := by
                rw [bne_eq_false_iff_eq]; omega
              have Hcs : Hid (∀ j, j < n' → w1.cell? ⟨g, j, none⟩ = some (.int .u64 (f' j : Int))) := hcs
              have hn6 : n' ≤ 5 := by omega
              have hm0 : (0 : Int) ≤ (m : Int) := by omega
              have hm321 : (m : Int) < 320 := by omega
              have Hnm : Hid (n' = m / 64 + 1) := hnm
              clear hcs hnm hm320
              go_wp2_with fail
              go_loop [18] (fun s => ∃ k3 : Nat, (k3 : Int) ≤ (m : Int) / 64 + 1 ∧ s = .int .i64 k3) (fun s => m / 64 + 1 - (intOf s).toNat)
              case atStart => exact ⟨0, by omega, rfl⟩
              case round =>
                obtain ⟨k3, hk3, rfl⟩ := hrel
                by_cases hlt3 : (k3 : Int) < (m : Int) / 64 + 1
                · have hk3n : k3 < n' := by rw [Hnm.out]; omega
                  have hwc := Hcs.out k3 hk3n
                  have hx64 : f' k3 < 18446744073709551616 := hst.bits.2.1.bd k3
                  go_wp2_with fail
                  go_loop [19, 20] (fun x s => ∃ j : Nat, (j : Int) ≤ 64 ∧ s = .int .i64 j ∧ x = .int .u64 (part (f' k3) j : Nat)) (fun _ s => 64 - (intOf s).toNat)
                  case atStart => exact ⟨0, by omega, rfl, by rw [part_zero]; rfl⟩
                  case round =>
                    obtain ⟨j, hj, rfl, rfl⟩ := hrel
                    by_cases hlt4 : (j : Int) < 64
                    · have hidx : (k3 : Int) * 64 + (j : Int) < 320 := by omega
                      have hcell := hst.row.cell (i := k3 * 64 + j) (by omega)
                      have hw := hst.word k3 j (by omega) (by omega)
                      cases hp : (f' k3).testBit j
                      · rw [hw, hp] at hcell
                        have HP : Hid (part (f' k3) (j + 1) = part (f' k3) j) := part_miss _ _ hp
                        clear hw hp
                        go_wp2_with fail
                        go_round
                        case rel => exact ⟨j + 1, by omega, by go_num, by rw [HP.out]⟩
                        case measure => simp [intOf]; omega
                      · rw [hw, hp] at hcell
                        have HP : Hid (bits .or .u64 (part (f' k3) j : Int) (IntKind.u64.wrap (2 ^ j)) = (part (f' k3) (j + 1) : Int)) := by
                          rw [part_hit _ _ hp]; exact or_bit _ _ (part_lt _ _ (by omega)) (by omega)
                        clear hw hp
                        go_wp2_with fail
                        go_round
                        case rel => exact ⟨j + 1, by omega, by go_num, by rw [HP.out]⟩
                        case measure => simp [intOf]; omega
                    · have hj64 : j = 64 := by omega
                      subst hj64
                      have hne : ((f' k3 : Int) != (part (f' k3) 64 : Int)) = false := by
                        rw [part_all hx64]; simp
                      go_wp2_with fail
                      go_round
                      case rel => exact ⟨k3 + 1, by omega, by go_num⟩
                      case measure => simp [intOf]; omega
                · go_wp2_with fail
                  go_ret
                  exact ⟨rfl, by first | exact hst.below | (rw [hB]; exact hst.below)⟩

set_option maxHeartbeats 400000 in
theorem lawA_long (a0 : Option Addr) (len0 cap0 : Nat) (a1 : Int) (a2 : Bool) (w : World) (hl : 1024 < len0) :
    Calls Yaqv.prog 3 #[.slice a0 len0 cap0, .int .i64 a1, .bool a2] w fun e w' => e = .returned (.bool true) ∧ Below w.heap.size w w' := by
  have hl' : (1024 : Int) < (len0 : Int) := by omega
  go_enter Yaqv.func3, Yaqv.ntmps3
  go_wp2_with fail
  go_ret
  exact ⟨rfl, Below.refl _ _⟩

end Go.Proofs.Ymwhaq
