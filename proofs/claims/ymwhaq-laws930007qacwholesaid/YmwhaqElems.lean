/-
  OWN TEXT. THE WALK OF Elems (12).
-/
import Derived.Test.YmwhaqCount
namespace Go.Proofs.Ymwhaq
open Go.RowKit

/-- Numbers as cells of ints. -/
def ints (l : List Nat) : List Value := l.map fun (j : Nat) => Value.int .i64 (j : Int)
theorem ints_length (l : List Nat) : (ints l).length = l.length := by simp [ints]
theorem ints_append (a b : List Nat) : ints (a ++ b) = ints a ++ ints b := by simp [ints]
theorem ints_one' (l : List Nat) : ∀ v ∈ ints l, v.oneCell' = true := by
  intro v hv
  unfold ints at hv
  rw [List.mem_map] at hv
  obtain ⟨j, _, rfl⟩ := hv
  rfl
theorem ints_get (l : List Nat) (j : Nat) (h : j < l.length) : (ints l)[j]? = some (.int .i64 (l.getD j 0 : Nat)) := by
  simp [ints, h]

/-- A slice of ints that the call owns, not nil: its numbers. -/
def OwnsInts (B : Nat) (w : World) (g m cap : Nat) (l : List Nat) : Prop :=
  m = l.length ∧ w.ownsRow B 3 1 (.slice (some ⟨g, 0, none⟩) m cap) m (ints l)

theorem OwnsInts.push {B : Nat} {w1 : World} {g m cap x : Nat} {l l' : List Nat} (hm : m = l.length) (h : w1.ownsRow B 3 1 (.slice (some ⟨g, 0, none⟩) (m + 1) cap) (m + 1) (ints l ++ [.int .i64 (x : Int)])) (hl : l' = l ++ [x]) : OwnsInts B w1 g (m + 1) cap l' := by
  subst hl
  refine ⟨by simp [hm], ?_⟩
  rw [ints_append]
  exact h

set_option maxHeartbeats 1600000 in
theorem elems_any {B : Nat} {w : World} {bb n : Nat} {f : Nat → Nat} (B0 : Nat) (hB0 : w.heap.size = B0) (h : BitsAt B w bb n f) :
    Calls Yaqv.prog 12 #[.pointer (some ⟨bb, 0, none⟩)] w fun e w' => ∃ g m cap : Nat, e = .returned (.slice (some ⟨g, 0, none⟩) m cap) ∧ OwnsInts B0 w' g m cap (upTo f (n * 64)) ∧ Below B0 w w' := by
  obtain ⟨i0, hi0, hz0, hz1, hz2⟩ := info_parts Yaqv.info3
  obtain ⟨ao, cap, hb, hown, _⟩ := h.form
  have hn := h.2.1.len
  have hbc := cell_of_one hb
  have hbb := lt_of_block hb
  have Hrow : Hid (∀ j, j < n → ∃ g, ao = some ⟨g, 0, none⟩ ∧ g < B0 ∧ w.cell? ⟨g, j, none⟩ = some (.int .u64 (f j : Int))) := fun j hj => by
    obtain ⟨g, cur, h1, _, _, h2, h3⟩ := raw_form hown (by omega)
    exact ⟨g, h1, by rw [← hB0]; exact lt_of_block h2, h3 j hj⟩
  have Hbd : Hid (∀ j, f j < 18446744073709551616) := h.2.1.bd
  have Hbits : Hid (BitsAt B w bb n f) := h
  clear hb hown h
  go_enter Yaqv.func12, Yaqv.ntmps12
  go_wp2_with fail
  refine (count_any Hbits.out).mono ?_
  rintro e w' ⟨c, hc, rfl, rfl⟩
  go_wp2_with (at_make; refine wpList_make_own _ rfl _ _ 33 rfl B0 3 i0 (.int .i64 0) 1 Yaqv.underlying33 hi0 hz0 hz1 _ _ _ c rfl rfl rfl (by rw [hz2]; omega) (by unfold maxLen; omega) (by omega) ?_; intro w0 hown0 hgrow0; have hbc0 := hgrow0.cell hbc (by simp); have hsz0 := hgrow0.size)
  have hbel0 : Below B0 w' w0 := (Below.refl _ _).grown hgrow0 (by omega) (fun k h => by cases h)
  have HO : Hid (OwnsInts B0 w0 B0 0 c (upTo f (0 * 64))) := by
    refine ⟨rfl, ?_⟩
    rw [hB0] at hown0
    exact hown0
  clear hown0 hgrow0 hbc0
  go_loopw [3, 14] (fun v s wr => ∃ k g m cp : Nat, k ≤ n ∧ m ≤ k * 64 ∧ s = .int .i64 (k : Nat) ∧ v = .slice (some ⟨g, 0, none⟩) m cp ∧ Hid (OwnsInts B0 wr g m cp (upTo f (k * 64))) ∧ Below B0 w' wr) (fun _ s _ => n - (intOf s).toNat)
  case atStart => exact ⟨0, B0, 0, c, Nat.zero_le _, by omega, rfl, rfl, HO, hbel0⟩
  case round =>
    clear HO
    obtain ⟨k, g, m, cp, hk, hm, rfl, rfl, HO, hbel⟩ := hrel
    by_cases hlt : k < n
    · obtain ⟨gw, hao, hgB, hcw⟩ := Hrow.out k hlt
      have hcw' := (hbel.cell (p := ⟨gw, k, none⟩) hgB).trans hcw
      subst hao
      have hfk := Hbd.out k
      have HO2 : Hid (OwnsInts B0 wr g m cp (upTo f (k * 64 + low (f k)))) := by
        have := HO.out
        rw [← upTo_word f k] at this
        exact this
      clear HO
      go_wp2_with fail
      go_loopw [3, 5] (fun v x wv => ∃ y g m cp : Nat, y < 18446744073709551616 ∧ m ≤ k * 64 + low y ∧ low y ≤ 64 ∧ x = .int .u64 (y : Nat) ∧ v = .slice (some ⟨g, 0, none⟩) m cp ∧ Hid (OwnsInts B0 wv g m cp (upTo f (k * 64 + low y))) ∧ Hid (∀ j, low y ≤ j → j < 64 → y.testBit j = (f k).testBit j) ∧ Below B0 w' wv) (fun _ x _ => 64 - low (intOf x).toNat)
      case atStart => exact ⟨f k, g, m, cp, hfk, by omega, low_le _, rfl, rfl, HO2, fun j _ _ => rfl, hbel⟩
      case round =>
        clear HO2 hbel hm hcw'
        obtain ⟨y, g2, m2, cp2, hy, hm, hl, rfl, rfl, HO, HB, hbel⟩ := hrel
        by_cases hy0 : y = 0
        · have hz : ((y : Int) != 0) = false := by simp [hy0]
          have HO3 : Hid (OwnsInts B0 wr g2 m2 cp2 (upTo f ((k + 1) * 64))) := by
            have := HO.out
            rw [hy0, low_zero] at this
            rw [show (k + 1) * 64 = k * 64 + 64 by omega]
            exact this
          clear hy0
          go_wp2_with fail
          go_roundw
          case rel => exact ⟨k + 1, g2, m2, cp2, by omega, by omega, by go_num, rfl, HO3, hbel⟩
          case measure => simp [intOf]; omega
        · have hz : ((y : Int) != 0) = true := by simp; omega
          have hy1 : (1 : Int) ≤ (y : Int) := by omega
          obtain ⟨h1, h2⟩ := upTo_next (f := f) (k := k) hy hy0 HB.out
          have HP : Hid (bits .and .u64 (y : Int) ((y : Int) - 1) = ((y &&& (y - 1) : Nat) : Int)) := pred_bits y hy hy0
          have H1 := (show Hid _ from h1)
          have H2 := (show Hid _ from h2)
          have hlp := low_pred hy hy0
          have hlp2 := low_le (y &&& (y - 1))
          have hlt2 : (y &&& (y - 1)) < 18446744073709551616 := pred_lt hy
          have hB1 : B0 ≤ wr.heap.size := Nat.le_trans (by omega) hbel.size
          have Hrw : Hid ((wr.alloc (.cells #[.int .i64 ((k : Int) * 64 + (low y : Int))] 3)).ownsRow B0 3 1 (.slice (some ⟨g2, 0, none⟩) m2 cp2) m2 (ints (upTo f (k * 64 + low y)))) := HO.out.2.alloc _
          clear hy0 h1 h2 HB
          go_wp2_with fail
          refine (low_any y hy _).mono ?_
          rintro e w2 ⟨rfl, rfl⟩
          go_wp2_with (at_builtin; refine wpList_append_lies _ rfl (.tmp 21) (.tmp 27) 33 rfl B0 3 i0 (.int .i64 0) 1 8 Yaqv.underlying33 hi0 hz0 hz1 hz2 rfl (by omega) (.slice (some ⟨g2, 0, none⟩) m2 cp2) m2 (ints (upTo f (k * 64 + low y))) rfl Hrw.out ⟨w2.heap.size, 0, none⟩ 1 1 [.int .i64 ((k : Int) * 64 + (low y : Int))] rfl rfl (cell_one_new _ _ _) (by simp [Value.oneCell']) (by omega) (by unfold maxLen; omega) (by omega) (by simp; omega) (w2.heap.size + 1) (by simp) ?_; intro g3 cp3 w3 hown3 hgrow3 hat3 hlt3; have Ho3 := (show Hid _ from hown3); have Hg3 := (show Hid _ from hgrow3); clear hown3 hgrow3 hat3)
          go_roundw
          case rel =>
            refine ⟨y &&& (y - 1), g3, m2 + 1, cp3, hlt2, by omega, hlp2, by rw [HP.out], rfl, ?_, H2.out, ?_⟩
            · refine OwnsInts.push HO.out.1 (x := k * 64 + low y) ?_ H1.out
              have e : (((k * 64 + low y : Nat)) : Int) = (k : Int) * 64 + (low y : Int) := by omega
              rw [e]
              exact Ho3.out
            · exact (hbel.alloc hB1 _).grown Hg3.out (by simp; omega) (fun q hq => (Hrw.out.lt q hq).1)
          case measure => rw [HP.out]; simp [intOf]; omega
    · have hkn : k = n := by omega
      subst hkn
      go_wp2_with fail
      go_ret
      exact ⟨g, m, cp, rfl, HO.out, hbel⟩

end Go.Proofs.Ymwhaq
