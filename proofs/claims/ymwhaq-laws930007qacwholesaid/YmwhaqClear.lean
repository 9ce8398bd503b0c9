/-
  OWN TEXT. THE WALK OF Clear (7).
-/
import Derived.Test.YmwhaqLeaf
namespace Go.Proofs.Ymwhaq
open Go.RowKit

theorem pow_wrap (m : Nat) (hm : m < 64) : IntKind.u64.wrap (2 ^ m) = ((2 ^ m : Nat) : Int) := by
  rw [IntKind.wrap_u64]
  have h : (2 : Nat) ^ m < 2 ^ 64 := Nat.pow_lt_pow_right (by omega) hm
  rw [show (2 : Int) ^ m = ((2 ^ m : Nat) : Int) from by rw [Int.natCast_pow]; rfl]
  have h2 : (2 : Nat) ^ 64 = 18446744073709551616 := by decide
  rw [h2] at h
  generalize (2 : Nat) ^ m = t at h
  omega

theorem andNot_bit (x m : Nat) (hx : x < 18446744073709551616) (hm : m < 64) : bits .andNot .u64 (x : Int) (IntKind.u64.wrap (2 ^ m)) = ((x &&& (18446744073709551615 - 2 ^ m) : Nat) : Int) := by
  rw [pow_wrap m hm]
  exact u64_andNot_nat x (2 ^ m) hx (by have h : (2 : Nat) ^ m < 2 ^ 64 := Nat.pow_lt_pow_right (by omega) hm; exact h)

theorem or_bit (x m : Nat) (hx : x < 18446744073709551616) (hm : m < 64) : bits .or .u64 (x : Int) (IntKind.u64.wrap (2 ^ m)) = ((x ||| 2 ^ m : Nat) : Int) := by
  rw [pow_wrap m hm]
  exact u64_or_nat x (2 ^ m) hx (by have h : (2 : Nat) ^ m < 2 ^ 64 := Nat.pow_lt_pow_right (by omega) hm; exact h)

theorem clrW_at (f : Nat → Nat) (i : Nat) : clrW f i (i / 64) = f (i / 64) &&& (18446744073709551615 - 2 ^ (i % 64)) := by simp [clrW]
theorem setW_at (f : Nat → Nat) (i : Nat) : setW f i (i / 64) = f (i / 64) ||| 2 ^ (i % 64) := by simp [setW]

theorem cellsW_set (f : Nat → Nat) (n k x : Nat) : (cellsW f n).set k (.int .u64 (x : Int)) = cellsW (fun j => if j = k then x else f j) n := by
  apply List.ext_getElem?
  intro t
  rw [List.getElem?_set, cellsW_length]
  by_cases ht : t < n
  · rw [cellsW_get f n t ht, cellsW_get _ n t ht]
    by_cases e : k = t
    · subst e; simp [ht]
    · have : ¬ t = k := fun h => e h.symm
      simp [e, this]
  · have h1 : (cellsW f n)[t]? = none := List.getElem?_eq_none (by rw [cellsW_length]; omega)
    have h2 : (cellsW (fun j => if j = k then x else f j) n)[t]? = none := List.getElem?_eq_none (by rw [cellsW_length]; omega)
    rw [h1, h2]
    by_cases e : k = t
    · subst e; simp [ht]
    · simp [e]

theorem cellsW_clr (f : Nat → Nat) (n i : Nat) : (cellsW f n).set (i / 64) (.int .u64 (clrW f i (i / 64) : Int)) = cellsW (clrW f i) n := by
  rw [cellsW_set]
  congr 1
  funext j
  by_cases e : j = i / 64
  · subst e; simp
  · simp [e, clrW]

theorem cellsW_setW (f : Nat → Nat) (n i : Nat) : (cellsW f n).set (i / 64) (.int .u64 (setW f i (i / 64) : Int)) = cellsW (setW f i) n := by
  rw [cellsW_set]
  congr 1
  funext j
  by_cases e : j = i / 64
  · subst e; simp
  · simp [e, setW]

theorem cellsW_take (f : Nat → Nat) (n m : Nat) (h : m ≤ n) : (cellsW f n).take m = cellsW f m := by
  unfold cellsW
  rw [← List.map_take, List.take_range, Nat.min_eq_left h]

theorem ownsRow_cut {w : World} {B : Nat} {e : TypeId} {g n cap m : Nat} {xs : List Value} (h : w.ownsRow B e 1 (.slice (some ⟨g, 0, none⟩) n cap) n xs) (hm : m ≤ n) : w.ownsRow B e 1 (.slice (some ⟨g, 0, none⟩) m cap) m (xs.take m) := by
  obtain ⟨h1, h2⟩ := h
  rcases h2 with ⟨h', _⟩ | ⟨g', cap', cur, h', hb, hg, hnc, hcm, hcs, htake⟩
  · simp at h'
  · simp only [Value.slice.injEq, Option.some.injEq, Addr.mk.injEq, and_true, true_and] at h'
    obtain ⟨rfl, rfl⟩ := h'
    refine ⟨by simp; omega, .inr ⟨g, cap, cur, rfl, hb, hg, by omega, hcm, hcs, ?_⟩⟩
    rw [← htake, List.take_take]
    congr 1
    omega

set_option maxHeartbeats 400000 in
theorem clear_in (B bb g n cap : Nat) (f : Nat → Nat) (i : Nat) (w : World) (hbits : Hid (BitsAt B w bb n f)) (hi : i / 64 < n) (hn : n ≤ 16384) (hcap : n ≤ cap) (hx : f (i / 64) < 18446744073709551616) (hhas : Hid (has f i = true))
    (hb : w.cell? ⟨bb, 0, none⟩ = some (.slice (some ⟨g, 0, none⟩) n cap)) (hc : w.cell? ⟨g, i / 64, none⟩ = some (.int .u64 (f (i / 64) : Int)))
    (hfb : w.frozen? ⟨bb, 0, none⟩ = false) (hfg : w.frozen? ⟨g, i / 64, none⟩ = false) (_hne : g ≠ bb) (_hne' : bb ≠ g)
    (hcs : Hid (∀ j, j < n → (w.setCell ⟨g, i / 64, none⟩ (.int .u64 (clrW f i (i / 64) : Int))).cell? ⟨g, j, none⟩ = some (.int .u64 (clrW f i j : Int)))) :
    Calls Yaqv.prog 7 #[.pointer (some ⟨bb, 0, none⟩), .int .i64 (i : Int)] w fun e w' => e = .returned (.bool true) ∧
      w' = (w.setCell ⟨g, i / 64, none⟩ (.int .u64 (clrW f i (i / 64) : Int))).setCell ⟨bb, 0, none⟩ (.slice (some ⟨g, 0, none⟩) (trimN (clrW f i) n) cap) := by
  have hi2 : i < 1048576 := by omega
  have H : Hid (bits .andNot .u64 (f (i / 64) : Int) (IntKind.u64.wrap (2 ^ (i % 64))) = (clrW f i (i / 64) : Int)) := by
    rw [clrW_at]; exact andNot_bit _ _ hx (by omega)
  go_enter Yaqv.func7, Yaqv.ntmps7
  go_wp2_with fail
  refine (has_any hbits.out _ (by omega)).mono ?_
  rintro e w' ⟨rfl, rfl⟩
  rw [hasI_nat, hhas.out]
  go_wp2_with fail
  rw [H.out]
  refine (trim_any g n cap (clrW f i) _ hn hcap (by exact hcs)).mono ?_
  rintro e w1 ⟨rfl, rfl⟩
  go_wp2_with fail
  go_ret
  exact ⟨rfl, rfl⟩

set_option maxHeartbeats 400000 in
theorem clear_out (B bb n : Nat) (f : Nat → Nat) (i : Int) (w : World) (hbits : Hid (BitsAt B w bb n f)) (hi : i ≤ 9223372036854775807) (hhas : Hid (hasI f i = false)) :
    Calls Yaqv.prog 7 #[.pointer (some ⟨bb, 0, none⟩), .int .i64 i] w fun e w' => e = .returned (.bool false) ∧ w' = w := by
  go_enter Yaqv.func7, Yaqv.ntmps7
  go_wp2_with fail
  refine (has_any hbits.out _ (by omega)).mono ?_
  rintro e w' ⟨rfl, rfl⟩
  rw [hhas.out]
  go_wp2_with fail
  go_ret
  exact ⟨rfl, rfl⟩

/-- THE CONTRACT OF Clear. -/
theorem clear_any {B : Nat} {w : World} {bb n : Nat} {f : Nat → Nat} (h : BitsAt B w bb n f) (i : Int) (hi : i ≤ 9223372036854775807) :
    Calls Yaqv.prog 7 #[.pointer (some ⟨bb, 0, none⟩), .int .i64 i] w fun e w' => e = .returned (.bool (hasI f i)) ∧
      ∃ n' f', BitsAt B w' bb n' f' ∧ (∀ j : Nat, has f' j = (has f j && !decide ((j : Int) = i))) ∧ Fr B w w' := by
  cases hh : hasI f i
  · refine (clear_out B bb n f i w h hi hh).mono ?_
    rintro e w' ⟨rfl, rfl⟩
    refine ⟨rfl, n, f, h, fun j => ?_, Fr.refl _ _⟩
    by_cases e : (j : Int) = i
    · subst e
      rw [hasI_nat] at hh
      simp [hh]
    · simp [e]
  · have h0 : 0 ≤ i := by
      by_cases c : 0 ≤ i
      · exact c
      · rw [hasI_neg f i (by omega)] at hh; cases hh
    obtain ⟨i, rfl⟩ := Int.eq_ofNat_of_zero_le h0
    rw [hasI_nat] at hh
    obtain ⟨ao, cap, hb, hown, hrow⟩ := h.form
    have hlt := h.2.1.lt_of_has hh
    obtain ⟨g, rfl, hB, hle, hc⟩ := hrow (by omega)
    obtain ⟨cur, hgg⟩ : ∃ cur, w.heap[g]? = some (.cells cur 31 (0, 0)) := by
      rcases hown.2 with ⟨h', _⟩ | ⟨g', cap', cur, h', _, hg, _⟩
      · simp at h'
      · simp only [Value.slice.injEq, Option.some.injEq, Addr.mk.injEq, and_true, true_and] at h'
        obtain ⟨rfl, rfl⟩ := h'
        exact ⟨cur, hg⟩
    have hne : g ≠ bb := by
      rintro rfl
      rw [hb] at hgg
      simp at hgg
    have hst := hown.stored (i / 64) (.int .u64 (clrW f i (i / 64) : Int))
    rw [cellsW_clr] at hst
    have hcut := ownsRow_cut hst.1 (trimN_le (clrW f i) n)
    rw [cellsW_take _ _ _ (trimN_le _ _)] at hcut
    refine (clear_in B bb g n cap f i w h hlt h.2.1.len hle (h.2.1.bd _) hh (cell_of_one hb) (hc _ hlt) (free_of_one hb) (hown.frozenAt _) hne hne.symm ?_).mono ?_
    · intro j hj
      rw [hst.1.cellAt j (by omega), cellsW_get _ _ _ hj]
    · rintro e w' ⟨rfl, rfl⟩
      refine ⟨rfl, trimN (clrW f i) n, clrW f i, ⟨h.1, h.2.1.clrW i, _, one_setCell (v := .slice (some ⟨g, 0, none⟩) n cap) ?_, ownsRow_setCell_other hcut ?_ _⟩, fun j => ?_, ?_⟩
      · rw [Below.heap_setCell _ _ _ _ (by exact hne.symm)]
        exact hb
      · simp [Value.ownBlock]; exact hne
      · rw [has_clrW]
        congr 2
        rw [decide_eq_decide]
        omega
      · refine Fr.setCell (Fr.setCell (Fr.refl _ _) hgg (.inr rfl) hB _) (b := bb) (c := #[.slice (some ⟨g, 0, none⟩) n cap]) (t := 27) (m := (0, 0)) ?_ (.inl rfl) h.1 _
        rw [Below.heap_setCell _ _ _ _ (by exact hne.symm)]
        exact hb

end Go.Proofs.Ymwhaq
