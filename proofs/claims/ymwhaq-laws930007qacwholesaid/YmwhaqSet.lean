/-
  OWN TEXT. THE WALK OF Set (6).
-/
import Derived.Test.YmwhaqClear
import Derived.Deep.LoopGhost
namespace Go.Proofs.Ymwhaq
open Go.RowKit

/-- The set's box and its row, whatever the words say. -/
def RawAt (B : Nat) (w : World) (bb n : Nat) (f : Nat → Nat) : Prop :=
  B ≤ bb ∧ ∃ ao cap, w.heap[bb]? = some (.cells #[.slice ao n cap] 27 (0, 0)) ∧ w.ownsRow B 31 1 (.slice ao n cap) n (cellsW f n)

theorem RawAt.lt {B : Nat} {w : World} {bb n : Nat} {f : Nat → Nat} (h : RawAt B w bb n f) : bb < w.heap.size := by
  obtain ⟨_, ao, cap, hb, _⟩ := h
  exact lt_of_block hb

theorem BitsAt.raw {B : Nat} {w : World} {bb n : Nat} {f : Nat → Nat} (h : BitsAt B w bb n f) : RawAt B w bb n f := by
  obtain ⟨ao, cap, hb, hown, _⟩ := h.form
  exact ⟨h.1, ao, cap, hb, hown⟩

/-- Behind the append onto the words: the box is as it was. -/
theorem grow_step {B : Nat} {w wr w1 : World} {bb m cap : Nat} {ao : Option Addr} {xs : List Value} {o : Obj} (hb : wr.heap[bb]? = some (.cells #[.slice ao m cap] 27 (0, 0)))
    (hrow : (wr.alloc o).ownsRow B 31 1 (.slice ao m cap) m xs) (hgrow : (wr.alloc o).grownBy w1 (Value.slice ao m cap).ownBlock) (hB : B ≤ bb) (hfr : Fr B w wr) :
    w1.heap[bb]? = some (.cells #[.slice ao m cap] 27 (0, 0)) ∧ Fr B w w1 := by
  have hlt := lt_of_block hb
  have hb' : (wr.alloc o).heap[bb]? = some (.cells #[.slice ao m cap] 27 (0, 0)) := by rw [Below.heap_alloc _ _ _ hlt]; exact hb
  refine ⟨?_, (hfr.alloc (by omega) o).grown hrow hgrow (by simp; omega)⟩
  rw [hgrow.block bb (lt_of_block hb') ?_]
  · exact hb'
  · intro hk
    rcases hrow.2 with ⟨hv, _⟩ | ⟨g, cap', cur, hv, _, hgg, _⟩
    · rw [hv] at hk; simp [Value.ownBlock] at hk
    · rw [hv] at hk
      simp only [Value.ownBlock, Option.some.injEq] at hk
      subst hk
      rw [hgg] at hb'
      simp at hb'

/-- .. and behind the store of the new slice into it. -/
theorem grow_raw {B : Nat} {w1 : World} {bb m g cap cap' : Nat} {ao : Option Addr} {f : Nat → Nat} (hb : w1.heap[bb]? = some (.cells #[.slice ao m cap] 27 (0, 0)))
    (hown : w1.ownsRow B 31 1 (.slice (some ⟨g, 0, none⟩) (m + 1) cap') (m + 1) (cellsW f m ++ [.int .u64 0])) (hf : f m = 0) (hB : B ≤ bb) :
    RawAt B (w1.setCell ⟨bb, 0, none⟩ (.slice (some ⟨g, 0, none⟩) (m + 1) cap')) bb (m + 1) f := by
  rw [cellsW_snoc f m hf] at hown
  refine ⟨hB, _, cap', one_setCell hb, ownsRow_setCell_other hown ?_ _⟩
  simp only [Value.ownBlock, ne_eq, Option.some.injEq]
  rintro rfl
  rcases hown.2 with ⟨hv, _⟩ | ⟨g', cap'', cur, hv, _, hgg, _⟩
  · simp at hv
  · simp only [Value.slice.injEq, Option.some.injEq, Addr.mk.injEq, and_true, true_and] at hv
    obtain ⟨rfl, rfl⟩ := hv
    rw [hgg] at hb
    simp at hb

/-- THE SLICE OF THE RAW SET, written out. -/
theorem raw_form {B : Nat} {w : World} {n cap : Nat} {ao : Option Addr} {f : Nat → Nat} (hown : w.ownsRow B 31 1 (.slice ao n cap) n (cellsW f n)) (h : 0 < n) :
    ∃ g cur, ao = some ⟨g, 0, none⟩ ∧ B ≤ g ∧ n ≤ cap ∧ w.heap[g]? = some (.cells cur 31 (0, 0)) ∧ ∀ j, j < n → w.cell? ⟨g, j, none⟩ = some (.int .u64 (f j : Int)) := by
  rcases hown.2 with ⟨_, h0⟩ | ⟨g, cap', cur, hv, hB, hg, hle, _⟩
  · omega
  · simp only [Value.slice.injEq, true_and] at hv
    obtain ⟨rfl, rfl⟩ := hv
    exact ⟨g, cur, rfl, hB, hle, hg, fun j hj => by rw [hown.cellAt j (by omega)]; exact cellsW_get f n j hj⟩

set_option maxHeartbeats 800000 in
theorem set_in (B bb n : Nat) (f : Nat → Nat) (i : Nat) (w : World) (hbits : Hid (BitsAt B w bb n f)) (hi : i ≤ 1048575) :
    Calls Yaqv.prog 6 #[.pointer (some ⟨bb, 0, none⟩), .int .i64 (i : Int)] w fun e w' => e = .returned (.bool true) ∧ BitsAt B w' bb (max n (i / 64 + 1)) (setW f i) ∧ Fr B w w' := by
  have hi2 : i < 1048576 := by omega
  have hn : n ≤ 16384 := hbits.out.2.1.len
  have hd1 : decide ((i : Int) < 0) = false := decide_eq_false (by omega)
  have hd2 : decide (1048575 < (i : Int)) = false := decide_eq_false (by omega)
  obtain ⟨i0, hi0, hz0, hz1, hz2⟩ := info_parts Yaqv.info31
  go_enter Yaqv.func6, Yaqv.ntmps6
  go_wp2_with fail
  go_loopg [] (max n (i / 64 + 1) - n) (fun r wr => ∃ m, n ≤ m ∧ m ≤ max n (i / 64 + 1) ∧ r = max n (i / 64 + 1) - m ∧ RawAt B wr bb m f ∧ Fr B w wr)
  case atStart => exact ⟨n, Nat.le_refl _, Nat.le_max_left _ _, rfl, hbits.out.raw, Fr.refl _ _⟩
  case round =>
    obtain ⟨m, hm1, hm2, hr, hraw, hfr⟩ := hrel
    have HR : Hid (gk = max n (i / 64 + 1) - m) := hr
    have hlt := hraw.lt
    have hm3 : m ≤ 16384 := by omega
    obtain ⟨hB, ao, cap, hb, hown⟩ := hraw
    have hcell := cell_of_one hb
    have hfree := free_of_one hb
    have Hown : Hid (wr.ownsRow B 31 1 (.slice ao m cap) m (cellsW f m)) := hown
    have Hb : Hid (wr.heap[bb]? = some (.cells #[.slice ao m cap] 27 (0, 0))) := hb
    have Hrow : Hid ((wr.alloc (.cells #[.int .u64 0] 31)).ownsRow B 31 1 (.slice ao m cap) m (cellsW f m)) := hown.alloc _
    clear hb hown hr
    by_cases hle : m ≤ i / 64
    · go_wp2_with (at_builtin; refine wpList_append_lies _ rfl (.tmp 25) (.tmp 26) 25 rfl B 31 i0 (.int .u64 0) 1 8 Yaqv.underlying25 hi0 hz0 hz1 hz2 rfl (by omega) (.slice ao m cap) m (cellsW f m) rfl Hrow.out ⟨wr.heap.size, 0, none⟩ 1 1 [.int .u64 0] rfl rfl (cell_one_new _ _ _) (by simp [Value.oneCell']) (by omega) (by unfold maxLen; omega) (by omega) (by simp; omega) (wr.heap.size + 1) (by simp) ?_; intro g cap' w1 hown1 hgrow hat hglt; obtain ⟨hb1, hfr1⟩ := grow_step Hb.out Hrow.out hgrow hB hfr; have hc1 := cell_of_one hb1; have hf1 := free_of_one hb1; have Hb1 := (show Hid _ from hb1); have Ho1 := (show Hid _ from hown1); clear hb1 hown1 hat hgrow)
      have hf0 : f m = 0 := hbits.out.2.1.out m hm1
      go_roundg (max n (i / 64 + 1) - (m + 1))
      case measure => have := HR.out; omega
      case rel => exact ⟨m + 1, by omega, by omega, rfl, grow_raw Hb1.out Ho1.out hf0 hB, hfr1.setCell Hb1.out (.inl rfl) hB _⟩
    · obtain ⟨g, cur, rfl, hBg, hle2, hgg, hcs⟩ := raw_form Hown.out (by omega)
      have hcw := hcs (i / 64) (by omega)
      have hfw : wr.frozen? ⟨g, i / 64, none⟩ = false := Hown.out.frozenAt _
      have hx : f (i / 64) < 18446744073709551616 := hbits.out.2.1.bd _
      have H : Hid (bits .or .u64 (f (i / 64) : Int) (IntKind.u64.wrap (2 ^ (i % 64))) = (setW f i (i / 64) : Int)) := by
        rw [setW_at]; exact or_bit _ _ hx (by omega)
      have Hgg : Hid (wr.heap[g]? = some (.cells cur 31 (0, 0))) := hgg
      clear hgg hcs
      go_wp2_with fail
      go_ret
      rw [H.out]
      have hst := Hown.out.stored (i / 64) (.int .u64 (setW f i (i / 64) : Int))
      rw [cellsW_setW] at hst
      have hmx : m = max n (i / 64 + 1) := by omega
      refine ⟨rfl, ⟨hB, hbits.out.2.1.setW i hi, .slice (some ⟨g, 0, none⟩) m cap, ?_, ?_⟩, hfr.setCell Hgg.out (.inr rfl) hBg _⟩
      · rw [Below.heap_setCell]
        · exact Hb.out
        · rintro rfl
          have h1 := Hb.out
          rw [Hgg.out] at h1
          simp at h1
      · rw [← hmx]
        exact hst.1

set_option maxHeartbeats 400000 in
theorem set_out (a : Addr) (i : Int) (w : World) (hi : i < 0 ∨ 1048575 < i) :
    Calls Yaqv.prog 6 #[.pointer (some a), .int .i64 i] w fun e w' => e = .returned (.bool false) ∧ w' = w := by
  rcases hi with hi | hi
  · go_enter Yaqv.func6, Yaqv.ntmps6
    go_wp2_with fail
    go_ret
    exact ⟨rfl, rfl⟩
  · have h0 : ¬ i < 0 := by omega
    go_enter Yaqv.func6, Yaqv.ntmps6
    go_wp2_with fail
    go_ret
    exact ⟨rfl, rfl⟩

/-- THE CONTRACT OF Set, in range. -/
theorem set_any {B : Nat} {w : World} {bb n : Nat} {f : Nat → Nat} (h : BitsAt B w bb n f) (i : Int) (h0 : 0 ≤ i) (h1 : i ≤ 1048575) :
    Calls Yaqv.prog 6 #[.pointer (some ⟨bb, 0, none⟩), .int .i64 i] w fun e w' => e = .returned (.bool true) ∧
      ∃ n' f', BitsAt B w' bb n' f' ∧ (∀ j : Nat, has f' j = (has f j || decide ((j : Int) = i))) ∧ Fr B w w' := by
  obtain ⟨i, rfl⟩ := Int.eq_ofNat_of_zero_le h0
  refine (set_in B bb n f i w h (by omega)).mono ?_
  rintro e w' ⟨rfl, h2, h3⟩
  refine ⟨rfl, _, _, h2, fun j => ?_, h3⟩
  rw [has_setW]
  congr 1
  rw [decide_eq_decide]
  omega

end Go.Proofs.Ymwhaq
