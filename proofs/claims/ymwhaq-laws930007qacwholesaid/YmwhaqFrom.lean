/-
  OWN TEXT. THE WALK OF FromElems (8), all elements in range.
-/
import Derived.Test.YmwhaqState
import Derived.Test.YmwhaqPlainB
namespace Go.Proofs.Ymwhaq
open Go.RowKit

theorem bits_new (w : World) : BitsAt w.heap.size (w.alloc (.cells #[.slice none 0 0] 27)) w.heap.size 0 (fun _ => 0) :=
  ⟨Nat.le_refl _, Ok.empty, _, heap_alloc_new w _, World.ownsRow_nil _ _ _ _⟩

set_option maxHeartbeats 800000 in
theorem from_any (B g n cap : Nat) (e : Nat → Nat) (w : World) (hB : w.heap.size = B) (hg : g < B) (hn : n ≤ 1024) (he : Hid (∀ j, j < n → e j ≤ 1048575))
    (hc : Hid (∀ j, j < n → w.cell? ⟨g, j, none⟩ = some (.int .i64 (e j : Int)))) :
    Calls Yaqv.prog 8 #[.slice (some ⟨g, 0, none⟩) n cap] w fun r w' => r = .returned (.tuple #[.pointer (some ⟨B, 0, none⟩), .bool true]) ∧
      ∃ n' f', BitsAt B w' B n' f' ∧ (∀ j, has f' j = inPre e n j) ∧ Fr B w w' := by
  go_enter Yaqv.func8, Yaqv.ntmps8
  go_wp2_with fail
  go_loopw [11] (fun i wr => ∃ (k n' : Nat) (f' : Nat → Nat), k ≤ n ∧ i = .int .i64 (k : Nat) ∧ BitsAt B wr B n' f' ∧ Hid (∀ j, has f' j = inPre e k j) ∧ Fr B w wr) (fun i _ => n - (intOf i).toNat)
  case atStart =>
    refine ⟨0, 0, fun _ => 0, Nat.zero_le _, rfl, ?_, fun j => by rw [has_empty]; rfl, ?_⟩
    · subst hB; exact bits_new w
    · exact (Fr.refl B w).alloc (by omega) _
  case round =>
    obtain ⟨k, n', f', hk, rfl, hb, hh, hfr⟩ := hrel
    by_cases hlt : k < n
    · have hck : wr.cell? ⟨g, k, none⟩ = some (.int .i64 (e k : Int)) := (hfr.below.cell (p := ⟨g, k, none⟩) hg).trans (hc.out k hlt)
      have hek := he.out k hlt
      go_wp2_with fail
      refine (set_any hb _ (by omega) (by omega)).mono ?_
      rintro r w1 ⟨rfl, n2, f2, hb2, hf2, hfr2⟩
      have hh2 : Hid (∀ j, has f2 j = inPre e (k + 1) j) := fun j => by
        rw [hf2, hh.out j, inPre_succ]
        congr 1
        rw [decide_eq_decide]
        omega
      have hfr3 := hfr.trans hfr2
      clear hf2 hfr2 hh hfr hb
      go_wp2_with fail
      go_roundw
      case rel => exact ⟨k + 1, n2, f2, by omega, by go_num, hb2, hh2, hfr3⟩
      case measure => simp [intOf]; omega
    · have hkn : k = n := by omega
      subst hkn
      go_wp2_with fail
      go_ret2
      exact ⟨rfl, n', f', hb, hh.out, hfr⟩

end Go.Proofs.Ymwhaq
