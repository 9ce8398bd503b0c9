/-
  OWN TEXT. WHAT LIES IN MEMORY: the box of a set, the row of its words; what a call that writes to them leaves alone.
-/
import Derived.Test.YmwhaqRows
import Derived.Test.YmwhaqPlain
import Derived.WalkKit
import Derived.WalkSpells
import Derived.Deep.AppendLies
import Derived.Deep.OwnRows
import Derived.Laws.BitsAllLaws
namespace Go.Proofs.Ymwhaq
open Go.RowKit

theorem Yaqv.info31 : (Yaqv.prog.info? 31).map (fun i => (i.zero, i.size, i.bytes)) = some (some (.int .u64 0), 1, 8) := by kernel_rfl
theorem Yaqv.info3 : (Yaqv.prog.info? 3).map (fun i => (i.zero, i.size, i.bytes)) = some (some (.int .i64 0), 1, 8) := by kernel_rfl

/-- The first n words, as cells. -/
def cellsW (f : Nat → Nat) (n : Nat) : List Value := (List.range n).map fun j => Value.int .u64 (f j : Int)

theorem cellsW_length (f : Nat → Nat) (n : Nat) : (cellsW f n).length = n := by simp [cellsW]
theorem cellsW_get (f : Nat → Nat) (n j : Nat) (h : j < n) : (cellsW f n)[j]? = some (.int .u64 (f j : Int)) := by simp [cellsW, h]
theorem cellsW_snoc (f : Nat → Nat) (n : Nat) (h : f n = 0) : cellsW f n ++ [.int .u64 0] = cellsW f (n + 1) := by
  simp [cellsW, List.range_succ, h]

/-- THE SET IN MEMORY: block bb is the box of the set; the words f, n of them, lie in a row of the call's own (from block B on). -/
def BitsAt (B : Nat) (w : World) (bb n : Nat) (f : Nat → Nat) : Prop :=
  B ≤ bb ∧ Ok n f ∧ ∃ v, w.heap[bb]? = some (.cells #[v] 27 (0, 0)) ∧ w.ownsRow B 31 1 v n (cellsW f n)

/-- WHAT A CALL ON THE SET LEAVES ALONE: all that lies below B; and of the call's own blocks all that are neither a set's box nor a row of words. -/
structure Fr (B : Nat) (w w' : World) : Prop where
  below : Below B w w'
  other : ∀ (k : Nat) (c : Array Value) (e : TypeId) (m : Nat × Nat), w.heap[k]? = some (Obj.cells c e m) → e ≠ 27 → e ≠ 31 → w'.heap[k]? = w.heap[k]?

theorem Fr.refl (B : Nat) (w : World) : Fr B w w := ⟨Below.refl _ _, fun _ _ _ _ _ _ _ => rfl⟩

theorem Fr.trans {B : Nat} {a b c : World} (h : Fr B a b) (k : Fr B b c) : Fr B a c :=
  ⟨h.below.trans k.below, fun i cs e m hc h1 h2 => by
    have e1 := h.other i cs e m hc h1 h2
    rw [k.other i cs e m (e1.trans hc) h1 h2, e1]⟩

theorem Fr.of_below {B : Nat} {w w' : World} (hB : B ≤ w.heap.size) (h : Below w.heap.size w w') : Fr B w w' :=
  ⟨h.mono hB, fun k _ _ _ hc _ _ => h.block k (lt_of_block hc)⟩

theorem Fr.alloc {B : Nat} {a w : World} (h : Fr B a w) (hB : B ≤ w.heap.size) (o : Obj) : Fr B a (w.alloc o) :=
  h.trans (Fr.of_below hB ((Below.refl _ _).alloc (Nat.le_refl _) o))

theorem Fr.setCell {B : Nat} {a w : World} (h : Fr B a w) {b o : Nat} {c : Array Value} {t : TypeId} {m : Nat × Nat} (hb : w.heap[b]? = some (.cells c t m)) (ht : t = 27 ∨ t = 31) (hB : B ≤ b) (u : Value) : Fr B a (w.setCell ⟨b, o, none⟩ u) :=
  h.trans ⟨(Below.refl _ _).setCell hB u, fun k cs e m' hc h1 h2 => by
    rw [Below.heap_setCell]
    rintro rfl
    rw [hb] at hc
    simp only [Option.some.injEq, Obj.cells.injEq] at hc
    obtain ⟨_, rfl, _⟩ := hc
    rcases ht with ht | ht
    · exact h1 ht
    · exact h2 ht⟩

/-- Behind an append onto the row of words. -/
theorem Fr.grown {B : Nat} {a w w' : World} {v : Value} {n : Nat} {xs : List Value} (h : Fr B a w) (hown : w.ownsRow B 31 1 v n xs) (hg : w.grownBy w' v.ownBlock) (hB : B ≤ w.heap.size) : Fr B a w' :=
  h.trans ⟨(Below.refl _ _).grown hg hB (fun k hk => (hown.lt k hk).1), fun k cs e m hc h1 h2 => by
    refine hg.block k (lt_of_block hc) ?_
    intro hk
    rcases hown.2 with ⟨rfl, _⟩ | ⟨g, cap, cur, rfl, _, hgg, _⟩
    · simp [Value.ownBlock] at hk
    · simp only [Value.ownBlock, Option.some.injEq] at hk
      subst hk
      rw [hgg] at hc
      simp only [Option.some.injEq, Obj.cells.injEq] at hc
      exact h2 hc.2.1.symm⟩

theorem Fr.rowIs {B : Nat} {w w' : World} (h : Fr B w w') {b : Nat} {t : TypeId} {n : Nat} {f : Nat → Value} (hr : w.rowIs b t n f) (h1 : t ≠ 27) (h2 : t ≠ 31) : w'.rowIs b t n f := by
  obtain ⟨c, hb, hn, hc⟩ := hr
  exact ⟨c, (h.other b c t _ hb h1 h2).trans hb, hn, hc⟩

/-! ### Bits: what the walk writes -/

theorem nat_shr (x m : Nat) : ((x : Int) / 2 ^ m) = ((x / 2 ^ m : Nat) : Int) := by
  rw [Int.natCast_ediv, Int.natCast_pow]; rfl

theorem shr_and (x m : Nat) (hx : x < 18446744073709551616) : bits .and .u64 ((x : Int) / 2 ^ m) 1 = ((x / 2 ^ m % 2 : Nat) : Int) := by
  rw [nat_shr, show (1 : Int) = ((1 : Nat) : Int) from rfl, u64_and_nat _ _ (Nat.lt_of_le_of_lt (Nat.div_le_self _ _) hx) (by omega), nat_mask1]

theorem shr_one (x m : Nat) (hx : x < 18446744073709551616) : (bits .and .u64 ((x : Int) / 2 ^ m) 1 == 1) = x.testBit m := by
  rw [shr_and x m hx, Nat.testBit_eq_decide_div_mod_eq]
  generalize x / 2 ^ m % 2 = t
  rw [Bool.eq_iff_iff, beq_iff_eq, decide_eq_true_iff]
  omega

theorem shr_zero (x m : Nat) (hx : x < 18446744073709551616) : (bits .and .u64 ((x : Int) / 2 ^ m) 1 == 0) = !x.testBit m := by
  rw [shr_and x m hx, Nat.testBit_eq_decide_div_mod_eq]
  have ht : x / 2 ^ m % 2 < 2 := Nat.mod_lt _ (by omega)
  generalize x / 2 ^ m % 2 = t at ht
  rw [Bool.eq_iff_iff, beq_iff_eq, Bool.not_eq_true', decide_eq_false_iff_not]
  omega

end Go.Proofs.Ymwhaq
