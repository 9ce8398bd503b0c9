/-
  OWN TEXT. PLAIN LAWS FOR Next: the first element from a place on.
-/
import Derived.Test.YmwhaqPlain
namespace Go.Proofs.Ymwhaq

/-- r is the first place from s on at which p holds. -/
def isNext (p : Nat → Bool) (s : Nat) : Option Nat → Prop
  | none => ∀ m, s ≤ m → p m = false
  | some j => s ≤ j ∧ p j = true ∧ ∀ m, s ≤ m → m < j → p m = false

def ansI : Option Nat → Int
  | none => -1
  | some j => (j : Int)

theorem isNext_unique {p : Nat → Bool} {s : Nat} : ∀ {a b : Option Nat}, isNext p s a → isNext p s b → a = b
  | none, none, _, _ => rfl
  | none, some j, h, k => by have := h j k.1; rw [k.2.1] at this; cases this
  | some i, none, h, k => by have := k i h.1; rw [h.2.1] at this; cases this
  | some i, some j, h, k => by
    by_cases c : i < j
    · have := k.2.2 i h.1 c; rw [h.2.1] at this; cases this
    · by_cases d : j < i
      · have := h.2.2 j k.1 d; rw [k.2.1] at this; cases this
      · have : i = j := by omega
        rw [this]

/-- The bits of x from place m on. -/
def above (x m : Nat) : Nat := x &&& (18446744073709551615 - (2 ^ m - 1))

theorem testBit_above (x m t : Nat) (hm : m < 64) (ht : t < 64) : (above x m).testBit t = (x.testBit t && decide (m ≤ t)) := by
  unfold above
  have hp : 0 < 2 ^ m := Nat.pow_pos (by omega)
  have hlt : (2 : Nat) ^ m < 2 ^ 64 := Nat.pow_lt_pow_right (by omega) hm
  have h64 : (2 : Nat) ^ 64 = 18446744073709551616 := by decide
  have h1 : (18446744073709551615 - (2 ^ m - 1) : Nat) = 2 ^ 64 - ((2 ^ m - 1) + 1) := by omega
  rw [Nat.testBit_and, h1, Nat.testBit_two_pow_sub_succ (by omega), Nat.testBit_two_pow_sub_one]
  congr 1
  by_cases c : t < m
  · simp [ht, c, show ¬ m ≤ t by omega]
  · simp [ht, c, show m ≤ t by omega]

theorem above_lt {x : Nat} (hx : x < 2 ^ 64) (m : Nat) : above x m < 2 ^ 64 := Nat.lt_of_le_of_lt Nat.and_le_left hx

theorem has_eq (f : Nat → Nat) (m : Nat) : has f m = (f (m / 64)).testBit (m % 64) := rfl

/-- The first word holds one from the place on. -/
theorem next_here {f : Nat → Nat} {s : Nat} (hb : f (s / 64) < 2 ^ 64) (h : above (f (s / 64)) (s % 64) ≠ 0) : isNext (has f) s (some (s / 64 * 64 + low (above (f (s / 64)) (s % 64)))) := by
  have hl := low_lt (above_lt hb (s % 64)) h
  have hh := low_hit _ hl
  have hbel := low_below (above (f (s / 64)) (s % 64))
  generalize low (above (f (s / 64)) (s % 64)) = l at hl hh hbel
  rw [testBit_above _ _ _ (by omega) hl, Bool.and_eq_true, decide_eq_true_iff] at hh
  refine ⟨by omega, ?_, fun m h1 h2 => ?_⟩
  · rw [has_eq, show (s / 64 * 64 + l) / 64 = s / 64 by omega, show (s / 64 * 64 + l) % 64 = l by omega]
    exact hh.1
  · have e1 : m / 64 = s / 64 := by omega
    have := hbel (m % 64) (by omega)
    rw [testBit_above _ _ _ (by omega) (by omega)] at this
    rw [has_eq, e1]
    simpa [show s % 64 ≤ m % 64 by omega] using this

/-- It holds none. -/
theorem next_not_here {f : Nat → Nat} {s : Nat} (h : above (f (s / 64)) (s % 64) = 0) (m : Nat) (h1 : s ≤ m) (h2 : m / 64 < s / 64 + 1) : has f m = false := by
  have e1 : m / 64 = s / 64 := by omega
  have := testBit_above (f (s / 64)) (s % 64) (m % 64) (by omega) (by omega)
  rw [h] at this
  rw [has_eq, e1]
  simpa [show s % 64 ≤ m % 64 by omega] using this.symm

theorem next_there {f : Nat → Nat} {s j : Nat} (hb : f j < 2 ^ 64) (h : f j ≠ 0) (hsj : s / 64 < j) (hno : ∀ m, s ≤ m → m / 64 < j → has f m = false) : isNext (has f) s (some (j * 64 + low (f j))) := by
  have hl := low_lt hb h
  have hh := low_hit _ hl
  have hbel := low_below (f j)
  generalize low (f j) = l at hl hh hbel
  refine ⟨by omega, ?_, fun m h1 h2 => ?_⟩
  · rw [has_eq, show (j * 64 + l) / 64 = j by omega, show (j * 64 + l) % 64 = l by omega]
    exact hh
  · by_cases c : m / 64 < j
    · exact hno m h1 c
    · have e1 : m / 64 = j := by omega
      rw [has_eq, e1]
      exact hbel _ (by omega)

theorem next_skip {f : Nat → Nat} {s j : Nat} (h : f j = 0) (hno : ∀ m, s ≤ m → m / 64 < j → has f m = false) (m : Nat) (h1 : s ≤ m) (h2 : m / 64 < j + 1) : has f m = false := by
  by_cases c : m / 64 < j
  · exact hno m h1 c
  · have e1 : m / 64 = j := by omega
    rw [has_eq, e1, h]
    simp

theorem next_none {n : Nat} {f : Nat → Nat} {s : Nat} (hok : Ok n f) (hno : ∀ m, s ≤ m → m / 64 < n → has f m = false) : isNext (has f) s none := by
  intro m h1
  by_cases c : m / 64 < n
  · exact hno m h1 c
  · rw [has_eq, hok.out _ (by omega)]
    simp

/-- j is among the first k of e. -/
def inPre (e : Nat → Nat) (k j : Nat) : Bool := (List.range k).any fun t => decide (e t = j)

theorem inPre_zero (e : Nat → Nat) (j : Nat) : inPre e 0 j = false := rfl
theorem inPre_succ (e : Nat → Nat) (k j : Nat) : inPre e (k + 1) j = (inPre e k j || decide (e k = j)) := by
  unfold inPre
  rw [List.range_succ, List.any_append]
  simp

end Go.Proofs.Ymwhaq
