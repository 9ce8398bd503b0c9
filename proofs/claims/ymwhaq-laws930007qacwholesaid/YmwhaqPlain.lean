/-
  OWN TEXT. THE PLAIN LAWS of the bit set: no Go in sight. A set is told by a function f from word numbers to words, and a length n.
-/
namespace Go.Proofs.Ymwhaq

/-- i is an element of the set whose words are f. -/
def has (f : Nat → Nat) (i : Nat) : Bool := (f (i / 64)).testBit (i % 64)

/-- The words with element i put in. -/
def setW (f : Nat → Nat) (i : Nat) : Nat → Nat := fun j => if j = i / 64 then f j ||| 2 ^ (i % 64) else f j

/-- The words with element i taken out. -/
def clrW (f : Nat → Nat) (i : Nat) : Nat → Nat := fun j => if j = i / 64 then f j &&& (18446744073709551615 - 2 ^ (i % 64)) else f j

/-- The length without the zero words at the end. -/
def trimN (f : Nat → Nat) : Nat → Nat
  | 0 => 0
  | n + 1 => if f n = 0 then trimN f n else n + 1

/-- The number of the lowest one bit from k on, so many places being left. -/
def lowFrom : Nat → Nat → Nat → Nat
  | 0, _, k => k
  | r + 1, x, k => if x.testBit k then k else lowFrom r x (k + 1)
def low (x : Nat) : Nat := lowFrom 64 x 0

/-- n words, given by f: each of 64 bits; nothing beyond n; trimmed; no more than a set may hold. -/
structure Ok (n : Nat) (f : Nat → Nat) : Prop where
  bd : ∀ j, f j < 2 ^ 64
  out : ∀ j, n ≤ j → f j = 0
  trim : ∀ m, n = m + 1 → f m ≠ 0
  len : n ≤ 16384

theorem two64 : (18446744073709551616 : Nat) = 2 ^ 64 := by decide

theorem Ok.empty : Ok 0 (fun _ => 0) := ⟨fun _ => by decide, fun _ _ => rfl, fun m h => by omega, by omega⟩

theorem has_empty (i : Nat) : has (fun _ => 0) i = false := by simp [has]

theorem has_setW (f : Nat → Nat) (i j : Nat) : has (setW f i) j = (has f j || decide (j = i)) := by
  unfold has setW
  by_cases h : j / 64 = i / 64
  · simp only [h, if_true, Nat.testBit_or, Nat.testBit_two_pow]
    congr 1
    by_cases e : j = i
    · subst e; simp
    · have : ¬ i % 64 = j % 64 := by omega
      simp [e, this]
  · have : ¬ j = i := by intro e; subst e; exact h rfl
    simp [h, this]

theorem or_lt (x m : Nat) (hx : x < 2 ^ 64) (hm : m < 64) : x ||| 2 ^ m < 2 ^ 64 :=
  Nat.or_lt_two_pow hx (Nat.pow_lt_pow_right (by omega) hm)

theorem or_ne (x m : Nat) : x ||| 2 ^ m ≠ 0 := by
  intro h
  have h2 : (x ||| 2 ^ m).testBit m = true := by simp [Nat.testBit_or]
  rw [h] at h2
  simp at h2

theorem Ok.setW {n : Nat} {f : Nat → Nat} (h : Ok n f) (i : Nat) (hi : i ≤ 1048575) : Ok (max n (i / 64 + 1)) (setW f i) := by
  refine ⟨fun j => ?_, fun j hj => ?_, fun m hm => ?_, ?_⟩
  · unfold Ymwhaq.setW
    split
    · exact or_lt _ _ (h.bd j) (by omega)
    · exact h.bd j
  · unfold Ymwhaq.setW
    rw [if_neg (by omega)]
    exact h.out j (by omega)
  · unfold Ymwhaq.setW
    split
    · exact or_ne _ _
    · exact h.trim m (by omega)
  · have := h.len; omega

theorem testBit_mask (m j : Nat) (hm : m < 64) (hj : j < 64) : (18446744073709551615 - 2 ^ m).testBit j = !decide (m = j) := by
  have h1 : (18446744073709551615 - 2 ^ m : Nat) = 2 ^ 64 - (2 ^ m + 1) := by
    have : (2 : Nat) ^ 64 = 18446744073709551616 := by decide
    omega
  rw [h1, Nat.testBit_two_pow_sub_succ (Nat.pow_lt_pow_right (by omega) hm)]
  simp [hj, Nat.testBit_two_pow]

theorem has_clrW (f : Nat → Nat) (i j : Nat) : has (clrW f i) j = (has f j && !decide (j = i)) := by
  unfold has clrW
  by_cases h : j / 64 = i / 64
  · simp only [h, if_true, Nat.testBit_and]
    rw [testBit_mask _ _ (by omega) (by omega)]
    congr 2
    rw [decide_eq_decide]
    omega
  · have : ¬ j = i := by intro e; subst e; exact h rfl
    simp [h, this]

theorem clrW_bd {f : Nat → Nat} (h : ∀ j, f j < 2 ^ 64) (i j : Nat) : clrW f i j < 2 ^ 64 := by
  unfold clrW
  split
  · exact Nat.lt_of_le_of_lt Nat.and_le_left (h j)
  · exact h j

theorem trimN_le (f : Nat → Nat) : ∀ n, trimN f n ≤ n
  | 0 => by simp [trimN]
  | n + 1 => by
    have := trimN_le f n
    unfold trimN
    split <;> omega

theorem trimN_out (f : Nat → Nat) : ∀ n, (∀ j, n ≤ j → f j = 0) → ∀ j, trimN f n ≤ j → f j = 0
  | 0, h, j, hj => h j (by omega)
  | n + 1, h, j, hj => by
    unfold trimN at hj
    split at hj
    · rename_i h0
      exact trimN_out f n (fun k hk => if e : k = n then e ▸ h0 else h k (by omega)) j hj
    · exact h j hj

theorem trimN_last (f : Nat → Nat) : ∀ n m, trimN f n = m + 1 → f m ≠ 0
  | 0, m, h => by simp [trimN] at h
  | n + 1, m, h => by
    unfold trimN at h
    split at h
    · exact trimN_last f n m h
    · rename_i h0
      have : n = m := by omega
      subst this; exact h0

theorem Ok.trim' {n : Nat} {f : Nat → Nat} (hb : ∀ j, f j < 2 ^ 64) (ho : ∀ j, n ≤ j → f j = 0) (hl : n ≤ 16384) : Ok (trimN f n) f :=
  ⟨hb, trimN_out f n ho, trimN_last f n, Nat.le_trans (trimN_le f n) hl⟩

theorem Ok.clrW {n : Nat} {f : Nat → Nat} (h : Ok n f) (i : Nat) : Ok (trimN (clrW f i) n) (clrW f i) :=
  Ok.trim' (fun j => clrW_bd h.bd i j) (fun j hj => by unfold Ymwhaq.clrW; split <;> simp [h.out j hj]) h.len

/-- A word that is not zero has an element. -/
theorem has_of_ne {f : Nat → Nat} {m : Nat} (hb : f m < 2 ^ 64) (h : f m ≠ 0) : ∃ b, b < 64 ∧ has f (64 * m + b) = true := by
  obtain ⟨b, hbit⟩ := Nat.exists_testBit_of_ne_zero h
  have hlt : b < 64 := by
    by_cases c : b < 64
    · exact c
    · have := Nat.testBit_lt_two_pow (Nat.lt_of_lt_of_le hb (Nat.pow_le_pow_right (by omega) (by omega : 64 ≤ b)))
      rw [this] at hbit
      cases hbit
  refine ⟨b, hlt, ?_⟩
  unfold has
  rw [show (64 * m + b) / 64 = m by omega, show (64 * m + b) % 64 = b by omega]
  exact hbit

theorem Ok.len_zero {n : Nat} {f : Nat → Nat} (h : Ok n f) (he : ∀ j, has f j = false) : n = 0 := by
  match n, h with
  | 0, _ => rfl
  | m + 1, h =>
    obtain ⟨b, _, hb⟩ := has_of_ne (h.bd m) (h.trim m rfl)
    rw [he] at hb
    cases hb

theorem word_ne_of_has {f : Nat → Nat} {i : Nat} (h : has f i = true) : f (i / 64) ≠ 0 := by
  intro e
  unfold has at h
  rw [e] at h
  simp at h

theorem Ok.len_of_high {n : Nat} {f : Nat → Nat} (h : Ok n f) (hi : Nat) (h1 : has f hi = true) (h2 : ∀ j, hi < j → has f j = false) : n = hi / 64 + 1 := by
  have ha : hi / 64 < n := by
    by_cases c : hi / 64 < n
    · exact c
    · exact absurd (h.out _ (by omega)) (word_ne_of_has h1)
  match n, h, ha with
  | m + 1, h, ha =>
    obtain ⟨b, hb64, hb⟩ := has_of_ne (h.bd m) (h.trim m rfl)
    by_cases c : hi < 64 * m + b
    · rw [h2 _ c] at hb
      cases hb
    · omega

theorem Ok.lt_of_has {n : Nat} {f : Nat → Nat} (h : Ok n f) {i : Nat} (h1 : has f i = true) : i / 64 < n := by
  by_cases c : i / 64 < n
  · exact c
  · exact absurd (h.out _ (by omega)) (word_ne_of_has h1)

/-! ### The word built bit by bit -/

def part (x j : Nat) : Nat := x % 2 ^ j

theorem part_zero (x : Nat) : part x 0 = 0 := by simp [part, Nat.mod_one]
theorem part_all {x : Nat} (h : x < 2 ^ 64) : part x 64 = x := Nat.mod_eq_of_lt h
theorem part_lt (x j : Nat) (hj : j ≤ 64) : part x j < 2 ^ 64 :=
  Nat.lt_of_lt_of_le (Nat.mod_lt _ (Nat.pow_pos (by omega))) (Nat.pow_le_pow_right (by omega) hj)

theorem part_hit (x j : Nat) (h : x.testBit j = true) : part x (j + 1) = part x j ||| 2 ^ j := by
  apply Nat.eq_of_testBit_eq
  intro t
  unfold part
  rw [Nat.testBit_or, Nat.testBit_mod_two_pow, Nat.testBit_mod_two_pow, Nat.testBit_two_pow]
  by_cases e : j = t
  · subst e; simp [h]
  · by_cases l : t < j
    · simp [e, l, show t < j + 1 by omega]
    · simp [e, l, show ¬ t < j + 1 by omega]

theorem part_miss (x j : Nat) (h : x.testBit j = false) : part x (j + 1) = part x j := by
  apply Nat.eq_of_testBit_eq
  intro t
  unfold part
  rw [Nat.testBit_mod_two_pow, Nat.testBit_mod_two_pow]
  by_cases e : j = t
  · subst e; simp [h]
  · by_cases l : t < j
    · simp [l, show t < j + 1 by omega]
    · simp [l, show ¬ t < j + 1 by omega]

/-! ### The lowest one bit -/

theorem lowFrom_spec : ∀ r x k, (∀ j, j < k → x.testBit j = false) → (∀ j, j < lowFrom r x k → x.testBit j = false) ∧ k ≤ lowFrom r x k ∧ lowFrom r x k ≤ k + r ∧ (lowFrom r x k < k + r → x.testBit (lowFrom r x k) = true)
  | 0, x, k, h => by simp only [lowFrom]; exact ⟨h, by omega, by omega, fun c => by omega⟩
  | r + 1, x, k, h => by
    unfold lowFrom
    split
    · rename_i hb
      exact ⟨h, by omega, by omega, fun _ => hb⟩
    · rename_i hb
      obtain ⟨a, b, c, d⟩ := lowFrom_spec r x (k + 1) (fun j hj => by
        by_cases e : j = k
        · subst e; simpa using hb
        · exact h j (by omega))
      exact ⟨a, by omega, by omega, fun l => d (by omega)⟩

theorem low_below (x j : Nat) (h : j < low x) : x.testBit j = false := (lowFrom_spec 64 x 0 (fun _ h => by omega)).1 j h
theorem low_le (x : Nat) : low x ≤ 64 := by have := (lowFrom_spec 64 x 0 (fun _ h => by omega)).2.2.1; unfold low; omega
theorem low_hit (x : Nat) (h : low x < 64) : x.testBit (low x) = true := (lowFrom_spec 64 x 0 (fun _ h => by omega)).2.2.2 (by unfold low at h; omega)

theorem testBit_ge {x : Nat} (hx : x < 2 ^ 64) {j : Nat} (h : 64 ≤ j) : x.testBit j = false :=
  Nat.testBit_lt_two_pow (Nat.lt_of_lt_of_le hx (Nat.pow_le_pow_right (by omega) h))

theorem low_lt {x : Nat} (hx : x < 2 ^ 64) (h : x ≠ 0) : low x < 64 := by
  obtain ⟨b, hb⟩ := Nat.exists_testBit_of_ne_zero h
  by_cases c : low x < 64
  · exact c
  · have : b < 64 := by
      by_cases c : b < 64
      · exact c
      · rw [testBit_ge hx (by omega)] at hb; cases hb
    rw [low_below x b (by omega)] at hb
    cases hb

theorem low_zero : low 0 = 64 := by decide

/-- 'w &= w - 1' drops the lowest one bit. -/
theorem and_pred {x : Nat} (hx : x < 2 ^ 64) (h : x ≠ 0) (j : Nat) : (x &&& (x - 1)).testBit j = (x.testBit j && !decide (j = low x)) := by
  have hl := low_lt hx h
  have hh := low_hit x hl
  have hb := low_below x
  generalize low x = l at hl hh hb
  have hd : x % 2 ^ l = 0 := by
    apply Nat.eq_of_testBit_eq
    intro t
    rw [Nat.testBit_mod_two_pow]
    by_cases c : t < l
    · simp [hb t c]
    · simp [c]
  have ho : x / 2 ^ l % 2 = 1 := by
    rw [Nat.testBit_eq_decide_div_mod_eq] at hh
    simpa using hh
  have hp : 0 < 2 ^ l := Nat.pow_pos (by omega)
  have hx1 : x = 2 ^ l * (x / 2 ^ l) := by have := Nat.div_add_mod x (2 ^ l); omega
  generalize hq : x / 2 ^ l = q at ho hx1
  have hpred : x - 1 = 2 ^ l * (q - 1) + (2 ^ l - 1) := by
    rw [hx1]
    obtain ⟨r, rfl⟩ : ∃ r, q = r + 1 := ⟨q - 1, by omega⟩
    rw [Nat.mul_add]
    simp only [Nat.add_sub_cancel]
    omega
  rw [Nat.testBit_and]
  by_cases c : j < l
  · simp [hb j c]
  · have e1 : (x - 1).testBit j = (q - 1).testBit (j - l) := by
      rw [hpred, Nat.testBit_two_pow_mul_add _ (by omega)]
      simp [c]
    have e2 : x.testBit j = q.testBit (j - l) := by
      rw [hx1, Nat.testBit_two_pow_mul]
      simp [show l ≤ j by omega]
    rw [e1, e2]
    by_cases e : j = l
    · subst e
      simp
      intro _
      omega
    · simp only [e, decide_false, Bool.not_false, Bool.and_true]
      have e3 : (q - 1).testBit (j - l) = q.testBit (j - l) := by
        obtain ⟨t, ht⟩ : ∃ t, j - l = t + 1 := ⟨j - l - 1, by omega⟩
        rw [ht, Nat.testBit_succ, Nat.testBit_succ]
        congr 1
        omega
      rw [e3, Bool.and_self]

end Go.Proofs.Ymwhaq
