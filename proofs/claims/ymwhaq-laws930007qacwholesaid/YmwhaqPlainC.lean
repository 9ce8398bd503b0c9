/-
  OWN TEXT. PLAIN LAWS FOR LawS930007QACWhole: the elements in order; sorted lists.
-/
import Derived.Test.YmwhaqPlain
namespace Go.Proofs.Ymwhaq

/-! ### 'w &= w - 1' -/

theorem pred_lt {x : Nat} (hx : x < 2 ^ 64) : x &&& (x - 1) < 2 ^ 64 := Nat.lt_of_le_of_lt Nat.and_le_left hx

theorem ones_step {x n : Nat} (hx : x < 2 ^ 64) (h : x ≠ 0) (hl : ∀ j, j < n → x.testBit j = false) : n < 64 ∧ ∀ j, j < n + 1 → (x &&& (x - 1)).testBit j = false := by
  have h1 := low_lt hx h
  have h2 := low_hit x h1
  have h3 : n ≤ low x := by
    by_cases c : n ≤ low x
    · exact c
    · rw [hl _ (by omega)] at h2; cases h2
  refine ⟨by omega, fun j hj => ?_⟩
  rw [and_pred hx h]
  by_cases c : j < n
  · simp [hl j c]
  · by_cases d : j = low x
    · simp [d]
    · rw [low_below x j (by omega)]; rfl

theorem low_pred {x : Nat} (hx : x < 2 ^ 64) (h : x ≠ 0) : low x < low (x &&& (x - 1)) := by
  by_cases c : low x < low (x &&& (x - 1))
  · exact c
  · by_cases d : low (x &&& (x - 1)) < 64
    · have h1 := low_hit _ d
      rw [and_pred hx h, Bool.and_eq_true] at h1
      by_cases e : low (x &&& (x - 1)) = low x
      · simp [e] at h1
      · rw [low_below x _ (by omega)] at h1
        cases h1.1
    · have h1 := low_lt hx h
      omega

/-! ### The elements in order -/

/-- The elements below m. -/
def upTo (f : Nat → Nat) (m : Nat) : List Nat := (List.range m).filter (has f)

theorem upTo_zero (f : Nat → Nat) : upTo f 0 = [] := rfl
theorem upTo_hit {f : Nat → Nat} {m : Nat} (h : has f m = true) : upTo f (m + 1) = upTo f m ++ [m] := by simp [upTo, List.range_succ, List.filter_append, h]
theorem upTo_miss {f : Nat → Nat} {m : Nat} (h : has f m = false) : upTo f (m + 1) = upTo f m := by simp [upTo, List.range_succ, List.filter_append, h]

theorem upTo_gap {f : Nat → Nat} {a : Nat} : ∀ d, (∀ j, a ≤ j → j < a + d → has f j = false) → upTo f (a + d) = upTo f a
  | 0, _ => rfl
  | d + 1, h => by
    rw [← Nat.add_assoc, upTo_miss (h (a + d) (by omega) (by omega))]
    exact upTo_gap d (fun j h1 h2 => h j h1 (by omega))

theorem upTo_gap' {f : Nat → Nat} {a b : Nat} (hab : a ≤ b) (h : ∀ j, a ≤ j → j < b → has f j = false) : upTo f b = upTo f a := by
  obtain ⟨d, rfl⟩ := Nat.exists_eq_add_of_le hab
  exact upTo_gap d h

theorem upTo_length (f : Nat → Nat) (m : Nat) : (upTo f m).length ≤ m := by
  have := List.length_filter_le (has f) (List.range m)
  simpa [upTo] using this

theorem mem_upTo {f : Nat → Nat} {m j : Nat} : j ∈ upTo f m ↔ j < m ∧ has f j = true := by simp [upTo]

theorem upTo_sorted (f : Nat → Nat) (m : Nat) : (upTo f m).Pairwise (· < ·) := List.Pairwise.filter _ List.pairwise_lt_range

theorem has_word (f : Nat → Nat) (k j : Nat) (hj : j < 64) : has f (k * 64 + j) = (f k).testBit j := by
  unfold has
  rw [show (k * 64 + j) / 64 = k by omega, show (k * 64 + j) % 64 = j by omega]

/-- At a word's start: nothing below its lowest bit. -/
theorem upTo_word (f : Nat → Nat) (k : Nat) : upTo f (k * 64 + low (f k)) = upTo f (k * 64) := by
  have hl := low_le (f k)
  refine upTo_gap _ fun j h1 h2 => ?_
  obtain ⟨t, rfl⟩ := Nat.exists_eq_add_of_le h1
  rw [has_word f k t (by omega)]
  exact low_below _ _ (by omega)

/-- One element taken: the next place. -/
theorem upTo_next {f : Nat → Nat} {k x : Nat} (hx : x < 2 ^ 64) (h : x ≠ 0) (hs : ∀ j, low x ≤ j → j < 64 → x.testBit j = (f k).testBit j) :
    upTo f (k * 64 + low (x &&& (x - 1))) = upTo f (k * 64 + low x) ++ [k * 64 + low x] ∧ (∀ j, low (x &&& (x - 1)) ≤ j → j < 64 → (x &&& (x - 1)).testBit j = (f k).testBit j) := by
  have h1 := low_lt hx h
  have h2 := low_pred hx h
  have h3 := low_le (x &&& (x - 1))
  constructor
  · rw [← upTo_hit (by rw [has_word f k _ h1, ← hs _ (Nat.le_refl _) h1]; exact low_hit x h1)]
    refine upTo_gap' (by omega) fun j h4 h5 => ?_
    obtain ⟨t, rfl⟩ := Nat.exists_eq_add_of_le (show k * 64 ≤ j by omega)
    rw [has_word f k t (by omega), ← hs t (by omega) (by omega)]
    have h6 := low_below _ t (show t < low (x &&& (x - 1)) by omega)
    rw [and_pred hx h] at h6
    simpa [show ¬ t = low x by omega] using h6
  · intro j h4 h5
    rw [and_pred hx h, hs j (by omega) h5]
    simp [show ¬ j = low x by omega]

/-! ### Sorted lists -/

def insL : List Nat → Nat → List Nat
  | [], v => [v]
  | x :: t, v => if x < v then x :: insL t v else if x = v then x :: t else v :: x :: t

theorem mem_insL : ∀ (l : List Nat) (v j : Nat), j ∈ insL l v ↔ j = v ∨ j ∈ l
  | [], v, j => by simp [insL]
  | x :: t, v, j => by
    unfold insL
    split
    · simp [mem_insL t v j]
      constructor
      · rintro (h | h | h)
        · exact .inr (.inl h)
        · exact .inl h
        · exact .inr (.inr h)
      · rintro (h | h | h)
        · exact .inr (.inl h)
        · exact .inl h
        · exact .inr (.inr h)
    · split
      · rename_i h
        subst h
        simp
      · simp

theorem insL_sorted : ∀ (l : List Nat) (v : Nat), l.Pairwise (· < ·) → (insL l v).Pairwise (· < ·)
  | [], v, _ => by simp [insL]
  | x :: t, v, h => by
    obtain ⟨h1, h2⟩ := List.pairwise_cons.1 h
    unfold insL
    split
    · rename_i hx
      refine List.pairwise_cons.2 ⟨fun a ha => ?_, insL_sorted t v h2⟩
      rcases (mem_insL t v a).1 ha with rfl | ha
      · exact hx
      · exact h1 a ha
    · split
      · exact h
      · refine List.pairwise_cons.2 ⟨fun a ha => ?_, h⟩
        rcases List.mem_cons.1 ha with rfl | ha
        · omega
        · have := h1 a ha; omega

theorem insL_length : ∀ (l : List Nat) (v : Nat), (insL l v).length ≤ l.length + 1
  | [], v => by simp [insL]
  | x :: t, v => by
    have := insL_length t v
    unfold insL
    split
    · simp; omega
    · split <;> simp

theorem insL_at : ∀ (l : List Nat) (v p : Nat), p ≤ l.length → (∀ j, j < p → l.getD j 0 < v) → (p = l.length ∨ v < l.getD p 0) → insL l v = l.take p ++ v :: l.drop p
  | [], v, p, h1, _, _ => by
    have : p = 0 := by simpa using h1
    subst this; rfl
  | x :: t, v, 0, _, _, h3 => by
    have hx : v < x := by
      rcases h3 with h3 | h3
      · simp at h3
      · simpa using h3
    unfold insL
    rw [if_neg (by omega), if_neg (by omega)]
    rfl
  | x :: t, v, p + 1, h1, h2, h3 => by
    have hx : x < v := by simpa using h2 0 (by omega)
    unfold insL
    rw [if_pos hx, insL_at t v p (by simpa using h1) (fun j hj => by simpa using h2 (j + 1) (by omega)) (by simpa using h3)]
    rfl

theorem insL_same : ∀ (l : List Nat) (v p : Nat), p < l.length → (∀ j, j < p → l.getD j 0 < v) → l.getD p 0 = v → insL l v = l
  | [], v, p, h1, _, _ => by simp at h1
  | x :: t, v, 0, _, _, h3 => by
    have hx : x = v := by simpa using h3
    unfold insL
    rw [if_neg (by omega), if_pos hx]
  | x :: t, v, p + 1, h1, h2, h3 => by
    have hx : x < v := by simpa using h2 0 (by omega)
    unfold insL
    rw [if_pos hx, insL_same t v p (by simpa using h1) (fun j hj => by simpa using h2 (j + 1) (by omega)) (by simpa using h3)]

def delL (l : List Nat) (v : Nat) : List Nat := l.filter fun x => !decide (x = v)

theorem mem_delL (l : List Nat) (v j : Nat) : j ∈ delL l v ↔ j ∈ l ∧ j ≠ v := by simp [delL]
theorem delL_sorted {l : List Nat} (v : Nat) (h : l.Pairwise (· < ·)) : (delL l v).Pairwise (· < ·) := List.Pairwise.filter _ h
theorem delL_length (l : List Nat) (v : Nat) : (delL l v).length ≤ l.length := List.length_filter_le _ _
theorem delL_take_hit {l : List Nat} {v k : Nat} (hk : k < l.length) (h : l.getD k 0 ≠ v) : delL (l.take (k + 1)) v = delL (l.take k) v ++ [l.getD k 0] := by
  have e : l.getD k 0 = l[k] := by simp [List.getD_eq_getElem?_getD, hk]
  rw [e] at h ⊢
  rw [List.take_succ_eq_append_getElem hk]
  unfold delL
  rw [List.filter_append]
  congr 1
  simp [h]
theorem delL_take_miss {l : List Nat} {v k : Nat} (hk : k < l.length) (h : l.getD k 0 = v) : delL (l.take (k + 1)) v = delL (l.take k) v := by
  have e : l.getD k 0 = l[k] := by simp [List.getD_eq_getElem?_getD, hk]
  rw [e] at h
  rw [List.take_succ_eq_append_getElem hk]
  unfold delL
  rw [List.filter_append, h]
  simp

theorem sorted_ext : ∀ (a b : List Nat), a.Pairwise (· < ·) → b.Pairwise (· < ·) → (∀ x, x ∈ a ↔ x ∈ b) → a = b
  | [], [], _, _, _ => rfl
  | [], y :: b, _, _, h => by have := (h y).2 (by simp); simp at this
  | x :: a, [], _, _, h => by have := (h x).1 (by simp); simp at this
  | x :: a, y :: b, ha, hb, h => by
    obtain ⟨a1, a2⟩ := List.pairwise_cons.1 ha
    obtain ⟨b1, b2⟩ := List.pairwise_cons.1 hb
    have exy : x = y := by
      rcases List.mem_cons.1 ((h x).1 (by simp)) with e | hx
      · exact e
      · rcases List.mem_cons.1 ((h y).2 (by simp)) with e | hy
        · exact e.symm
        · have h1 := b1 x hx
          have h2 := a1 y hy
          omega
    subst exy
    congr 1
    refine sorted_ext a b a2 b2 fun z => ⟨fun hz => ?_, fun hz => ?_⟩
    · rcases List.mem_cons.1 ((h z).1 (by simp [hz])) with e | hz'
      · have := a1 z hz; omega
      · exact hz'
    · rcases List.mem_cons.1 ((h z).2 (by simp [hz])) with e | hz'
      · have := b1 z hz; omega
      · exact hz'

/-- The set's elements in order, told by a sorted list. -/
theorem model_is {n : Nat} {f : Nat → Nat} (hok : Ok n f) {l : List Nat} (hs : l.Pairwise (· < ·)) (hm : ∀ j, j ∈ l ↔ has f j = true) : l = upTo f (n * 64) := by
  refine sorted_ext _ _ hs (upTo_sorted _ _) fun x => ?_
  rw [mem_upTo, hm]
  constructor
  · intro h
    have := hok.lt_of_has h
    exact ⟨by omega, h⟩
  · exact fun h => h.2

end Go.Proofs.Ymwhaq
