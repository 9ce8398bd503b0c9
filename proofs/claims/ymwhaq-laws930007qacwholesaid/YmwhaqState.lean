/-
  OWN TEXT. THE STATE OF A LAW: the set in memory, the table of what is in it beside it, and how the two go together.
-/
import Derived.Test.YmwhaqSet
import Derived.OpenShut
namespace Go.Proofs.Ymwhaq
open Go.RowKit

def falses (n : Nat) : Array Value := Array.replicate n (.bool false)
theorem zero23 (w : World) : Sem.run Yaqv.prog (zeroValue 23) w = .ok (.agg (falses 320)) w := by kernel_rfl
theorem zero34 (w : World) : Sem.run Yaqv.prog (zeroValue 34) w = .ok (.agg (falses 2048)) w := by kernel_rfl

/-- A store into a block that is neither a box nor a row of words. -/
theorem BitsAt.store {B : Nat} {w : World} {bb n : Nat} {f : Nat → Nat} (h : BitsAt B w bb n f) {b o t m : Nat} {F : Nat → Value} (hb : w.rowIs b t m F) (h1 : t ≠ 27) (h2 : t ≠ 31) (u : Value) : BitsAt B (w.setCell ⟨b, o, none⟩ u) bb n f := by
  obtain ⟨hB, hok, v, hv, hown⟩ := h
  obtain ⟨c, hbc, _⟩ := hb
  refine ⟨hB, hok, v, ?_, ownsRow_setCell_other hown ?_ u⟩
  · rw [Below.heap_setCell]
    · exact hv
    · rintro rfl
      rw [hv] at hbc
      simp only [Option.some.injEq, Obj.cells.injEq] at hbc
      exact h1 hbc.2.1.symm
  · rcases hown.2 with ⟨rfl, _⟩ | ⟨g, cap, cur, rfl, _, hgg, _⟩
    · simp [Value.ownBlock]
    · simp only [Value.ownBlock, ne_eq, Option.some.injEq]
      rintro rfl
      rw [hgg] at hbc
      simp only [Option.some.injEq, Obj.cells.injEq] at hbc
      exact h2 hbc.2.1.symm

/-- THE STATE OF A LAW: the set at bb; the table of what is in it, N places, at block B; nothing below B has turned. -/
structure St (B t N bb : Nat) (w wr : World) (pr : Nat → Bool) (n : Nat) (f : Nat → Nat) : Prop where
  bits : BitsAt B wr bb n f
  row : wr.rowIs B t N (fun j => .bool (pr j))
  below : Below B w wr
  same : ∀ j, has f j = (decide (j < N) && pr j)

def put (pr : Nat → Bool) (i : Nat) (b : Bool) : Nat → Bool := fun j => if j = i then b else pr j

theorem rowIs_put {w : World} {b t n : Nat} {pr : Nat → Bool} (h : w.rowIs b t n (fun j => .bool (pr j))) (i : Nat) (v : Bool) : (w.setCell ⟨b, i, none⟩ (.bool v)).rowIs b t n (fun j => .bool (put pr i v j)) :=
  (h.set i (.bool v)).congr (fun j _ => by unfold put; split <;> simp_all)

/-- Set, and the table's cell set. -/
theorem St.set {B t N bb : Nat} {w wr w1 : World} {pr : Nat → Bool} {n n' i : Nat} {f f' : Nat → Nat} (h : St B t N bb w wr pr n f) (hi : i < N) (h1 : t ≠ 27) (h2 : t ≠ 31) (hb : BitsAt B w1 bb n' f')
    {e : Int} (he : e = (i : Int)) (hf : ∀ j : Nat, has f' j = (has f j || decide ((j : Int) = e))) (hfr : Fr B wr w1) : St B t N bb w (w1.setCell ⟨B, i, none⟩ (.bool true)) (put pr i true) n' f' := by
  have hr := hfr.rowIs h.row h1 h2
  refine ⟨hb.store hr h1 h2 _, rowIs_put hr i true, (h.below.trans hfr.below).setCell (Nat.le_refl _) _, fun j => ?_⟩
  subst he
  rw [hf, h.same]
  unfold put
  by_cases e : j = i
  · subst e; simp [hi]
  · have : ¬ (j : Int) = (i : Int) := by omega
    simp [e, this]

theorem St.start {B t N : Nat} {w : World} (hB : w.heap.size = B) : St B t N (B + 1) w ((w.alloc (.cells (falses N) t)).alloc (.cells #[.slice none 0 0] 27)) (fun _ => false) 0 (fun _ => 0) := by
  subst hB
  refine ⟨⟨by omega, Ok.empty, _, ?_, World.ownsRow_nil _ _ _ _⟩, ?_, ?_, fun j => by simp [has_empty]⟩
  · have := heap_alloc_new (w.alloc (.cells (falses N) t)) (.cells #[.slice none 0 0] 27)
    simpa using this
  · refine World.rowIs.alloc ?_ _
    have := World.rowIs_alloc w (falses N) t (fun _ => .bool false) (fun i hi => by simp only [falses, Array.size_replicate] at hi; simp [falses, hi])
    simpa [falses] using this
  · exact ((Below.refl _ _).alloc (Nat.le_refl _) _).alloc (by simp) _

theorem St.hasI_in {B t N bb : Nat} {w wr : World} {pr : Nat → Bool} {n : Nat} {f : Nat → Nat} (h : St B t N bb w wr pr n f) (i : Nat) (hi : i < N) : hasI f (i : Int) = pr i := by
  rw [hasI_nat, h.same]; simp [hi]

theorem St.hasI_out {B t N bb : Nat} {w wr : World} {pr : Nat → Bool} {n : Nat} {f : Nat → Nat} (h : St B t N bb w wr pr n f) (i : Int) (hi : i < 0 ∨ (N : Int) ≤ i) : hasI f i = false := by
  unfold hasI
  rw [h.same]
  rcases hi with hi | hi
  · simp; omega
  · have : ¬ i.toNat < N := by omega
    simp [this]

/-- The table's cell cleared, then Clear. -/
theorem St.clear_in {B t N bb : Nat} {w wr w1 : World} {pr : Nat → Bool} {n n' i : Nat} {f f' : Nat → Nat} (h : St B t N bb w wr pr n f) (h1 : t ≠ 27) (h2 : t ≠ 31) (hb : BitsAt B w1 bb n' f')
    (hf : ∀ j : Nat, has f' j = (has f j && !decide ((j : Int) = (i : Int)))) (hfr : Fr B (wr.setCell ⟨B, i, none⟩ (.bool false)) w1) : St B t N bb w w1 (put pr i false) n' f' := by
  refine ⟨hb, hfr.rowIs (rowIs_put h.row i false) h1 h2, (h.below.setCell (Nat.le_refl _) _).trans hfr.below, fun j => ?_⟩
  rw [hf, h.same]
  unfold put
  by_cases e : j = i
  · subst e; simp
  · have : ¬ (j : Int) = (i : Int) := by omega
    simp [e, this]

/-- Clear, at no place of the table. -/
theorem St.clear_out {B t N bb : Nat} {w wr w1 : World} {pr : Nat → Bool} {n n' : Nat} {i : Int} {f f' : Nat → Nat} (h : St B t N bb w wr pr n f) (hi : i < 0 ∨ (N : Int) ≤ i) (h1 : t ≠ 27) (h2 : t ≠ 31) (hb : BitsAt B w1 bb n' f')
    (hf : ∀ j : Nat, has f' j = (has f j && !decide ((j : Int) = i))) (hfr : Fr B wr w1) : St B t N bb w w1 pr n' f' := by
  refine ⟨hb, hfr.rowIs h.row h1 h2, h.below.trans hfr.below, fun j => ?_⟩
  rw [hf, h.same]
  by_cases e : (j : Int) = i
  · have : ¬ j < N := by omega
    simp [this]
  · simp [e]

/-- h is the highest place below k at which p holds; -1 if there is none. -/
def HighIs (p : Nat → Bool) (k : Nat) (h : Int) : Prop :=
  (h = -1 ∧ ∀ j, j < k → p j = false) ∨ ∃ m : Nat, h = (m : Int) ∧ m < k ∧ p m = true ∧ ∀ j, m < j → j < k → p j = false

theorem HighIs.miss {p : Nat → Bool} {k : Nat} {h : Int} (hh : HighIs p k h) (hp : p k = false) : HighIs p (k + 1) h := by
  have step : ∀ (Q : Nat → Prop), (∀ j, Q j → j < k → p j = false) → ∀ j, Q j → j < k + 1 → p j = false := by
    intro Q hq j h1 h2
    by_cases e : j = k
    · subst e; exact hp
    · exact hq j h1 (by omega)
  rcases hh with ⟨h1, h2⟩ | ⟨m, h1, h2, h3, h4⟩
  · exact .inl ⟨h1, fun j hj => step (fun _ => True) (fun j _ => h2 j) j trivial hj⟩
  · exact .inr ⟨m, h1, by omega, h3, step (fun j => m < j) h4⟩

theorem HighIs.hit {p : Nat → Bool} {k : Nat} (hp : p k = true) : HighIs p (k + 1) (k : Int) :=
  .inr ⟨k, rfl, by omega, hp, fun j h1 h2 => by omega⟩

theorem St.high {B t N bb : Nat} {w wr : World} {pr : Nat → Bool} {n k : Nat} {f : Nat → Nat} {h : Int} (hst : St B t N bb w wr pr n f) (hk : k = N) (hh : HighIs pr k h) :
    (h = -1 ∧ n = 0) ∨ ∃ m : Nat, h = (m : Int) ∧ m < N ∧ n = m / 64 + 1 := by
  have hok := hst.bits.2.1
  rcases hh with ⟨h1, h2⟩ | ⟨m, h1, h2, h3, h4⟩
  · refine .inl ⟨h1, hok.len_zero fun j => ?_⟩
    rw [hst.same]
    by_cases c : j < N
    · simp [h2 j (by omega)]
    · simp [c]
  · refine .inr ⟨m, h1, by omega, hok.len_of_high m ?_ fun j hj => ?_⟩
    · rw [hst.same]; simp [h3]; omega
    · rw [hst.same]
      by_cases c : j < N
      · simp [h4 j hj (by omega)]
      · simp [c]

theorem St.word {B t N bb : Nat} {w wr : World} {pr : Nat → Bool} {n : Nat} {f : Nat → Nat} (hst : St B t N bb w wr pr n f) (k j : Nat) (hj : j < 64) (hk : k * 64 + j < N) : pr (k * 64 + j) = (f k).testBit j := by
  have h := hst.same (k * 64 + j)
  unfold has at h
  rw [show (k * 64 + j) / 64 = k by omega, show (k * 64 + j) % 64 = j by omega] at h
  rw [h]
  simp [hk]

theorem u64_nat (a : Int) : ∃ u : Nat, IntKind.u64.wrap a = (u : Int) ∧ u < 18446744073709551616 := by
  rw [IntKind.wrap_u64]
  exact ⟨(a % 18446744073709551616).toNat, by omega, by omega⟩

theorem mapped (a : Int) (N : Nat) (h0 : 0 < N) (h1 : N ≤ 1048576) : ∃ t : Nat, wrap64 ((IntKind.u64.wrap a).tmod (N : Int)) = (t : Int) ∧ t < N := by
  obtain ⟨u, hu, _⟩ := u64_nat a
  rw [hu]
  have h2 : ((u : Int).tmod (N : Int)) = ((u % N : Nat) : Int) := by rw [Int.tmod_eq_emod_of_nonneg (by omega)]; simp
  have h3 : u % N < N := Nat.mod_lt _ h0
  refine ⟨u % N, ?_, h3⟩
  rw [h2]
  exact IntWalk.wrap64_in _ ⟨by omega, by omega⟩

/-- An element of a slice of integers that came in. -/
theorem row_at {k : IntKind} {w : World} {a : Option Addr} {len cap : Nat} {zs : List Int} (h : (a = none ∧ len = 0 ∧ cap = 0 ∧ zs = []) ∨
      ∃ x, a = some x ∧ len ≤ cap ∧ cap ≤ maxLen ∧ zs.length = cap ∧ (∀ i, i < zs.length → w.cell? (x.add i) = some (.int k (zs.getD i 0))) ∧ ∀ n ∈ zs, (Lit.int k n).wf = true) (i : Nat) (hi : i < len) :
    ∃ b off z, a = some ⟨b, off, none⟩ ∧ b < w.heap.size ∧ w.cell? ⟨b, off + i, none⟩ = some (.int k z) ∧ (Lit.int k z).wf = true := by
  rcases h with ⟨_, h0, _, _⟩ | ⟨x, rfl, hl, _, hz, hc, hw⟩
  · omega
  · have hi' : i < zs.length := by omega
    obtain ⟨b, off, rfl, hc'⟩ := ints_at hc (by omega)
    have hcell := hc' i hi'
    refine ⟨b, off, zs.getD i 0, rfl, World.block_lt_of_cell? _ _ hcell, hcell, hw _ ?_⟩
    rw [List.getD_eq_getElem?_getD, List.getElem?_eq_getElem hi', Option.getD_some]
    exact List.getElem_mem hi'

theorem mapped320 (a : Int) : ∃ t : Nat, wrap64 ((IntKind.u64.wrap a).tmod 320) = (t : Int) ∧ t < 320 := mapped a 320 (by omega) (by omega)

end Go.Proofs.Ymwhaq
