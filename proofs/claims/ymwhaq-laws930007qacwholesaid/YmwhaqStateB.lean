/-
  OWN TEXT. MORE ON THE STATE OF A LAW, for LawS930007QABWhole and LawS930007QACWhole.
-/
import Derived.Test.YmwhaqState
import Derived.Test.YmwhaqPlainB
import Derived.Laws.CopyOwn
namespace Go.Proofs.Ymwhaq
open Go.RowKit

/-- a seen as uint64, modulo N. -/
def mapN (a : Int) (N : Nat) : Nat := (IntKind.u64.wrap a).toNat % N
theorem mapN_lt (a : Int) (N : Nat) (h : 0 < N) : mapN a N < N := Nat.mod_lt _ h
theorem mapN_eq (a : Int) (N : Nat) (h1 : N ≤ 1048576) (h0 : 0 < N) : wrap64 ((IntKind.u64.wrap a).tmod (N : Int)) = (mapN a N : Int) := by
  obtain ⟨u, hu, _⟩ := u64_nat a
  unfold mapN
  rw [hu]
  have h2 : ((u : Int).tmod (N : Int)) = ((u % N : Nat) : Int) := by rw [Int.tmod_eq_emod_of_nonneg (by omega)]; simp
  have h3 : u % N < N := Nat.mod_lt _ h0
  rw [h2, Int.toNat_natCast]
  exact IntWalk.wrap64_in _ ⟨by omega, by omega⟩
theorem mapped2048 (a : Int) : wrap64 ((IntKind.u64.wrap a).tmod 2048) = (mapN a 2048 : Int) := mapN_eq a 2048 (by omega) (by omega)

theorem inPre_out {e : Nat → Nat} {N k : Nat} (he : ∀ t, t < k → e t < N) (j : Nat) : inPre e k j = (decide (j < N) && inPre e k j) := by
  cases h : inPre e k j
  · simp
  · unfold inPre at h
    rw [List.any_eq_true] at h
    obtain ⟨t, ht, hj⟩ := h
    have h1 := he t (List.mem_range.1 ht)
    have h2 : e t = j := by simpa using hj
    have : j < N := by omega
    simp [this]

/-- An element of a slice of integers that came in, by its number. -/
theorem row_get {k : IntKind} {w : World} {a : Option Addr} {len cap : Nat} {zs : List Int} (h : (a = none ∧ len = 0 ∧ cap = 0 ∧ zs = []) ∨
      ∃ x, a = some x ∧ len ≤ cap ∧ cap ≤ maxLen ∧ zs.length = cap ∧ (∀ i, i < zs.length → w.cell? (x.add i) = some (.int k (zs.getD i 0))) ∧ ∀ n ∈ zs, (Lit.int k n).wf = true) (i : Nat) (hi : i < len) :
    ∃ b off, a = some ⟨b, off, none⟩ ∧ b < w.heap.size ∧ w.cell? ⟨b, off + i, none⟩ = some (.int k (zs.getD i 0)) ∧ (Lit.int k (zs.getD i 0)).wf = true := by
  rcases h with ⟨_, h0, _, _⟩ | ⟨x, rfl, hl, _, hz, hc, hw⟩
  · omega
  · have hi' : i < zs.length := by omega
    obtain ⟨b, off, rfl, hc'⟩ := ints_at hc (by omega)
    have hcell := hc' i hi'
    refine ⟨b, off, rfl, World.block_lt_of_cell? _ _ hcell, hcell, hw _ ?_⟩
    rw [List.getD_eq_getElem?_getD, List.getElem?_eq_getElem hi', Option.getD_some]
    exact List.getElem_mem hi'

/-- THE FIRST LOOP's STATE: the table at block B, the mapped numbers at block B + 1, k of them laid. -/
structure Pre (B len : Nat) (w wr : World) (e : Nat → Nat) (k : Nat) : Prop where
  row : wr.rowIs B 34 2048 (fun j => .bool (inPre e k j))
  ms : wr.rowIs (B + 1) 3 len (fun j => .int .i64 ((if j < k then e j else 0 : Nat) : Int))
  below : Below B w wr
  size : wr.heap.size = B + 2

theorem Pre.start {B len : Nat} {w : World} (hB : w.heap.size = B) (e : Nat → Nat) : Pre B len w ((w.alloc (.cells (falses 2048) 34)).alloc (.cells (madeCells #[.int .i64 0] len) 3)) e 0 := by
  subst hB
  refine ⟨?_, ?_, ?_, by simp⟩
  · refine World.rowIs.alloc ?_ _
    have := World.rowIs_alloc w (falses 2048) 34 (fun _ => .bool false) (fun i hi => by simp only [falses, Array.size_replicate] at hi; simp [falses, hi])
    simpa [falses, inPre_zero] using this
  · have := World.rowIs_made (w.alloc (.cells (falses 2048) 34)) (.int .i64 0) len 3
    simpa using this
  · exact ((Below.refl _ _).alloc (Nat.le_refl _) _).alloc (by simp) _

theorem Pre.step {B len k t : Nat} {w wr : World} {e : Nat → Nat} (h : Pre B len w wr e k) (ht : e k = t) : Pre B len w ((wr.setCell ⟨B + 1, k, none⟩ (.int .i64 (t : Int))).setCell ⟨B, t, none⟩ (.bool true)) e (k + 1) := by
  subst ht
  refine ⟨?_, ?_, ?_, by simpa using h.size⟩
  · refine ((h.row.setOther (by simp) _).set (e k) (.bool true)).congr fun j _ => ?_
    rw [inPre_succ]
    by_cases c : j = e k
    · simp [c]
    · have : ¬ e k = j := fun x => c x.symm
      simp [c, this]
  · refine ((h.ms.set k _).setOther (by simp) _).congr fun j _ => ?_
    by_cases c : j = k
    · subst c; simp
    · by_cases d : j < k
      · simp [c, d, show j < k + 1 by omega]
      · simp [c, d, show ¬ j < k + 1 by omega]
  · exact (h.below.setCell (by simp) _).setCell (Nat.le_refl _) _

theorem BitsAt.mono {B B' : Nat} {w : World} {bb n : Nat} {f : Nat → Nat} (h : BitsAt B' w bb n f) (hB : B ≤ B') : BitsAt B w bb n f := by
  obtain ⟨h1, h2, v, h3, h4⟩ := h
  refine ⟨by omega, h2, v, h3, h4.1, ?_⟩
  rcases h4.2 with h5 | ⟨g, cap, cur, hv, hb, rest⟩
  · exact .inl h5
  · exact .inr ⟨g, cap, cur, hv, by omega, rest⟩

theorem BitsAt.keep {B : Nat} {w w' : World} {bb n : Nat} {f : Nat → Nat} (h : BitsAt B w bb n f) (hb : Below w.heap.size w w') : BitsAt B w' bb n f := by
  obtain ⟨h1, h2, v, h3, h4⟩ := h
  refine ⟨h1, h2, v, (hb.block bb (lt_of_block h3)).trans h3, h4.1, ?_⟩
  rcases h4.2 with h5 | ⟨g, cap, cur, hv, hB, hg, rest⟩
  · exact .inl h5
  · exact .inr ⟨g, cap, cur, hv, hB, (hb.block g (lt_of_block hg)).trans hg, rest⟩

theorem St.keep {B t N bb : Nat} {w wr w1 : World} {pr : Nat → Bool} {n : Nat} {f : Nat → Nat} (h : St B t N bb w wr pr n f) (hB : B ≤ wr.heap.size) (hb : Below wr.heap.size wr w1) : St B t N bb w w1 pr n f :=
  ⟨h.bits.keep hb, h.row.of_block (hb.block _ h.row.lt), h.below.trans (hb.mono hB), h.same⟩

/-- Clear, then the table's cell cleared. -/
theorem St.clear_then {B t N bb : Nat} {w wr w1 : World} {pr : Nat → Bool} {n n' i : Nat} {f f' : Nat → Nat} (h : St B t N bb w wr pr n f) (h1 : t ≠ 27) (h2 : t ≠ 31) (hb : BitsAt B w1 bb n' f')
    (hf : ∀ j : Nat, has f' j = (has f j && !decide ((j : Int) = (i : Int)))) (hfr : Fr B wr w1) : St B t N bb w (w1.setCell ⟨B, i, none⟩ (.bool false)) (put pr i false) n' f' := by
  have hr := hfr.rowIs h.row h1 h2
  refine ⟨hb.store hr h1 h2 _, rowIs_put hr i false, (h.below.trans hfr.below).setCell (Nat.le_refl _) _, fun j => ?_⟩
  rw [hf, h.same]
  unfold put
  by_cases e : j = i
  · subst e; simp
  · have : ¬ (j : Int) = (i : Int) := by omega
    simp [e, this]

theorem size31 : (Yaqv.prog.info? 31).map (·.size) = some 1 := by kernel_rfl
theorem cellsW_one (f : Nat → Nat) (n : Nat) : ∀ v ∈ cellsW f n, v.oneCell' = true := by
  intro v hv
  unfold cellsW at hv
  rw [List.mem_map] at hv
  obtain ⟨j, _, rfl⟩ := hv
  rfl

theorem hide_copy_row (w : World) (n : Nat) : Hid ((w.alloc (.cells (madeCells #[.int .u64 0] n) 31)).heap[w.heap.size]? = some (.cells (List.replicate n (.int .u64 0)).toArray 31 (0, 0))) := by
  show _ = _
  rw [heap_alloc_new, ← toList_madeCells_one]

theorem hide_copy_src {B : Nat} {w : World} {n cap : Nat} {ao : Option Addr} {f : Nat → Nat} {o : Obj} (hown : w.ownsRow B 31 1 (.slice ao n cap) n (cellsW f n)) :
    Hid (0 < (cellsW f n).length → ∃ ad, ao = some ad ∧ ∀ j v, (cellsW f n)[j]? = some v → (w.alloc o).cell? (ad.add j) = some v) := by
  intro h
  rw [cellsW_length] at h
  obtain ⟨g, cur, rfl, _, _, hg, hc⟩ := raw_form hown h
  refine ⟨_, rfl, fun j v hv => ?_⟩
  have hj : j < n := by
    have := (List.getElem?_eq_some_iff.1 hv).1
    rwa [cellsW_length] at this
  rw [cellsW_get f n j hj] at hv
  rw [WideShapes.add_plain, Nat.zero_add, World.cell?_alloc_past _ _ _ (lt_of_block hg), hc j hj]
  exact hv

theorem copied {w : World} {n gb : Nat} {f : Nat → Nat} (h : Hid (w.heap[gb]? = some (.cells (splice (List.replicate n (.int .u64 0)) 0 (cellsW f n)).toArray 31 (0, 0)))) :
    Hid (∀ j, j < n → w.cell? ⟨gb, j, none⟩ = some (.int .u64 (f j : Int))) := by
  have e : splice (List.replicate n (Value.int .u64 0)) 0 (cellsW f n) = cellsW f n := by
    unfold splice
    rw [cellsW_length]
    simp
  have h' := h.out
  rw [e] at h'
  intro j hj
  rw [cell_of_row w gb j _ 31 (0, 0) h']
  simpa using cellsW_get f n j hj

end Go.Proofs.Ymwhaq
