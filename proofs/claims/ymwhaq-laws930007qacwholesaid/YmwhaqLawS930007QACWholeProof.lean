/-
  THE PROOF OF 'Rows.LawS930007QACWholeSaid'. The frame is that of the seat's two shells, turned to one parameter, a slice of structs of two one-cell fields ('open_slice_pairs'); the walk lies in YmwhaqLawC.lean.
-/
import Derived.Test.YmwhaqRows
import Derived.Test.YmwhaqLawC
import Derived.WalkKit
import Derived.ProofKit
import Derived.OpenShut
import Derived.ShutString
import Derived.ChangeOld
import Derived.Below
import Derived.Deep.SlicePairs
namespace Go.Proofs.Ymwhaq.lawS930007QACWhole
open Go.ChangeShapes Go.WideShapes Go.ChangeAt Go.RowKit
open Go.Deep
set_option linter.unusedVariables false

theorem own : ownKnob Yaqv.prog.godebug = none := by kernel_rfl
theorem laidOut : laidOutB Yaqv.prog = true := by kernel_rfl
theorem cells42 : Yaqv.prog.cellsOf 42 = 2 := by kernel_rfl
theorem cells5 : Yaqv.prog.cellsOf 5 = 1 := by kernel_rfl
theorem cells3 : Yaqv.prog.cellsOf 3 = 1 := by kernel_rfl

/-- WHAT THE WALK IS TOLD OF THE SLICE THAT CAME IN: element k's two cells. -/
def IsRow (w : World) (a : Option Addr) (len : Nat) (o : Nat → Nat) (z : Nat → Int) : Prop :=
  ∀ k, k < len → ∃ (b off : Nat), a = some ⟨b, off, none⟩ ∧ b < w.heap.size ∧ o k < 256 ∧ w.cell? ⟨b, off + k * 2, none⟩ = some (.int .u8 (o k : Int)) ∧ w.cell? ⟨b, off + k * 2 + 1, none⟩ = some (.int .i64 (z k)) ∧ -9223372036854775808 ≤ z k ∧ z k ≤ 9223372036854775807

theorem walk (a0 : Option Addr) (len0 cap0 : Nat) (o : Nat → Nat) (z : Nat → Int) (w : World) (w0 : IsRow w a0 len0 o z) :
    Calls Yaqv.prog 5 #[.slice a0 len0 cap0] w fun e w' => e = .returned (.bool true) ∧ Below w.heap.size w w' := by
  by_cases hl : len0 ≤ 1024
  · exact lawC_short a0 len0 cap0 o z w hl w0
  · exact lawC_long a0 len0 cap0 w (by omega)

set_option maxRecDepth 100000 in
theorem lifted (os : Os) (started : os.Started) (H : Type) (enc : TypeId × Value → H) :
    ReturnsInHanded {} Yaqv.checked os 5 .any (Rows.lawS930007QACWholeSpec.pre6 enc Yaqv.prog Yaqv.f5 Rows.lawS930007QACWholeRow.domain false) (Rows.lawS930007QACWholeSpec.post enc Yaqv.prog Yaqv.f5 false true false false) := by
  refine returnsInHanded_of_change (C := Yaqv.checked) own started (by kernel_rfl) Yaqv.func5
    (ChangeSpec.witness6 (enc := enc) (C := Yaqv.checked) false ⟨#[], #[.slice none 0 0], []⟩ 8 (by kernel_rfl) (by kernel_rfl) (by kernel_rfl) (by kernel_rfl)) ?_
  intro W base args ds gs before hval0 hW hcnd _
  have hval : ∀ (j : Nat) t v, Yaqv.f5.params[j]? = some t → args[j]? = some v → Value.okWide Yaqv.prog W .any base t v := hval0
  have hW' := hW
  obtain ⟨p, q, hA0, hV, rfl, hfz, hnd⟩ := hW
  have hA : DataW.TrodAll enc Yaqv.prog W 0 (fun _ => true) true Yaqv.f5.params.toList args.toList ds p := hA0
  rw [Yaqv.params5] at hA hval
  obtain ⟨v0, vs0, d0, ds0, p0, q0, hargs, rfl, rfl, h0, r0⟩ := trodAll_cons hA
  obtain ⟨rfl, rfl, rfl⟩ := trodAll_nil r0
  obtain rfl : args = #[v0] := by cases args; simp_all
  obtain ⟨rfl, rfl⟩ := trodVars_none hV
  obtain ⟨a0, len0, cap0, rfl⟩ := okWide_slice Yaqv.underlying40 (hval 0 40 v0 rfl rfl)
  have k0 := h0
  have lt0 : ∀ x ∈ p0, x.block < W.heap.size := by obtain ⟨m, hm⟩ := k0; exact DataW.trod_lt m _ _ _ hm
  obtain ⟨o, z, w0⟩ : ∃ o z, IsRow W a0 len0 o z := by
    obtain ⟨fuel, hf⟩ := h0
    rcases open_slice_pairs Yaqv.underlying40 Yaqv.underlying42 cells42 rfl rfl cells5 cells3 hf with ⟨hcs, _⟩ | ⟨x, l, c, m, n, V0, V1, D0, D1, P0, P1, hcs, _, hl, hm, hmm, _, hcell⟩
    · simp [Value.cells] at hcs
      obtain ⟨rfl, rfl, rfl⟩ := hcs
      exact ⟨fun _ => 0, fun _ => 0, fun k hk => by omega⟩
    · simp [Value.cells] at hcs
      obtain ⟨rfl, rfl, rfl⟩ := hcs
      simp only [if_true] at hmm
      refine ⟨fun k => (intOf (V0 k)).toNat, fun k => intOf (V1 k), fun k hk => ?_⟩
      obtain ⟨c0, c1, t0, t1⟩ := hcell k (by omega)
      obtain ⟨n0, e0, _, w0⟩ := DataW.trod_int Yaqv.underlying5 t0
      obtain ⟨n1, e1, _, w1⟩ := DataW.trod_int Yaqv.underlying3 t1
      have e0' : V0 k = .int .u8 n0 := by simpa using e0
      have e1' : V1 k = .int .i64 n1 := by simpa using e1
      have b0 := bounds_u8 w0
      have b1 := bounds_i64 w1
      obtain ⟨b, off, spot⟩ := x
      have hspot : spot = none := by
        have h := World.cell?_spot (hcell 0 (by omega)).1
        simpa [Addr.add] using h
      subst hspot
      rw [add_plain] at c0 c1
      refine ⟨b, off, rfl, World.block_lt_of_cell? _ _ c0, ?_, ?_, ?_, ?_, ?_⟩
      · show (intOf (V0 k)).toNat < 256
        rw [e0']; simp only [intOf]; omega
      · show W.cell? _ = some (.int .u8 (((intOf (V0 k)).toNat : Nat) : Int))
        rw [c0, e0']
        have e : (((intOf (Value.int .u8 n0)).toNat : Nat) : Int) = n0 := by simp only [intOf]; omega
        rw [e]
      · show W.cell? _ = some (.int .i64 (intOf (V1 k)))
        rw [Nat.add_assoc, c1, e1']; rfl
      · show _ ≤ intOf (V1 k)
        rw [e1']; exact b1.1
      · show intOf (V1 k) ≤ _
        rw [e1']; exact b1.2
  clear hA0 hval0
  refine (walk a0 len0 cap0 o z W w0).mono fun e W' ⟨he, bel⟩ => ?_
  subst he
  exact ⟨_, rfl, _, _, _, [], _, [], hW', trodAll_mk1 (shut_bool Yaqv.underlying4 _), (trodAll_cons_mk (Below.trod laidOut (by kernel_rfl) (of_decide_eq_true (by kernel_rfl)) k0 bel lt0) trodAll_mk0), rfl, bel.frame _, fun h => by cases h⟩

theorem over : Rows.lawS930007QACWholeRow.holds Yaqv.pinned (OpenSpec.ofChange Rows.lawS930007QACWholeSpec) :=
  OpenClaim.holds_of_wide 5 Yaqv.f5 rfl rfl rfl rfl rfl rfl rfl ⟨rfl, rfl, rfl, rfl, rfl⟩ rfl rfl rfl rfl rfl (by kernel_rfl) Yaqv.func5 (by kernel_rfl)
    (of_decide_eq_true (by kernel_rfl)) (by unfold Func.isWrapper; first | (rw [if_pos (by decide +kernel)]; kernel_rfl) | (rw [if_neg (by decide +kernel)]; exact ⟨rfl, rfl⟩))
    (fun os started H enc _ => lifted os started H enc)

/-- THE STATEMENT -/
theorem proved : Rows.LawS930007QACWholeSaid := over
#print axioms proved
end Go.Proofs.Ymwhaq.lawS930007QACWhole
