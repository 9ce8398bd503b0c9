/-
  OWN TEXT. THE WALKS OF zzs930007qacdel (11) and zzs930007qacins (10): the model's sorted slice.
-/
import Derived.Test.YmwhaqElems
import Derived.Deep.CutRange
namespace Go.Proofs.Ymwhaq
open Go.RowKit

/-- THE MODEL's SLICE: nil, or a row of the call's own. -/
def ModelAt (B : Nat) (w : World) (v : Value) (l : List Nat) : Prop := w.ownsRow B 3 1 v l.length (ints l)

theorem OwnsInts.model {B : Nat} {w : World} {g m cap : Nat} {l : List Nat} (h : OwnsInts B w g m cap l) : ModelAt B w (.slice (some ⟨g, 0, none⟩) m cap) l := by
  obtain ⟨rfl, h⟩ := h
  exact h

theorem ModelAt.form {B : Nat} {w : World} {v : Value} {l : List Nat} (h : ModelAt B w v l) : ∃ ao cap, v = .slice ao l.length cap ∧ (ao = none → l.length = 0 ∧ cap = 0) ∧ l.length ≤ cap ∧
    ∀ (F : Nat → Nat), (∀ j, F j = l.getD j 0) → ∀ j, j < l.length → ∃ g, ao = some ⟨g, 0, none⟩ ∧ g < w.heap.size ∧ w.cell? ⟨g, j, none⟩ = some (.int .i64 (F j : Int)) := by
  rcases h.2 with ⟨rfl, h0⟩ | ⟨g, cap, cur, rfl, hB, hg, hle, _⟩
  · exact ⟨none, 0, by rw [h0], fun _ => ⟨h0, rfl⟩, by omega, fun F _ j hj => by omega⟩
  · refine ⟨_, cap, rfl, fun h => by simp at h, hle, fun F hF j hj => ⟨g, rfl, lt_of_block hg, ?_⟩⟩
    have h' : w.ownsRow B 3 1 (.slice (some ⟨g, 0, none⟩) l.length cap) l.length (ints l) := h
    rw [h'.cellAt j (by omega), ints_get l j hj, hF]

theorem ModelAt.keep {B : Nat} {w w' : World} {v : Value} {l : List Nat} (h : ModelAt B w v l) (hb : Below w.heap.size w w') : ModelAt B w' v l := by
  refine ⟨h.1, ?_⟩
  rcases h.2 with h5 | ⟨g, cap, cur, hv, hB, hg, rest⟩
  · exact .inl h5
  · exact .inr ⟨g, cap, cur, hv, hB, (hb.block g (lt_of_block hg)).trans hg, rest⟩

theorem ModelAt.fr {B B1 : Nat} {w w' : World} {v : Value} {l : List Nat} (h : ModelAt B w v l) (hb : Fr B1 w w') : ModelAt B w' v l := by
  refine ⟨h.1, ?_⟩
  rcases h.2 with h5 | ⟨g, cap, cur, hv, hB, hg, rest⟩
  · exact .inl h5
  · exact .inr ⟨g, cap, cur, hv, hB, (hb.other g _ _ _ hg (by decide) (by decide)).trans hg, rest⟩

theorem ModelAt.mono {B B' : Nat} {w : World} {v : Value} {l : List Nat} (h : ModelAt B' w v l) (hB : B ≤ B') : ModelAt B w v l := by
  refine ⟨h.1, ?_⟩
  rcases h.2 with h5 | ⟨g, cap, cur, hv, hb, rest⟩
  · exact .inl h5
  · exact .inr ⟨g, cap, cur, hv, by omega, rest⟩

set_option maxHeartbeats 800000 in
theorem del_any (ao : Option Addr) (cap : Nat) (l : List Nat) (F : Nat → Nat) (x B0 : Nat) (w : World) (hB0 : w.heap.size = B0) (hl : l.length ≤ 4096) (m : Nat) (HM : Hid (m = l.length))
    (HF : Hid (∀ j, F j = l.getD j 0)) (hc : Hid (∀ j, j < m → ∃ g, ao = some ⟨g, 0, none⟩ ∧ g < w.heap.size ∧ w.cell? ⟨g, j, none⟩ = some (.int .i64 (F j : Int)))) :
    Calls Yaqv.prog 11 #[.slice ao m cap, .int .i64 (x : Int)] w fun e w' => ∃ c, e = .returned (.slice (some ⟨B0, 0, none⟩) c m) ∧ OwnsInts B0 w' B0 c m (delL l x) ∧ Below B0 w w' := by
  obtain ⟨i0, hi0, hz0, hz1, hz2⟩ := info_parts Yaqv.info3
  have hm : m ≤ 4096 := by rw [HM.out]; exact hl
  clear hl
  go_enter Yaqv.func11, Yaqv.ntmps11
  go_wp2_with (at_make; refine wpList_make_own _ rfl _ _ 33 rfl B0 3 i0 (.int .i64 0) 1 Yaqv.underlying33 hi0 hz0 hz1 _ _ _ m rfl rfl rfl (by rw [hz2]; omega) (by unfold maxLen; omega) (by omega) ?_; intro w0 hown0 hgrow0)
  have hbel0 : Below B0 w w0 := (Below.refl _ _).grown hgrow0 (by omega) (fun k h => by cases h)
  have HO : Hid (OwnsInts B0 w0 B0 0 m (delL (l.take 0) x)) := by
    refine ⟨rfl, ?_⟩
    rw [hB0] at hown0
    exact hown0
  clear hown0 hgrow0
  go_loopw [5, 13] (fun v s wr => ∃ k c : Nat, k ≤ m ∧ c ≤ k ∧ s = .int .i64 (k : Nat) ∧ v = .slice (some ⟨B0, 0, none⟩) c m ∧ Hid (OwnsInts B0 wr B0 c m (delL (l.take k) x)) ∧ Below B0 w wr) (fun _ s _ => m - (intOf s).toNat)
  case atStart => exact ⟨0, 0, Nat.zero_le _, Nat.zero_le _, rfl, rfl, HO, hbel0⟩
  case round =>
    clear HO
    obtain ⟨k, c, hk, hck, rfl, rfl, HO, hbel⟩ := hrel
    by_cases hlt : k < m
    · obtain ⟨g, hao, hgB, hcw⟩ := hc.out k hlt
      have hcw' := (hbel.cell (p := ⟨g, k, none⟩) (by rw [← hB0]; exact hgB)).trans hcw
      subst hao
      have hB1 : B0 ≤ wr.heap.size := by have := hbel.size; omega
      by_cases he : F k = x
      · have hne : ((F k : Int) != (x : Int)) = false := by simp [he]
        have HO2 : Hid (OwnsInts B0 wr B0 c m (delL (l.take (k + 1)) x)) := by
          have h1 := delL_take_miss (l := l) (v := x) (k := k) (by rw [← HM.out]; exact hlt) (by rw [← HF.out]; exact he)
          show OwnsInts _ _ _ _ _ _
          rw [h1]
          exact HO.out
        clear he
        go_wp2_with fail
        go_roundw
        case rel => exact ⟨k + 1, c, by omega, by omega, by go_num, rfl, HO2, hbel⟩
        case measure => simp [intOf]; omega
      · have hne : ((F k : Int) != (x : Int)) = true := by rw [bne_iff_ne]; omega
        have H1 : Hid (delL (l.take (k + 1)) x = delL (l.take k) x ++ [F k]) := by
          have h1 := delL_take_hit (l := l) (v := x) (k := k) (by rw [← HM.out]; exact hlt) (by rw [← HF.out]; exact he)
          rw [← HF.out] at h1
          exact h1
        have Hrw : Hid ((wr.alloc (.cells #[.int .i64 (F k : Int)] 3)).ownsRow B0 3 1 (.slice (some ⟨B0, 0, none⟩) c m) c (ints (delL (l.take k) x))) := HO.out.2.alloc _
        clear he
        go_wp2_with (at_builtin; refine wpList_append_fits _ rfl (.tmp 20) (.tmp 22) 33 rfl B0 3 i0 1 Yaqv.underlying33 hi0 hz1 B0 c m (ints (delL (l.take k) x)) rfl Hrw.out ⟨wr.heap.size, 0, none⟩ 1 1 [.int .i64 (F k : Int)] rfl rfl (cell_one_new _ _ _) (by simp [Value.oneCell']) (by omega) ?_; intro w3 hown3 hgrow3; have Ho3 := (show Hid _ from hown3); have Hg3 := (show Hid _ from hgrow3); clear hown3 hgrow3)
        go_roundw
        case rel =>
          refine ⟨k + 1, c + 1, by omega, by omega, by go_num, rfl, OwnsInts.push HO.out.1 (x := F k) Ho3.out H1.out, ?_⟩
          exact (hbel.alloc hB1 _).grown Hg3.out (by simp; omega) (fun q hq => by cases hq; exact Nat.le_refl _)
        case measure => simp [intOf]; omega
    · have hkm : k = m := by omega
      have HO2 : Hid (OwnsInts B0 wr B0 c m (delL l x)) := by
        have := HO.out
        rw [hkm, HM.out, List.take_length, ← HM.out] at this
        exact this
      clear HO hkm
      go_wp2_with fail
      go_ret
      exact ⟨c, rfl, HO2.out, hbel⟩

theorem src_take {w : World} {g m : Nat} {l : List Nat} {F : Nat → Nat} (hm : m = l.length) (hF : ∀ j, F j = l.getD j 0) (hc : ∀ j, j < m → w.cell? ⟨g, j, none⟩ = some (.int .i64 (F j : Int))) (p : Nat) :
    ∀ j u, (ints (l.take p))[j]? = some u → w.cell? ((⟨g, 0, none⟩ : Addr).add j) = some u := by
  intro j u hu
  have hj := (List.getElem?_eq_some_iff.1 hu).1
  rw [ints_length, List.length_take] at hj
  rw [ints_get _ _ (by rw [List.length_take]; exact hj)] at hu
  rw [WideShapes.add_plain, Nat.zero_add, hc j (by omega), hF]
  have e : (l.take p).getD j 0 = l.getD j 0 := by
    rw [List.getD_eq_getElem?_getD, List.getD_eq_getElem?_getD, List.getElem?_take, if_pos (by omega)]
  rw [← e]
  exact hu

theorem src_drop {w : World} {g m : Nat} {l : List Nat} {F : Nat → Nat} (hm : m = l.length) (hF : ∀ j, F j = l.getD j 0) (hc : ∀ j, j < m → w.cell? ⟨g, j, none⟩ = some (.int .i64 (F j : Int))) (p : Nat) :
    ∀ j u, (ints (l.drop p))[j]? = some u → w.cell? ((⟨g, p, none⟩ : Addr).add j) = some u := by
  intro j u hu
  have hj := (List.getElem?_eq_some_iff.1 hu).1
  rw [ints_length, List.length_drop] at hj
  rw [ints_get _ _ (by rw [List.length_drop]; exact hj)] at hu
  rw [WideShapes.add_plain, hc (p + j) (by omega), hF]
  have e : (l.drop p).getD j 0 = l.getD (p + j) 0 := by
    rw [List.getD_eq_getElem?_getD, List.getD_eq_getElem?_getD, List.getElem?_drop]
  rw [← e]
  exact hu

theorem ins_done {B : Nat} {w : World} {g m p x : Nat} {l l' : List Nat} (hl : l' = l.take p ++ x :: l.drop p) (hp : p ≤ m) (hm : m = l.length)
    (h : w.ownsRow B 3 1 (.slice (some ⟨g, 0, none⟩) (p + 1 + (m - p)) (m + 1)) (p + 1 + (m - p)) (ints (l.take p) ++ [.int .i64 (x : Int)] ++ ints (l.drop p))) : OwnsInts B w g (m + 1) (m + 1) l' := by
  have e : p + 1 + (m - p) = m + 1 := by omega
  rw [e] at h
  refine ⟨?_, ?_⟩
  · rw [hl]; simp; omega
  · rw [hl, ints_append]
    have e2 : ints (x :: l.drop p) = [.int .i64 (x : Int)] ++ ints (l.drop p) := rfl
    rw [e2, ← List.append_assoc]
    exact h

set_option maxHeartbeats 1600000 in
theorem ins_some (g cap : Nat) (l : List Nat) (F : Nat → Nat) (x B0 : Nat) (w : World) (hB0 : w.heap.size = B0) (hg : g < B0) (hl : l.length ≤ 4096) (m : Nat) (HM : Hid (m = l.length)) (hmc : m ≤ cap)
    (HF : Hid (∀ j, F j = l.getD j 0)) (hc : Hid (∀ j, j < m → w.cell? ⟨g, j, none⟩ = some (.int .i64 (F j : Int)))) :
    Calls Yaqv.prog 10 #[.slice (some ⟨g, 0, none⟩) m cap, .int .i64 (x : Int)] w fun e w' => (e = .returned (.slice (some ⟨g, 0, none⟩) m cap) ∧ insL l x = l ∧ w' = w) ∨
      (e = .returned (.slice (some ⟨B0, 0, none⟩) (m + 1) (m + 1)) ∧ OwnsInts B0 w' B0 (m + 1) (m + 1) (insL l x) ∧ Below B0 w w') := by
  obtain ⟨i0, hi0, hz0, hz1, hz2⟩ := info_parts Yaqv.info3
  have hm : m ≤ 4096 := by rw [HM.out]; exact hl
  clear hl
  go_enter Yaqv.func10, Yaqv.ntmps10
  go_wp2_with fail
  go_loop [5] (fun s => ∃ p : Nat, p ≤ m ∧ s = .int .i64 (p : Nat) ∧ Hid (∀ j, j < p → F j < x)) (fun s => m - (intOf s).toNat)
  case atStart => exact ⟨0, Nat.zero_le _, rfl, fun j h => by omega⟩
  case round =>
    obtain ⟨p, hp, rfl, HP⟩ := hrel
    have hways : (p < m ∧ F p < x) ∨ (p < m ∧ F p = x) ∨ (p < m ∧ x < F p) ∨ p = m := by omega
    rcases hways with ⟨hlt, hf⟩ | ⟨hlt, hf⟩ | ⟨hlt, hf⟩ | hpm
    · have hcp := hc.out p hlt
      have hf' : (F p : Int) < (x : Int) := by omega
      have HP' : Hid (∀ j, j < p + 1 → F j < x) := fun j hj => by
        by_cases e : j = p
        · subst e; exact hf
        · exact HP.out j (by omega)
      clear hf
      go_wp2_with fail
      go_round
      case rel => exact ⟨p + 1, by omega, by go_num, HP'⟩
      case measure => simp [intOf]; omega
    · have hcp := hc.out p hlt
      have hf' : ¬ (F p : Int) < (x : Int) := by omega
      have hf2 : ((F p : Int) == (x : Int)) = true := by simp [hf]
      have HS : Hid (insL l x = l) := insL_same l x p (by rw [← HM.out]; exact hlt) (fun j hj => by rw [← HF.out]; exact HP.out j hj) (by rw [← HF.out]; exact hf)
      clear hf
      go_wp2_with fail
      go_ret
      exact .inl ⟨rfl, HS.out, rfl⟩
    · have hcp := hc.out p hlt
      have hf' : ¬ (F p : Int) < (x : Int) := by omega
      have hf2 : ((F p : Int) == (x : Int)) = false := by rw [beq_eq_false_iff_ne]; omega
      have HS : Hid (insL l x = l.take p ++ x :: l.drop p) := insL_at l x p (by rw [← HM.out]; exact hp) (fun j hj => by rw [← HF.out]; exact HP.out j hj) (.inr (by rw [← HF.out]; exact hf))
      clear hf
      go_upto_region 7 with (at_make; refine wpList_make_own _ rfl _ _ 33 rfl B0 3 i0 (.int .i64 0) 1 Yaqv.underlying33 hi0 hz0 hz1 _ _ _ (m + 1) rfl rfl (by omega) (by rw [hz2]; omega) (by unfold maxLen; omega) (by omega) ?_; intro w0 hown0 hgrow0)
      have hbel0 : Below B0 w w0 := (Below.refl _ _).grown hgrow0 (by omega) (fun k h => by cases h)
      have HO0 : Hid (w0.ownsRow B0 3 1 (.slice (some ⟨B0, 0, none⟩) 0 (m + 1)) 0 []) := by
        rw [hB0] at hown0
        exact hown0
      have HC0 : Hid (∀ j u, (ints (l.take p))[j]? = some u → w0.cell? ((⟨g, 0, none⟩ : Addr).add j) = some u) := src_take HM.out HF.out (fun j hj => (hbel0.cell (p := ⟨g, j, none⟩) hg).trans (hc.out j hj)) p
      have HL0 : Hid ((ints (l.take p)).length = p * 1) := by
        show _ = _
        rw [ints_length, List.length_take, ← HM.out]; omega
      clear hown0 hgrow0
      go_upto_region 8 with (at_builtin; refine wpList_append_fits _ rfl (.tmp 38) (.tmp 41) 33 rfl B0 3 i0 1 Yaqv.underlying33 hi0 hz1 B0 0 (m + 1) [] rfl HO0.out ⟨g, 0, none⟩ p cap (ints (l.take p)) rfl HL0.out HC0.out (ints_one' _) (by omega) ?_; intro w1 hown1 hgrow1)
      have hbel1 : Below B0 w w1 := hbel0.grown hgrow1 (by have := hbel0.size; omega) (fun k h => by cases h; exact Nat.le_refl _)
      have HO1 : Hid ((w1.alloc (.cells #[.int .i64 (x : Int)] 3)).ownsRow B0 3 1 (.slice (some ⟨B0, 0, none⟩) p (m + 1)) p (ints (l.take p))) := by
        have h := hown1.alloc (.cells #[.int .i64 (x : Int)] 3)
        rw [Nat.zero_add, List.nil_append] at h
        exact h
      clear hown1 hgrow1 HO0 HC0
      go_upto_region 9 with (at_builtin; refine wpList_append_fits _ rfl (.tmp 43) (.tmp 45) 33 rfl B0 3 i0 1 Yaqv.underlying33 hi0 hz1 B0 p (m + 1) (ints (l.take p)) rfl HO1.out ⟨w1.heap.size, 0, none⟩ 1 1 [.int .i64 (x : Int)] rfl rfl (cell_one_new _ _ _) (by simp [Value.oneCell']) (by omega) ?_; intro w2 hown2 hgrow2)
      have hbel2 : Below B0 w w2 := (hbel1.alloc (by have := hbel1.size; omega) _).grown hgrow2 (by simp; have := hbel1.size; omega) (fun k h => by cases h; exact Nat.le_refl _)
      have HO2 : Hid (w2.ownsRow B0 3 1 (.slice (some ⟨B0, 0, none⟩) (p + 1) (m + 1)) (p + 1) (ints (l.take p) ++ [.int .i64 (x : Int)])) := hown2
      have HC2 : Hid (∀ j, j < m → w2.cell? ⟨g, j, none⟩ = some (.int .i64 (F j : Int))) := fun j hj => (hbel2.cell (p := ⟨g, j, none⟩) hg).trans (hc.out j hj)
      clear hown2 hgrow2 HO1
      have HL2 : Hid ((ints (l.drop p)).length = (m - p) * 1) := by
        show _ = _
        rw [ints_length, List.length_drop, ← HM.out]; omega
      have HC3 : Hid (∀ j u, (ints (l.drop p))[j]? = some u → w2.cell? ((⟨g, p, none⟩ : Addr).add j) = some u) := src_drop HM.out HF.out HC2.out p
      go_wp2_with (at_builtin; refine wpList_append_fits_any _ rfl (.tmp 47) (.tmp 50) 33 rfl B0 3 i0 1 Yaqv.underlying33 hi0 hz1 B0 (p + 1) (m + 1) (ints (l.take p) ++ [.int .i64 (x : Int)]) rfl HO2.out (some ⟨g, p, none⟩) (m - p) _ (ints (l.drop p)) rfl HL2.out (fun h => by cases h) (fun ad had => by cases had; exact HC3.out) (ints_one' _) (by omega) ?_; intro w3 hown3 hgrow3)
      go_ret
      refine .inr ⟨?_, ins_done HS.out hp HM.out hown3, hbel2.grown hgrow3 (by have := hbel2.size; omega) (fun k h => by cases h; exact Nat.le_refl _)⟩
      exact ret_slice (by omega)
    · have hnlt : ¬ p < m := by omega
      have HS : Hid (insL l x = l.take p ++ x :: l.drop p) := insL_at l x p (by rw [← HM.out]; exact hp) (fun j hj => by rw [← HF.out]; exact HP.out j hj) (.inl (by rw [← HM.out]; exact hpm))
      have HE : Hid (l.drop p = []) := List.drop_eq_nil_of_le (by rw [← HM.out]; omega)
      clear hpm
      go_upto_region 7 with (at_make; refine wpList_make_own _ rfl _ _ 33 rfl B0 3 i0 (.int .i64 0) 1 Yaqv.underlying33 hi0 hz0 hz1 _ _ _ (m + 1) rfl rfl (by omega) (by rw [hz2]; omega) (by unfold maxLen; omega) (by omega) ?_; intro w0 hown0 hgrow0)
      have hbel0 : Below B0 w w0 := (Below.refl _ _).grown hgrow0 (by omega) (fun k h => by cases h)
      have HO0 : Hid (w0.ownsRow B0 3 1 (.slice (some ⟨B0, 0, none⟩) 0 (m + 1)) 0 []) := by
        rw [hB0] at hown0
        exact hown0
      have HC0 : Hid (∀ j u, (ints (l.take p))[j]? = some u → w0.cell? ((⟨g, 0, none⟩ : Addr).add j) = some u) := src_take HM.out HF.out (fun j hj => (hbel0.cell (p := ⟨g, j, none⟩) hg).trans (hc.out j hj)) p
      have HL0 : Hid ((ints (l.take p)).length = p * 1) := by
        show _ = _
        rw [ints_length, List.length_take, ← HM.out]; omega
      clear hown0 hgrow0
      go_upto_region 8 with (at_builtin; refine wpList_append_fits _ rfl (.tmp 38) (.tmp 41) 33 rfl B0 3 i0 1 Yaqv.underlying33 hi0 hz1 B0 0 (m + 1) [] rfl HO0.out ⟨g, 0, none⟩ p cap (ints (l.take p)) rfl HL0.out HC0.out (ints_one' _) (by omega) ?_; intro w1 hown1 hgrow1)
      have hbel1 : Below B0 w w1 := hbel0.grown hgrow1 (by have := hbel0.size; omega) (fun k h => by cases h; exact Nat.le_refl _)
      have HO1 : Hid ((w1.alloc (.cells #[.int .i64 (x : Int)] 3)).ownsRow B0 3 1 (.slice (some ⟨B0, 0, none⟩) p (m + 1)) p (ints (l.take p))) := by
        have h := hown1.alloc (.cells #[.int .i64 (x : Int)] 3)
        rw [Nat.zero_add, List.nil_append] at h
        exact h
      clear hown1 hgrow1 HO0 HC0
      go_upto_region 9 with (at_builtin; refine wpList_append_fits _ rfl (.tmp 43) (.tmp 45) 33 rfl B0 3 i0 1 Yaqv.underlying33 hi0 hz1 B0 p (m + 1) (ints (l.take p)) rfl HO1.out ⟨w1.heap.size, 0, none⟩ 1 1 [.int .i64 (x : Int)] rfl rfl (cell_one_new _ _ _) (by simp [Value.oneCell']) (by omega) ?_; intro w2 hown2 hgrow2)
      have hbel2 : Below B0 w w2 := (hbel1.alloc (by have := hbel1.size; omega) _).grown hgrow2 (by simp; have := hbel1.size; omega) (fun k h => by cases h; exact Nat.le_refl _)
      have HO2 : Hid (w2.ownsRow B0 3 1 (.slice (some ⟨B0, 0, none⟩) (p + 1) (m + 1)) (p + 1) (ints (l.take p) ++ [.int .i64 (x : Int)])) := hown2
      have HC2 : Hid (∀ j, j < m → w2.cell? ⟨g, j, none⟩ = some (.int .i64 (F j : Int))) := fun j hj => (hbel2.cell (p := ⟨g, j, none⟩) hg).trans (hc.out j hj)
      clear hown2 hgrow2 HO1
      have HL2 : Hid ((ints (l.drop p)).length = (m - p) * 1) := by
        show _ = _
        rw [ints_length, List.length_drop, ← HM.out]; omega
      have HC3 : Hid (∀ (ad : Addr) j u, (ints (l.drop p))[j]? = some u → w2.cell? (ad.add j) = some u) := by
        intro ad j u hu
        rw [HE.out] at hu
        simp [ints] at hu
      have hcase : cap = p ∨ p < cap := by omega
      rcases hcase with hcp | hcp
      · have hcp' : ¬ p < cap := by omega
        go_wp2_with (at_builtin; refine wpList_append_fits_any _ rfl (.tmp 47) (.tmp 50) 33 rfl B0 3 i0 1 Yaqv.underlying33 hi0 hz1 B0 (p + 1) (m + 1) (ints (l.take p) ++ [.int .i64 (x : Int)]) rfl HO2.out (some ⟨g, 0, none⟩) (m - p) _ (ints (l.drop p)) rfl HL2.out (fun h => by cases h) (fun ad had => by cases had; exact HC3.out _) (ints_one' _) (by omega) ?_; intro w3 hown3 hgrow3)
        go_ret
        refine .inr ⟨?_, ins_done HS.out hp HM.out hown3, hbel2.grown hgrow3 (by have := hbel2.size; omega) (fun k h => by cases h; exact Nat.le_refl _)⟩
        exact ret_slice (by omega)
      · go_wp2_with (at_builtin; refine wpList_append_fits_any _ rfl (.tmp 47) (.tmp 50) 33 rfl B0 3 i0 1 Yaqv.underlying33 hi0 hz1 B0 (p + 1) (m + 1) (ints (l.take p) ++ [.int .i64 (x : Int)]) rfl HO2.out (some ⟨g, p, none⟩) (m - p) _ (ints (l.drop p)) rfl HL2.out (fun h => by cases h) (fun ad had => by cases had; exact HC3.out _) (ints_one' _) (by omega) ?_; intro w3 hown3 hgrow3)
        go_ret
        refine .inr ⟨?_, ins_done HS.out hp HM.out hown3, hbel2.grown hgrow3 (by have := hbel2.size; omega) (fun k h => by cases h; exact Nat.le_refl _)⟩
        exact ret_slice (by omega)

set_option maxHeartbeats 800000 in
theorem ins_nil (x B0 : Nat) (w : World) (hB0 : w.heap.size = B0) :
    Calls Yaqv.prog 10 #[.slice none 0 0, .int .i64 (x : Int)] w fun e w' => e = .returned (.slice (some ⟨B0, 0, none⟩) 1 1) ∧ OwnsInts B0 w' B0 1 1 [x] ∧ Below B0 w w' := by
  obtain ⟨i0, hi0, hz0, hz1, hz2⟩ := info_parts Yaqv.info3
  go_enter Yaqv.func10, Yaqv.ntmps10
  go_wp2_with fail
  refine wp_loop_rounds 1 ?_
  rw [rounds_succ]
  go_upto_region 7 with (at_make; refine wpList_make_own _ rfl _ _ 33 rfl B0 3 i0 (.int .i64 0) 1 Yaqv.underlying33 hi0 hz0 hz1 _ _ _ 1 rfl rfl (by omega) (by rw [hz2]; omega) (by unfold maxLen; omega) (by omega) ?_; intro w0 hown0 hgrow0)
  have hbel0 : Below B0 w w0 := (Below.refl _ _).grown hgrow0 (by omega) (fun k h => by cases h)
  have HO0 : Hid (w0.ownsRow B0 3 1 (.slice (some ⟨B0, 0, none⟩) 0 1) 0 []) := by
    rw [hB0] at hown0
    exact hown0
  clear hown0 hgrow0
  go_upto_region 8 with (at_builtin; refine wpList_append_fits_any _ rfl (.tmp 38) (.tmp 41) 33 rfl B0 3 i0 1 Yaqv.underlying33 hi0 hz1 B0 0 1 [] rfl HO0.out none 0 0 [] rfl rfl (fun _ => ⟨rfl, rfl⟩) (fun ad had => by cases had) (fun u hu => by cases hu) (by omega) ?_; intro w1 hown1 hgrow1)
  have hbel1 : Below B0 w w1 := hbel0.grown hgrow1 (by have := hbel0.size; omega) (fun k h => by cases h; exact Nat.le_refl _)
  have HO1 : Hid ((w1.alloc (.cells #[.int .i64 (x : Int)] 3)).ownsRow B0 3 1 (.slice (some ⟨B0, 0, none⟩) 0 1) 0 []) := hown1.alloc (.cells #[.int .i64 (x : Int)] 3)
  clear hown1 hgrow1 HO0
  go_upto_region 9 with (at_builtin; refine wpList_append_fits _ rfl (.tmp 43) (.tmp 45) 33 rfl B0 3 i0 1 Yaqv.underlying33 hi0 hz1 B0 0 1 [] rfl HO1.out ⟨w1.heap.size, 0, none⟩ 1 1 [.int .i64 (x : Int)] rfl rfl (cell_one_new _ _ _) (by simp [Value.oneCell']) (by omega) ?_; intro w2 hown2 hgrow2)
  have hbel2 : Below B0 w w2 := (hbel1.alloc (by have := hbel1.size; omega) _).grown hgrow2 (by simp; have := hbel1.size; omega) (fun k h => by cases h; exact Nat.le_refl _)
  have HO2 : Hid (w2.ownsRow B0 3 1 (.slice (some ⟨B0, 0, none⟩) 1 1) 1 [.int .i64 (x : Int)]) := hown2
  clear hown2 hgrow2 HO1
  go_wp2_with (at_builtin; refine wpList_append_fits_any _ rfl (.tmp 47) (.tmp 50) 33 rfl B0 3 i0 1 Yaqv.underlying33 hi0 hz1 B0 1 1 [.int .i64 (x : Int)] rfl HO2.out none 0 0 [] rfl rfl (fun _ => ⟨rfl, rfl⟩) (fun ad had => by cases had) (fun u hu => by cases hu) (by omega) ?_; intro w3 hown3 hgrow3)
  go_ret
  exact ⟨rfl, ⟨rfl, hown3⟩, hbel2.grown hgrow3 (by have := hbel2.size; omega) (fun k h => by cases h; exact Nat.le_refl _)⟩

/-- THE CONTRACT OF zzs930007qacins. -/
theorem ins_any {B : Nat} {w : World} {v : Value} {l : List Nat} (h : ModelAt B w v l) (hB : B ≤ w.heap.size) (x : Nat) (hl : l.length ≤ 4096) :
    Calls Yaqv.prog 10 #[v, .int .i64 (x : Int)] w fun e w' => ∃ v', e = .returned v' ∧ ModelAt B w' v' (insL l x) ∧ Below w.heap.size w w' := by
  rcases h.2 with ⟨rfl, h0⟩ | ⟨g, cap, cur, rfl, _, hg, hle, _⟩
  · have hnil : l = [] := List.eq_nil_of_length_eq_zero h0
    subst hnil
    refine (ins_nil x _ w rfl).mono ?_
    rintro e w' ⟨rfl, h1, h2⟩
    exact ⟨_, rfl, h1.model.mono hB, h2⟩
  · have h' : w.ownsRow B 3 1 (.slice (some ⟨g, 0, none⟩) l.length cap) l.length (ints l) := h
    refine (ins_some g cap l (fun j => l.getD j 0) x _ w rfl (lt_of_block hg) hl _ rfl hle (fun _ => rfl) (fun j hj => ?_)).mono ?_
    · rw [h'.cellAt j (by omega), ints_get l j hj]
    · rintro e w' (⟨rfl, h1, rfl⟩ | ⟨rfl, h1, h2⟩)
      · exact ⟨_, rfl, by rw [h1]; exact h, Below.refl _ _⟩
      · exact ⟨_, rfl, h1.model.mono hB, h2⟩

/-- THE CONTRACT OF zzs930007qacdel. -/
theorem del_model {B : Nat} {w : World} {v : Value} {l : List Nat} (h : ModelAt B w v l) (hB : B ≤ w.heap.size) (x : Nat) (hl : l.length ≤ 4096) :
    Calls Yaqv.prog 11 #[v, .int .i64 (x : Int)] w fun e w' => ∃ v', e = .returned v' ∧ ModelAt B w' v' (delL l x) ∧ Below w.heap.size w w' := by
  obtain ⟨ao, cap, rfl, _, _, hc⟩ := h.form
  refine (del_any ao cap l (fun j => l.getD j 0) x _ w rfl hl _ rfl (fun _ => rfl) (hc _ fun _ => rfl)).mono ?_
  rintro e w' ⟨c, rfl, h1, h2⟩
  exact ⟨_, rfl, h1.model.mono hB, h2⟩

end Go.Proofs.Ymwhaq
