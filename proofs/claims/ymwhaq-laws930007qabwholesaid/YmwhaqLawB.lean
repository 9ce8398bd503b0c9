/-
  OWN TEXT. THE WALK OF LawS930007QABWhole (4).
-/
import Derived.Test.YmwhaqNext
import Derived.Test.YmwhaqFrom
import Derived.Test.YmwhaqStateB
import Derived.Deep.CutRange
import Derived.Deep.QuietTactic
import Derived.BigQuiet
import Derived.WalkSmall
namespace Go.Proofs.Ymwhaq
open Go.RowKit

set_option maxHeartbeats 4000000 in
theorem lawB_short (a0 a1 : Option Addr) (len0 cap0 len1 cap1 : Nat) (z0 z1 : Nat → Int) (i : Int) (w : World) (hl0 : len0 ≤ 1024) (hl1 : len1 ≤ 1024) (hi : i ≤ 9223372036854775807)
    (hc0 : Hid (∀ k, k < len0 → ∃ (b off : Nat), a0 = some ⟨b, off, none⟩ ∧ b < w.heap.size ∧ w.cell? ⟨b, off + k, none⟩ = some (.int .i64 (z0 k))))
    (hc1 : Hid (∀ k, k < len1 → ∃ (b off : Nat), a1 = some ⟨b, off, none⟩ ∧ b < w.heap.size ∧ w.cell? ⟨b, off + k, none⟩ = some (.int .i64 (z1 k)))) :
    Calls Yaqv.prog 4 #[.slice a0 len0 cap0, .slice a1 len1 cap1, .int .i64 i] w fun e w' => e = .returned (.bool true) ∧ Below w.heap.size w w' := by
  have hz := zero34
  obtain ⟨B, hB⟩ : ∃ B, w.heap.size = B := ⟨_, rfl⟩
  have hd0 : decide (1024 < (len0 : Int)) = false := decide_eq_false (by omega)
  have hd1 : decide (1024 < (len1 : Int)) = false := decide_eq_false (by omega)
  have hmk := run_make_row' (P := Yaqv.prog) 33 3 (.int .i64 0) 8 Yaqv.underlying33 Yaqv.info3 rfl .i64 .i64 len0 (by omega) (by omega)
  go_enter Yaqv.func4, Yaqv.ntmps4
  go_wp2_with fail
  clear hz hmk
  go_loopw [38] (fun s wr => ∃ k : Nat, k ≤ len0 ∧ s = .int .i64 (k : Nat) ∧ Pre B len0 w wr (fun j => mapN (z0 j) 2048) k) (fun s _ => len0 - (intOf s).toNat)
  case atStart => exact ⟨0, Nat.zero_le _, rfl, Pre.start hB _⟩
  case round =>
    obtain ⟨k, hk, rfl, hpre⟩ := hrel
    by_cases hlt : k < len0
    · obtain ⟨b, off, hao, hbB, hcz⟩ := hc0.out k hlt
      rw [hB] at hbB
      have hcz' : wr.cell? ⟨b, off + k, none⟩ = some (.int .i64 (z0 k)) := (hpre.below.cell (p := ⟨b, off + k, none⟩) hbB).trans hcz
      subst hao
      obtain ⟨t, ht⟩ : ∃ t, mapN (z0 k) 2048 = t := ⟨_, rfl⟩
      have HT : Hid (wrap64 ((IntKind.u64.wrap (z0 k)).tmod 2048) = (t : Int)) := (mapped2048 (z0 k)).trans (congrArg Nat.cast ht)
      have htl : (t : Int) < 2048 := by have := mapN_lt (z0 k) 2048 (by omega); omega
      have htl0 : (0 : Int) ≤ (t : Int) := by omega
      have hpre' := hpre.step (t := t) ht
      have hcm := hpre.ms.cell (i := k) hlt
      have hfm := hpre.ms.frozen k
      have hcp := hpre.row.cell (i := t) (by omega)
      have hfp := hpre.row.frozen t
      clear ht hpre hcz
      go_upto_region 9 with fail
      rw [HT.out]
      go_wp2_with fail
      go_roundw
      case rel => exact ⟨k + 1, by omega, by go_num, hpre'⟩
      case measure => simp [intOf]; omega
    · have hkn : k = len0 := by omega
      subst hkn
      clear hc0
      have hel : ∀ j, j < k → mapN (z0 j) 2048 < 2048 := fun j _ => mapN_lt _ _ (by omega)
      have Hms : Hid (∀ j, j < k → wr.cell? ⟨B + 1, j, none⟩ = some (.int .i64 (mapN (z0 j) 2048 : Nat))) := fun j hj => by
        rw [hpre.ms.cell hj, if_pos hj]
      have Hel : Hid (∀ j, j < k → mapN (z0 j) 2048 ≤ 1048575) := fun j hj => by have := hel j hj; omega
      have Hel2 : Hid (∀ j, j < k → mapN (z0 j) 2048 < 2048) := hel
      clear hel
      go_wp2_with fail
      refine (from_any (B + 2) (B + 1) k k (fun j => mapN (z0 j) 2048) wr hpre.size (by omega) hl0 Hel Hms).mono ?_
      rintro e w1 ⟨rfl, n, f, hb1, hf1, hfr1⟩
      have hst : ∃ pr, St B 34 2048 (B + 2) w w1 pr n f := ⟨_, hb1.mono (by omega), hfr1.rowIs hpre.row (by decide) (by decide), hpre.below.trans (hfr1.below.mono (by omega)), fun j => by rw [hf1 j]; exact inPre_out Hel2.out j⟩
      clear hb1 hf1 hfr1 hpre Hms Hel Hel2
      go_wp2_with fail
      go_loopw [63] (fun s wr => ∃ (k : Nat) (pr : Nat → Bool) (n : Nat) (f : Nat → Nat), k ≤ len1 ∧ s = .int .i64 (k : Nat) ∧ St B 34 2048 (B + 2) w wr pr n f) (fun s _ => len1 - (intOf s).toNat)
      case atStart => obtain ⟨pr, hst⟩ := hst; exact ⟨0, pr, n, f, Nat.zero_le _, rfl, hst⟩
      case round =>
        clear hst n f
        obtain ⟨k1, pr, n, f, hk1, rfl, hst⟩ := hrel
        by_cases hlt1 : k1 < len1
        · obtain ⟨b, off, hao, hbB, hcz⟩ := hc1.out k1 hlt1
          rw [hB] at hbB
          have hcz' : wr.cell? ⟨b, off + k1, none⟩ = some (.int .i64 (z1 k1)) := (hst.below.cell (p := ⟨b, off + k1, none⟩) hbB).trans hcz
          subst hao
          obtain ⟨t, ht⟩ : ∃ t, mapN (z1 k1) 2048 = t := ⟨_, rfl⟩
          have HT : Hid (wrap64 ((IntKind.u64.wrap (z1 k1)).tmod 2048) = (t : Int)) := (mapped2048 (z1 k1)).trans (congrArg Nat.cast ht)
          have htl : (t : Int) < 2048 := by have := mapN_lt (z1 k1) 2048 (by omega); omega
          have htl0 : (0 : Int) ≤ (t : Int) := by omega
          clear ht hcz
          go_upto_region 19 with fail
          rw [HT.out]
          go_wp2_with fail
          refine (clear_any hst.bits _ (by omega)).mono ?_
          rintro e w2 ⟨rfl, n', f', hb', hf', hfr⟩
          have hr := hfr.rowIs hst.row (by decide) (by decide)
          have hcp := hr.cell (i := t) (by omega)
          have hfp := hr.frozen t
          have hst' := hst.clear_then (i := t) (by decide) (by decide) hb' hf' hfr
          clear hb' hf' hfr hr hst
          go_wp2_with fail
          go_roundw
          case rel => exact ⟨k1 + 1, _, _, _, by omega, by go_num, hst'⟩
          case measure => simp [intOf]; omega
        · clear hc1
          obtain ⟨ao, cap, hbox, hown, hrow⟩ := hst.bits.form
          have hbc := cell_of_one hbox
          have hn := hst.bits.2.1.len
          have hmk2 := run_make_row' (P := Yaqv.prog) 25 31 (.int .u64 0) 8 Yaqv.underlying25 Yaqv.info31 rfl .i64 .i64 n (by omega) (by omega)
          have HG := hide_copy_row wr n
          have HPOS := hide_copy_src (B := B) (w := wr) (n := n) (cap := cap) (ao := ao) (f := f) (o := .cells (madeCells #[.int .u64 0] n) 31) hown
          have hbb : B + 2 < wr.heap.size := lt_of_block hbox
          have hB2 : B ≤ wr.heap.size := by have := hst.row.lt; omega
          clear hbox hown hrow
          go_upto_region 23 with fail
          go_wp2_with (refine wpList_copy_splice rfl (.tmp 83) (.tmp 87) 25 25 rfl 31 Yaqv.underlying25 size31 (some ⟨wr.heap.size, 0, none⟩) ao n n n cap rfl rfl wr.heap.size 0 (List.replicate n (.int .u64 0)) 31 HG.out (cellsW f n) (by rw [cellsW_length]; simp) (fun h => ⟨rfl, HPOS.out h⟩) (by rw [cellsW_length]; simp) (cellsW_one f n) wr.heap.size wr ((Below.refl _ _).alloc (Nat.le_refl _) _) (Nat.le_refl _) ?_; intro w3 HG3 hb3)
          have hst3 := hst.keep hB2 hb3
          have Hbef : Hid (∀ j, j < n → w3.cell? ⟨wr.heap.size, j, none⟩ = some (.int .u64 (f j : Int))) := copied HG3
          have hsame : ∀ j, has f j = (decide (j < 2048) && pr j) := hst.same
          obtain ⟨ao3, cap3, hbox3, hown3, _⟩ := hst3.bits.form
          have hbc3 := cell_of_one hbox3
          have Hown3 : Hid (w3.ownsRow B 31 1 (.slice ao3 n cap3) n (cellsW f n)) := hown3
          have Hsame : Hid (∀ j, has f j = (decide (j < 2048) && pr j)) := hsame
          clear HG HPOS HG3 hst hbox3 hown3 hsame hbc hb3 hmk2
          refine (next_any hst3.bits i hi).mono ?_
          rintro e w4 ⟨r, hr, rfl, rfl⟩
          obtain ⟨ga, gk, hres, HA⟩ : ∃ ga gk, nextRes r = .tuple #[.int .i64 ga, .bool gk] ∧ Hid (ga = ansI r ∧ gk = r.isSome) := ⟨_, _, rfl, rfl, rfl⟩
          rw [hres]
          clear hres
          obtain ⟨s, Hs, Hr⟩ : ∃ s : Nat, Hid ((i < 0 ∧ s = 0) ∨ i = (s : Int)) ∧ Hid (isNext (has f) s r) := by
            refine ⟨i.toNat, ?_, hr⟩
            show _ ∨ _
            omega
          clear hr
          rcases Hs.out with ⟨hneg, hs0⟩ | hpos
          focus
            have Hs0 : Hid ((0 : Int) = (s : Int)) := by show _ = _; omega
            clear hs0 Hs
            go_wp2_with fail
          rotate_left
          focus
            subst hpos
            have Hs0 : Hid ((s : Int) = (s : Int)) := rfl
            have hneg : (0 : Int) ≤ (s : Int) := by omega
            clear Hs
            go_wp2_with fail
          rotate_left
          all_goals
            go_loop [21, 22, 23] (fun x y j => ∃ t : Nat, s ≤ t ∧ j = .int .i64 (t : Nat) ∧ x = .int .i64 (-1) ∧ y = .bool false ∧ Hid (∀ m, s ≤ m → m < t → has f m = false)) (fun _ _ j => 2048 - (intOf j).toNat)
            case atStart => exact ⟨s, Nat.le_refl _, by first | rfl | exact congrArg (Value.int .i64) Hs0.out, rfl, rfl, fun m h1 h2 => by omega⟩
            case round =>
              obtain ⟨t, ht1, rfl, rfl, rfl, Ht⟩ := hrel
              have fin : ∀ (k4 : Nat), k4 < n → ∃ g, ao3 = some ⟨g, 0, none⟩ ∧ w4.cell? ⟨g, k4, none⟩ = some (.int .u64 (f k4 : Int)) ∧ w4.cell? ⟨wr.heap.size, k4, none⟩ = some (.int .u64 (f k4 : Int)) := fun k4 hk4 => by
                obtain ⟨g, cur, h1, _, _, _, h2⟩ := raw_form Hown3.out (by omega)
                exact ⟨g, h1, h2 k4 hk4, Hbef.out k4 hk4⟩
              have Fin := (show Hid _ from fin)
              clear fin
              have hways : ((t : Int) < 2048 ∧ pr t = false ∧ Hid (∀ m, s ≤ m → m < t + 1 → has f m = false)) ∨ ((t : Int) < 2048 ∧ pr t = true ∧ ga = (t : Int) ∧ gk = true) ∨ (¬ (t : Int) < 2048 ∧ ga = -1 ∧ gk = false) := by
                by_cases hlt3 : (t : Int) < 2048
                · have h1 := Hsame.out t
                  cases hp : pr t
                  · refine .inl ⟨hlt3, rfl, fun m h2 h3 => ?_⟩
                    by_cases c : m = t
                    · subst c; rw [h1, hp]; simp
                    · exact Ht.out m h2 (by omega)
                  · have h2 : r = some t := isNext_unique Hr.out ⟨ht1, by rw [h1, hp]; simp; omega, Ht.out⟩
                    have h3 := HA.out
                    rw [h2] at h3
                    exact .inr (.inl ⟨hlt3, rfl, h3.1, h3.2⟩)
                · have h2 : r = none := isNext_unique Hr.out (fun m h3 => by
                    by_cases c : m < t
                    · exact Ht.out m h3 c
                    · rw [Hsame.out m]
                      have : ¬ m < 2048 := by omega
                      simp [this])
                  have h3 := HA.out
                  rw [h2] at h3
                  exact .inr (.inr ⟨hlt3, h3.1, h3.2⟩)
              clear Ht
              rcases hways with ⟨hlt3, hp, Ht⟩ | ⟨hlt3, hp, rfl, rfl⟩ | ⟨hlt3, rfl, rfl⟩
              · have hcell := hst3.row.cell (i := t) (by omega)
                rw [hp] at hcell
                have ht0 : (0 : Int) ≤ (t : Int) := by omega
                clear hp
                go_wp2_with fail
                go_round
                case rel => exact ⟨t + 1, by omega, by go_num, rfl, rfl, Ht⟩
                case measure => simp [intOf]; omega
              · have hcell := hst3.row.cell (i := t) (by omega)
                rw [hp] at hcell
                have ht0 : (0 : Int) ≤ (t : Int) := by omega
                clear hp
                go_wp2_with fail
                go_loopw [24] (fun x wv => ∃ k4 nq : Nat, k4 ≤ n ∧ x = .int .i64 (k4 : Nat) ∧ wv = w4.drewN nq) (fun x _ => n - (intOf x).toNat)
                case atStart => exact ⟨0, 0, Nat.zero_le _, rfl, rfl⟩
                case round =>
                  obtain ⟨k4, nq, hk4, rfl, rfl⟩ := hrel
                  by_cases hlt4 : k4 < n
                  · obtain ⟨g, hao3, hw1, hw2⟩ := Fin.out k4 hlt4
                    subst hao3
                    have hk40 : (0 : Int) ≤ (k4 : Int) := by omega
                    have hk4n : (k4 : Int) < (n : Int) := by omega
                    go_wp2_with fail
                    go_quiet (fail)
                    go_wp2_with fail
                    go_roundw
                    case rel => exact ⟨k4 + 1, _, by omega, by go_num, rfl⟩
                    case measure => simp [intOf]; omega
                  · go_wp2_with fail
                    go_ret
                    exact ⟨rfl, by first | exact below_drewN hst3.below _ | (rw [hB]; exact below_drewN hst3.below _)⟩
              · go_wp2_with fail
                go_loopw [24] (fun x wv => ∃ k4 nq : Nat, k4 ≤ n ∧ x = .int .i64 (k4 : Nat) ∧ wv = w4.drewN nq) (fun x _ => n - (intOf x).toNat)
                case atStart => exact ⟨0, 0, Nat.zero_le _, rfl, rfl⟩
                case round =>
                  obtain ⟨k4, nq, hk4, rfl, rfl⟩ := hrel
                  by_cases hlt4 : k4 < n
                  · obtain ⟨g, hao3, hw1, hw2⟩ := Fin.out k4 hlt4
                    subst hao3
                    have hk40 : (0 : Int) ≤ (k4 : Int) := by omega
                    have hk4n : (k4 : Int) < (n : Int) := by omega
                    go_wp2_with fail
                    go_quiet (fail)
                    go_wp2_with fail
                    go_roundw
                    case rel => exact ⟨k4 + 1, _, by omega, by go_num, rfl⟩
                    case measure => simp [intOf]; omega
                  · go_wp2_with fail
                    go_ret
                    exact ⟨rfl, by first | exact below_drewN hst3.below _ | (rw [hB]; exact below_drewN hst3.below _)⟩

set_option maxHeartbeats 400000 in
theorem lawB_long (a0 a1 : Option Addr) (len0 cap0 len1 cap1 : Nat) (i : Int) (w : World) (hl : 1024 < len0 ∨ 1024 < len1) :
    Calls Yaqv.prog 4 #[.slice a0 len0 cap0, .slice a1 len1 cap1, .int .i64 i] w fun e w' => e = .returned (.bool true) ∧ Below w.heap.size w w' := by
  by_cases h0 : (1024 : Int) < (len0 : Int)
  · go_enter Yaqv.func4, Yaqv.ntmps4
    go_wp2_with fail
    go_ret
    exact ⟨rfl, Below.refl _ _⟩
  · have h1 : (1024 : Int) < (len1 : Int) := by omega
    clear hl
    go_enter Yaqv.func4, Yaqv.ntmps4
    go_wp2_with fail
    go_ret
    exact ⟨rfl, Below.refl _ _⟩

end Go.Proofs.Ymwhaq
