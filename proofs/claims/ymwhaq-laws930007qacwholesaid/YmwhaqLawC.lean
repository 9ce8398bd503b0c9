/-
  OWN TEXT. THE WALK OF LawS930007QACWhole (5).
-/
import Derived.Test.YmwhaqModel
import Derived.Test.YmwhaqStateB
import Derived.Test.YmwhaqFrom
import Derived.Deep.QuietTactic
import Derived.BigQuiet
import Derived.WalkSmall
namespace Go.Proofs.Ymwhaq
open Go.RowKit

/-- THE STATE OF THE LOOP: the set, and the model: the set's elements in order. -/
structure StC (B bb : Nat) (w wr : World) (v : Value) (n : Nat) (f : Nat → Nat) (l : List Nat) : Prop where
  bits : BitsAt B wr bb n f
  model : ModelAt B wr v l
  below : Below B w wr
  sorted : l.Pairwise (· < ·)
  same : ∀ j, j ∈ l ↔ has f j = true

theorem mapped20 (a : Int) : wrap64 ((IntKind.u64.wrap a).tmod 1048576) = (mapN a 1048576 : Int) := mapN_eq a 1048576 (by omega) (by omega)

theorem StC.alloc {B bb : Nat} {w wr : World} {v : Value} {n : Nat} {f : Nat → Nat} {l : List Nat} (h : StC B bb w wr v n f l) (o : Obj) : StC B bb w (wr.alloc o) v n f l := by
  have hb : Below wr.heap.size wr (wr.alloc o) := (Below.refl _ _).alloc (Nat.le_refl _) o
  have hlt := h.bits.raw.lt
  have hB := h.bits.1
  exact ⟨h.bits.keep hb, h.model.keep hb, h.below.trans (hb.mono (by omega)), h.sorted, h.same⟩

theorem StC.size {B bb : Nat} {w wr : World} {v : Value} {n : Nat} {f : Nat → Nat} {l : List Nat} (h : StC B bb w wr v n f l) : B ≤ wr.heap.size := by
  have hlt := h.bits.raw.lt
  have hB := h.bits.1
  omega

theorem StC.set {B bb : Nat} {w wr w1 w2 : World} {v v' : Value} {n n' x : Nat} {f f' : Nat → Nat} {l : List Nat} {e : Int} (h : StC B bb w wr v n f l) (hb : BitsAt B w1 bb n' f') (hf : ∀ j : Nat, has f' j = (has f j || decide ((j : Int) = e))) (he : e = (x : Int)) (hfr : Fr B wr w1)
    (hm : ModelAt B w2 v' (insL l x)) (hb2 : Below w1.heap.size w1 w2) : StC B bb w w2 v' n' f' (insL l x) := by
  have hlt := hb.raw.lt
  have hB := hb.1
  refine ⟨hb.keep hb2, hm, (h.below.trans hfr.below).trans (hb2.mono (by omega)), insL_sorted l x h.sorted, fun j => ?_⟩
  rw [mem_insL, hf, h.same, Bool.or_eq_true, decide_eq_true_iff]
  subst he
  constructor
  · rintro (rfl | h1)
    · exact .inr rfl
    · exact .inl h1
  · rintro (h1 | h1)
    · exact .inr h1
    · exact .inl (by omega)

theorem StC.clear {B bb : Nat} {w wr w1 w2 : World} {v v' : Value} {n n' x : Nat} {f f' : Nat → Nat} {l : List Nat} {e : Int} (h : StC B bb w wr v n f l) (hb : BitsAt B w1 bb n' f') (hf : ∀ j : Nat, has f' j = (has f j && !decide ((j : Int) = e))) (he : e = (x : Int)) (hfr : Fr B wr w1)
    (hm : ModelAt B w2 v' (delL l x)) (hb2 : Below w1.heap.size w1 w2) : StC B bb w w2 v' n' f' (delL l x) := by
  have hlt := hb.raw.lt
  have hB := hb.1
  refine ⟨hb.keep hb2, hm, (h.below.trans hfr.below).trans (hb2.mono (by omega)), delL_sorted x h.sorted, fun j => ?_⟩
  rw [mem_delL, hf, h.same, Bool.and_eq_true, Bool.not_eq_true', decide_eq_false_iff_not]
  subst he
  constructor
  · rintro ⟨h1, h2⟩
    exact ⟨h1, by omega⟩
  · rintro ⟨h1, h2⟩
    exact ⟨h1, by omega⟩

/-- The block of the step, behind a call on the set. -/
theorem op_kept {B : Nat} {w w1 : World} {x y : Value} (hfr : Fr B (w.alloc (.cells #[x, y] 42)) w1) : w1.heap[w.heap.size]? = some (.cells #[x, y] 42 (0, 0)) :=
  (hfr.other _ _ _ _ (heap_alloc_new w _) (by decide) (by decide)).trans (heap_alloc_new w _)

theorem op_cell {w w1 : World} {x y : Value} (h : w1.heap[w.heap.size]? = some (.cells #[x, y] 42 (0, 0))) : w1.cell? ⟨w.heap.size, 1, none⟩ = some y := by simp [World.cell?, h]

theorem ins_int {B : Nat} {w : World} {v : Value} {l : List Nat} (h : ModelAt B w v l) (hB : B ≤ w.heap.size) (x : Int) (hx : 0 ≤ x) (hl : l.length ≤ 4096) :
    Calls Yaqv.prog 10 #[v, .int .i64 x] w fun e w' => ∃ v', e = .returned v' ∧ ModelAt B w' v' (insL l x.toNat) ∧ Below w.heap.size w w' := by
  obtain ⟨x, rfl⟩ := Int.eq_ofNat_of_zero_le hx
  rw [Int.toNat_natCast]
  exact ins_any h hB x hl

set_option maxHeartbeats 4000000 in
theorem lawC_short (a0 : Option Addr) (len0 cap0 : Nat) (o : Nat → Nat) (a : Nat → Int) (w : World) (hl0 : len0 ≤ 1024)
    (hc0 : Hid (∀ k, k < len0 → ∃ (b off : Nat), a0 = some ⟨b, off, none⟩ ∧ b < w.heap.size ∧ o k < 256 ∧ w.cell? ⟨b, off + k * 2, none⟩ = some (.int .u8 (o k : Int)) ∧ w.cell? ⟨b, off + k * 2 + 1, none⟩ = some (.int .i64 (a k)) ∧ -9223372036854775808 ≤ a k ∧ a k ≤ 9223372036854775807)) :
    Calls Yaqv.prog 5 #[.slice a0 len0 cap0] w fun e w' => e = .returned (.bool true) ∧ Below w.heap.size w w' := by
  obtain ⟨B, hB⟩ : ∃ B, w.heap.size = B := ⟨_, rfl⟩
  have hd0 : decide (1024 < (len0 : Int)) = false := decide_eq_false (by omega)
  go_enter Yaqv.func5, Yaqv.ntmps5
  go_wp2_with fail
  go_loopw [4, 19] (fun v s wr => ∃ (k n : Nat) (f : Nat → Nat) (l : List Nat), k ≤ len0 ∧ l.length ≤ k ∧ s = .int .i64 (k : Nat) ∧ StC B B w wr v n f l) (fun _ s _ => len0 - (intOf s).toNat)
  case atStart =>
    refine ⟨0, 0, fun _ => 0, [], Nat.zero_le _, Nat.zero_le _, rfl, ?_, World.ownsRow_nil _ _ _ _, ?_, List.Pairwise.nil, fun j => by simp [has_empty]⟩
    · subst hB; exact bits_new w
    · exact (Below.refl _ _).alloc (by omega) _
  case round =>
    obtain ⟨k, n, f, l, hk, hlk, rfl, hst⟩ := hrel
    by_cases hlt : k < len0
    · obtain ⟨b, off, hao, hbB, ho, hco, hca, ha1, ha2⟩ := hc0.out k hlt
      rw [hB] at hbB
      have hco' : wr.cell? ⟨b, off + k * 2, none⟩ = some (.int .u8 (o k : Int)) := (hst.below.cell (p := ⟨b, off + k * 2, none⟩) hbB).trans hco
      have hca' : wr.cell? ⟨b, off + k * 2 + 1, none⟩ = some (.int .i64 (a k)) := (hst.below.cell (p := ⟨b, off + k * 2 + 1, none⟩) hbB).trans hca
      subst hao
      obtain ⟨t, ht⟩ : ∃ t, mapN (a k) 1048576 = t := ⟨_, rfl⟩
      have HT : Hid (wrap64 ((IntKind.u64.wrap (a k)).tmod 1048576) = (t : Int)) := (mapped20 (a k)).trans (congrArg Nat.cast ht)
      have htl : (t : Int) ≤ 1048575 := by have := mapN_lt (a k) 1048576 (by omega); omega
      have htl0 : (0 : Int) ≤ (t : Int) := by omega
      have hst1 := hst.alloc (.cells #[.int .u8 (o k : Int), .int .i64 (a k)] 42)
      have hsz := hst.size
      clear ht hco hca
      go_upto_region 9 with fail
      rw [HT.out]
      have hways : (((o k : Int) % 3 == 0) = true ∧ 0 ≤ a k ∧ a k ≤ 1048575) ∨ (((o k : Int) % 3 == 0) = true ∧ (a k < 0 ∨ 1048575 < a k)) ∨ (((o k : Int) % 3 == 0) = false ∧ ((o k : Int) % 3 == 1) = true) ∨ (((o k : Int) % 3 == 0) = false ∧ ((o k : Int) % 3 == 1) = false) := by
        simp only [beq_iff_eq, beq_eq_false_iff_ne, ne_eq]
        omega
      rcases hways with ⟨h3, hr1, hr2⟩ | ⟨h3, hr⟩ | ⟨h3, h31⟩ | ⟨h3, h31⟩
      · go_wp2_with fail
        refine (set_any hst1.bits _ hr1 hr2).mono ?_
        rintro e w1 ⟨rfl, n', f', hb', hf', hfr⟩
        have hop := op_cell (op_kept hfr)
        have hm1 := hst1.model.fr hfr
        have hsz1 : B ≤ w1.heap.size := Nat.le_trans hst1.size hfr.below.size
        go_wp2_with fail
        refine (ins_int hm1 hsz1 _ hr1 (by omega)).mono ?_
        rintro e w2 ⟨v', rfl, hm2, hb2⟩
        have hst2 := hst1.set hb' hf' (x := (a k).toNat) (by omega) hfr hm2 hb2
        have hlen := insL_length l (a k).toNat
        clear hst hst1 hb' hf' hfr hm1 hm2 hb2 hop
        go_wp2_with fail
        go_roundw
        case rel => exact ⟨k + 1, _, _, _, by omega, by omega, by go_num, hst2⟩
        case measure => simp [intOf]; omega
      · go_wp2_with fail
        refine (set_out _ _ _ hr).mono ?_
        rintro e w1 ⟨rfl, rfl⟩
        rcases hr with hr | hr
        · go_wp2_with fail
          go_roundw
          case rel => exact ⟨k + 1, _, _, _, by omega, by omega, by go_num, hst1⟩
          case measure => simp [intOf]; omega
        · have hr0 : 0 ≤ a k := by omega
          go_wp2_with fail
          go_roundw
          case rel => exact ⟨k + 1, _, _, _, by omega, by omega, by go_num, hst1⟩
          case measure => simp [intOf]; omega
      · go_wp2_with fail
        refine (set_any hst1.bits _ htl0 htl).mono ?_
        rintro e w1 ⟨rfl, n', f', hb', hf', hfr⟩
        have hm1 := hst1.model.fr hfr
        have hsz1 : B ≤ w1.heap.size := Nat.le_trans hst1.size hfr.below.size
        go_wp2_with fail
        refine (ins_any hm1 hsz1 t (by omega)).mono ?_
        rintro e w2 ⟨v', rfl, hm2, hb2⟩
        have hst2 := hst1.set hb' hf' (x := t) rfl hfr hm2 hb2
        have hlen := insL_length l t
        clear hst hst1 hb' hf' hfr hm1 hm2 hb2
        go_wp2_with fail
        go_roundw
        case rel => exact ⟨k + 1, _, _, _, by omega, by omega, by go_num, hst2⟩
        case measure => simp [intOf]; omega
      · go_wp2_with fail
        refine (clear_any hst1.bits _ (by omega)).mono ?_
        rintro e w1 ⟨rfl, n', f', hb', hf', hfr⟩
        have hm1 := hst1.model.fr hfr
        have hsz1 : B ≤ w1.heap.size := Nat.le_trans hst1.size hfr.below.size
        go_wp2_with fail
        refine (del_model hm1 hsz1 t (by omega)).mono ?_
        rintro e w2 ⟨v', rfl, hm2, hb2⟩
        have hst2 := hst1.clear hb' hf' (x := t) rfl hfr hm2 hb2
        have hlen := delL_length l t
        clear hst hst1 hb' hf' hfr hm1 hm2 hb2
        go_wp2_with fail
        go_roundw
        case rel => exact ⟨k + 1, _, _, _, by omega, by omega, by go_num, hst2⟩
        case measure => simp [intOf]; omega
    · clear hc0
      obtain ⟨ao, cap, hbox, hown, _⟩ := hst.bits.form
      have hbc := cell_of_one hbox
      have hn := hst.bits.2.1.len
      have hmk2 := run_make_row' (P := Yaqv.prog) 25 31 (.int .u64 0) 8 Yaqv.underlying25 Yaqv.info31 rfl .i64 .i64 n (by omega) (by omega)
      have HG := hide_copy_row wr n
      have HPOS := hide_copy_src (B := B) (w := wr) (n := n) (cap := cap) (ao := ao) (f := f) (o := .cells (madeCells #[.int .u64 0] n) 31) hown
      have hbb : B < wr.heap.size := lt_of_block hbox
      obtain ⟨aoM, capM, hv, _, _, hcM⟩ := hst.model.form
      obtain ⟨F, hF⟩ : ∃ F : Nat → Nat, ∀ j, F j = l.getD j 0 := ⟨_, fun _ => rfl⟩
      have hcM' := hcM F hF
      have hel : l = upTo f (n * 64) := model_is hst.bits.2.1 hst.sorted hst.same
      obtain ⟨ml, hml⟩ : ∃ ml, l.length = ml := ⟨_, rfl⟩
      rw [hml] at hv hcM' hlk
      subst hv
      have HcM := (show Hid _ from hcM')
      have Hel := (show Hid _ from hel)
      have HF := (show Hid _ from hF)
      have Hml := (show Hid _ from hml)
      clear hbox hown hcM hcM' hel hF hml
      go_upto_region 21 with fail
      go_wp2_with (refine wpList_copy_splice rfl (.tmp 70) (.tmp 74) 25 25 rfl 31 Yaqv.underlying25 size31 (some ⟨wr.heap.size, 0, none⟩) ao n n n cap rfl rfl wr.heap.size 0 (List.replicate n (.int .u64 0)) 31 HG.out (cellsW f n) (by rw [cellsW_length]; simp) (fun h => ⟨rfl, HPOS.out h⟩) (by rw [cellsW_length]; simp) (cellsW_one f n) wr.heap.size wr ((Below.refl _ _).alloc (Nat.le_refl _) _) (Nat.le_refl _) ?_; intro w3 HG3 hb3)
      have hb3' := hst.bits.keep hb3
      have Hbef : Hid (∀ j, j < n → w3.cell? ⟨wr.heap.size, j, none⟩ = some (.int .u64 (f j : Int))) := copied HG3
      refine (elems_any w3.heap.size rfl hb3').mono ?_
      rintro e w4 ⟨g, m, cp, rfl, hoi, hb4⟩
      obtain ⟨ao4, cap4, hbox4, hown4, _⟩ := (hb3'.keep hb4).form
      have hbc4 := cell_of_one hbox4
      have hm : m = ml := by rw [hoi.1, ← Hel.out, Hml.out]
      have hbel4 : Below B w w4 := (hst.below.trans (hb3.mono hst.size)).trans (hb4.mono (Nat.le_trans hst.size hb3.size))
      have hgb : wr.heap.size < w3.heap.size := lt_of_block HG3.out
      have fin1 : ∀ j, j < ml → ∃ gM, aoM = some ⟨gM, 0, none⟩ ∧ w4.cell? ⟨gM, j, none⟩ = some (.int .i64 (F j : Int)) ∧ w4.cell? ⟨g, j, none⟩ = some (.int .i64 (F j : Int)) := fun j hj => by
        obtain ⟨gM, h1, h2, h3⟩ := HcM.out j hj
        refine ⟨gM, h1, (hb4.cell (p := ⟨gM, j, none⟩) (by exact Nat.lt_trans h2 hgb)).trans ((hb3.cell (p := ⟨gM, j, none⟩) h2).trans h3), ?_⟩
        have h4 := hoi.2.cellAt j (by omega)
        rw [h4, ints_get _ _ (by rw [← hoi.1]; omega), ← Hel.out, HF.out]
      have fin2 : ∀ j, j < n → ∃ gw, ao4 = some ⟨gw, 0, none⟩ ∧ w4.cell? ⟨gw, j, none⟩ = some (.int .u64 (f j : Int)) ∧ w4.cell? ⟨wr.heap.size, j, none⟩ = some (.int .u64 (f j : Int)) := fun j hj => by
        obtain ⟨gw, cur, h1, _, _, _, h2⟩ := raw_form hown4 (by omega)
        exact ⟨gw, h1, h2 j hj, (hb4.cell (p := ⟨wr.heap.size, j, none⟩) hgb).trans (Hbef.out j hj)⟩
      have Fin1 := (show Hid _ from fin1)
      have Fin2 := (show Hid _ from fin2)
      have hml : ml ≤ 1024 := by omega
      subst hm
      clear fin1 fin2 hbox4 hown4 hoi hb4 HG3 hb3 hb3' HPOS HG hst hmk2 hbc
      have heq := fun (w : World) => Lib.run_eql_slice_nil (P := Yaqv.prog) w 33 3 (some ⟨g, 0, none⟩) m cp 0 0 Yaqv.underlying33
      go_wp2_with fail
      clear heq
      go_loopw [10] (fun x wv => ∃ k2 nq : Nat, k2 ≤ m ∧ x = .int .i64 (k2 : Nat) ∧ wv = w4.drewN nq) (fun x _ => m - (intOf x).toNat)
      case atStart => exact ⟨0, 0, Nat.zero_le _, rfl, rfl⟩
      case round =>
        obtain ⟨k2, nq, hk2, rfl, rfl⟩ := hrel
        by_cases hlt2 : k2 < m
        · obtain ⟨gM, haoM, hw1, hw2⟩ := Fin1.out k2 hlt2
          subst haoM
          have hk20 : (0 : Int) ≤ (k2 : Int) := by omega
          have hk2m : (k2 : Int) < (m : Int) := by omega
          go_wp2_with fail
          go_quiet (fail)
          go_wp2_with fail
          go_roundw
          case rel => exact ⟨k2 + 1, _, by omega, by go_num, rfl⟩
          case measure => simp [intOf]; omega
        · go_wp2_with fail
          go_loopw [11] (fun x wv => ∃ k3 nq : Nat, k3 ≤ n ∧ x = .int .i64 (k3 : Nat) ∧ wv = w4.drewN nq) (fun x _ => n - (intOf x).toNat)
          case atStart => exact ⟨0, _, Nat.zero_le _, rfl, rfl⟩
          case round =>
            obtain ⟨k3, nq3, hk3, rfl, rfl⟩ := hrel
            by_cases hlt3 : k3 < n
            · obtain ⟨gw, hao4, hw1, hw2⟩ := Fin2.out k3 hlt3
              subst hao4
              have hk30 : (0 : Int) ≤ (k3 : Int) := by omega
              have hk3n : (k3 : Int) < (n : Int) := by omega
              go_wp2_with fail
              go_quiet (fail)
              go_wp2_with fail
              go_roundw
              case rel => exact ⟨k3 + 1, _, by omega, by go_num, rfl⟩
              case measure => simp [intOf]; omega
            · go_wp2_with fail
              go_ret
              exact ⟨rfl, by first | exact below_drewN hbel4 _ | (rw [hB]; exact below_drewN hbel4 _)⟩

set_option maxHeartbeats 400000 in
theorem lawC_long (a0 : Option Addr) (len0 cap0 : Nat) (w : World) (hl : 1024 < len0) :
    Calls Yaqv.prog 5 #[.slice a0 len0 cap0] w fun e w' => e = .returned (.bool true) ∧ Below w.heap.size w w' := by
  have hl' : (1024 : Int) < (len0 : Int) := by omega
  go_enter Yaqv.func5, Yaqv.ntmps5
  go_wp2_with fail
  go_ret
  exact ⟨rfl, Below.refl _ _⟩

end Go.Proofs.Ymwhaq
