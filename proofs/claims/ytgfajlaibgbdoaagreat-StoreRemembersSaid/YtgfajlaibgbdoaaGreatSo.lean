
import Derived.Test.YtgfajlaibgbdoaaGreatPa3
import Derived.BigQuiet
namespace Go.Proofs.YtgfajlaibgbdoaaGreat
open Go.RowKit

/-! slices.Sort of few numbers: what stands there afterwards are numbers that stood there. -/
set_option maxRecDepth 100000 in
theorem less_c (a b : Int) (w : World) : Calls Tryz.prog 117 #[.int .i64 a, .int .i64 b] w fun e w' => e = .returned (.bool (decide (a < b))) ∧ w' = w := by
  go_enter Tryz.func117, Tryz.ntmps117
  go_wp2_with (go_at_call 125; refine (isNaN_c _ _).mono ?_; rintro e w' ⟨rfl, rfl⟩)
  go_ret
  exact ⟨rfl, rfl⟩

set_option maxRecDepth 100000 in
theorem len64_c (n : Nat) (hn : n ≤ 12) (w : World) : Calls Tryz.prog 121 #[.int .u64 n] w fun e w' => ∃ m : Int, e = .returned (.int .i64 m) ∧ w' = w := by
  rcases (show n = 0 ∨ n = 1 ∨ n = 2 ∨ n = 3 ∨ n = 4 ∨ n = 5 ∨ n = 6 ∨ n = 7 ∨ n = 8 ∨ n = 9 ∨ n = 10 ∨ n = 11 ∨ n = 12 by omega) with rfl | rfl | rfl | rfl | rfl | rfl | rfl | rfl | rfl | rfl | rfl | rfl | rfl <;>
  · go_enter Tryz.func121, Tryz.ntmps121
    go_wp2
    go_ret
    exact ⟨_, rfl, rfl⟩

theorem rowI_cell {w : World} {g : Nat} {L : List Int} (hg : w.heap[g]? = some (.cells (EI.flat L).toArray 3 (0, 0))) (j : Nat) (hj : j < L.length) : w.cell? ⟨g, j, none⟩ = some (.int .i64 (L.getD j 0)) := by
  rw [cell_of_row w g j _ _ _ hg]
  simp [flatI, List.getD, hj]
theorem rowI_set {w : World} {g : Nat} {L : List Int} (hg : w.heap[g]? = some (.cells (EI.flat L).toArray 3 (0, 0))) (i : Nat) (x : Int) : (w.setCell ⟨g, i, none⟩ (.int .i64 x)).heap[g]? = some (.cells (EI.flat (L.set i x)).toArray 3 (0, 0)) := by
  rw [heap_setCell_same w g i _ _ _ hg]
  congr 2
  apply Array.ext'
  rw [flatI, flatI]
  simp [List.map_set]

/-- numbers of a block, from o on n of them, all of them good. -/
def Good (p : Int → Prop) (L : List Int) (o n : Nat) : Prop := ∀ i, i < n → p (L.getD (o + i) 0)
theorem Good.swap {p : Int → Prop} {L : List Int} {o n : Nat} (h : Good p L o n) (hl : o + n ≤ L.length) {i j : Nat} (hi : i < n) (hj : j < n) : Good p ((L.set (o + i) (L.getD (o + j) 0)).set (o + j) (L.getD (o + i) 0)) o n := by
  intro q hq
  by_cases h1 : q = j
  · subst h1
    rw [List.getD_eq_getElem?_getD, List.getElem?_set_self (by simp; omega)]
    exact h i hi
  · rw [List.getD_eq_getElem?_getD, List.getElem?_set_ne (by omega)]
    by_cases h2 : q = i
    · subst h2
      rw [List.getElem?_set_self (by omega)]
      exact h j hj
    · rw [List.getElem?_set_ne (by omega), ← List.getD_eq_getElem?_getD]
      exact h q hq

set_option maxRecDepth 100000 in
set_option maxHeartbeats 1000000 in
theorem isort_c (p : Int → Prop) (g o n c : Nat) (L : List Int) (w : World) (hg : w.heap[g]? = some (.cells (EI.flat L).toArray 3 (0, 0))) (hl : o + n ≤ L.length) (hn : n ≤ 12) (hp : Good p L o n) :
    Calls Tryz.prog 111 #[.slice (some ⟨g, o, none⟩) n c, .int .i64 0, .int .i64 n] w fun e w' => e = .returned (.tuple #[]) ∧ ∃ L', w'.heap[g]? = some (.cells (EI.flat L').toArray 3 (0, 0)) ∧ L'.length = L.length ∧ Good p L' o n ∧ Ext [g] w w' := by
  have HG := Lib.hid hg
  have HP := Lib.hid hp
  obtain ⟨B, hB⟩ : ∃ B, B = L.length := ⟨_, rfl⟩
  have HB := Lib.hid hB.symm
  rw [← hB] at hl ⊢
  clear hg hp hB
  go_enter Tryz.func111, Tryz.ntmps111
  go_wp2_with fail
  go_loopw [6, 7] (fun iv _ wr => ∃ (i : Nat) (L' : List Int), 1 ≤ i ∧ i ≤ 13 ∧ iv = .int .i64 i ∧ Ext [g] w wr ∧ Hid (wr.heap[g]? = some (.cells (EI.flat L').toArray 3 (0, 0))) ∧ Hid (L'.length = B) ∧ Hid (Good p L' o n)) (fun iv _ _ => 14 - (intOf iv).toNat)
  case atStart => exact ⟨1, L, by omega, by omega, rfl, Ext.refl _ _, HG, HB, HP⟩
  case round =>
    obtain ⟨i, L1, hi1, hi2, rfl, hE1, HG1, HB1, HP1⟩ := hrel
    by_cases hlt : i < n
    · have z1 : (i : Int) < (n : Int) := by omega
      have z2 : IntKind.i64.wrap ((i : Int) + 1) = (i : Int) + 1 := IntWalk.i64_in _ (by omega)
      go_wp2_with fail
      go_loopw [7] (fun jv wr => ∃ (j : Nat) (L' : List Int), j ≤ i ∧ jv = .int .i64 j ∧ Ext [g] w wr ∧ Hid (wr.heap[g]? = some (.cells (EI.flat L').toArray 3 (0, 0))) ∧ Hid (L'.length = B) ∧ Hid (Good p L' o n)) (fun jv _ => (intOf jv).toNat)
      case atStart => exact ⟨i, L1, by omega, rfl, hE1, HG1, HB1, HP1⟩
      case round =>
        obtain ⟨j, L2, hj, rfl, hE2, HG2, HB2, HP2⟩ := hrel
        by_cases hj0 : 0 < j
        · have y1 : (0 : Int) < (j : Int) := by omega
          obtain ⟨t, ht⟩ : ∃ t : Nat, (j : Int) - 1 = (t : Int) := ⟨j - 1, by omega⟩
          have htj : t + 1 = j := by omega
          have y2 : IntKind.i64.wrap ((j : Int) - 1) = (t : Int) := by rw [ht]; exact IntWalk.i64_in _ (by omega)
          have y3 : (j : Int) < (n : Int) := by omega
          have y4 : (0 : Int) ≤ (j : Int) := by omega
          have y5 : (t : Int) < (n : Int) := by omega
          have y6 : (0 : Int) ≤ (t : Int) := by omega
          have hc1 := rowI_cell HG2.out (o + j) (by rw [HB2.out]; omega)
          have hc2 := rowI_cell HG2.out (o + t) (by rw [HB2.out]; omega)
          obtain ⟨x, hx⟩ : ∃ x, x = L2.getD (o + j) 0 := ⟨_, rfl⟩
          obtain ⟨y, hy⟩ : ∃ x, x = L2.getD (o + t) 0 := ⟨_, rfl⟩
          rw [← hx] at hc1
          rw [← hy] at hc2
          have HX := Lib.hid hx
          have HY := Lib.hid hy
          have HTJ := Lib.hid htj
          clear hx hy ht htj
          by_cases hxy : x < y
          · have hxy' : decide (x < y) = true := by simpa using hxy
            go_wp2_with fail
            go_big_quiet ((go_at_call 117; refine Calls.quiet_of_same (less_c x y _)))
            clear hxy' hxy
            go_wp2_with fail
            have hD : Ext [] wr (wr.drewN nq).drew := ((Ext.refl [] wr).drewN nq).drew
            have hd1 := hD.cell hc1 (by simp)
            have hd2 := hD.cell hc2 (by simp)
            have HGD := Lib.hid (hD.blk HG2.out (by simp))
            have hE2D : Ext [g] w (wr.drewN nq).drew := (hE2.drewN nq).drew
            clear hc1 hc2 hD
            refine wp_region_u (fun W => W.cell? ⟨g, o + j, none⟩ = some (.int .i64 x) ∧ W.cell? ⟨g, o + t, none⟩ = some (.int .i64 y)) (fun i => i == 9 || i == 13) (by kernel_rfl) ⟨hd1, hd2⟩ (fun hS => ?_)
            (refine wpAnyU_pure (i := 0) rfl (by kernel_rfl) (by kernel_rfl) (by kernel_rfl) (by rfl) (by exact fun _ _ _ h => h) (Or.inl ⟨by rfl, fun W => by (go_simp; try rfl)⟩) ?_); (try go_frame)
            (refine wpAnyU_pure (i := 1) rfl (by kernel_rfl) (by kernel_rfl) (by kernel_rfl) (by rfl) (by exact fun _ _ _ h => h) (Or.inl ⟨by rfl, fun W => by (go_simp; try rfl)⟩) ?_); (try go_frame)
            (refine wpAnyU_pure (i := 2) rfl (by kernel_rfl) (by kernel_rfl) (by kernel_rfl) (by rfl) (by exact fun _ _ _ h => h) (Or.inl ⟨by rfl, fun W => by (go_simp; try rfl)⟩) ?_); (try go_frame)
            (refine wpAnyU_pure (i := 3) rfl (by kernel_rfl) (by kernel_rfl) (by kernel_rfl) (by rfl) (by exact fun _ _ _ h => h) (Or.inl ⟨by rfl, fun W => by (go_simp; try rfl)⟩) ?_); (try go_frame)
            (refine wpAnyU_pure (i := 4) rfl (by kernel_rfl) (by kernel_rfl) (by kernel_rfl) (by rfl) (by exact fun _ _ _ h => h) (Or.inl ⟨by rfl, fun W => by (go_simp; try rfl)⟩) ?_); (try go_frame)
            (refine wpAnyU_pure (i := 5) rfl (by kernel_rfl) (by kernel_rfl) (by kernel_rfl) (by rfl) (by exact fun _ _ _ h => h) (Or.inl ⟨by rfl, fun W => by (go_simp; try rfl)⟩) ?_); (try go_frame)
            (refine wpAnyU_pure (i := 6) rfl (by kernel_rfl) (by kernel_rfl) (by kernel_rfl) (by rfl) (by exact fun _ _ _ h => h) (Or.inl ⟨by rfl, fun W => by (go_simp; try rfl)⟩) ?_); (try go_frame)
            (refine wpAnyU_pure (i := 7) rfl (by kernel_rfl) (by kernel_rfl) (by kernel_rfl) (by rfl) (by exact fun _ _ _ h => h) (Or.inl ⟨by rfl, fun W => by (go_simp; try rfl)⟩) ?_); (try go_frame)
            (refine wpAnyU_pure (i := 8) rfl (by kernel_rfl) (by kernel_rfl) (by kernel_rfl) (by rfl) (by exact fun _ _ _ h => h) (Or.inl ⟨by rfl, fun W => by (go_simp; try rfl)⟩) ?_); (try go_frame)
            (refine wpAnyU_pure (i := 10) rfl (by kernel_rfl) (by kernel_rfl) (by kernel_rfl) (by rfl) (by exact fun _ _ _ h => h) (Or.inl ⟨by rfl, fun W => by (go_simp; try rfl)⟩) ?_); (try go_frame)
            (simp only [List.getElem_toArray, List.getElem_cons_zero, List.getElem_cons_succ, List.set_cons_zero, List.set_cons_succ])
            (refine wpAnyU_pure (i := 11) rfl (by kernel_rfl) (by kernel_rfl) (by kernel_rfl) (by rfl) (by exact fun _ _ _ h => h) (Or.inl ⟨by rfl, fun W => by (go_simp; try rfl)⟩) ?_); (try go_frame)
            (simp only [List.getElem_toArray, List.getElem_cons_zero, List.getElem_cons_succ, List.set_cons_zero, List.set_cons_succ])
            (refine wpAnyU_pure (i := 12) rfl (by kernel_rfl) (by kernel_rfl) (by kernel_rfl) (by rfl) (by exact fun _ _ _ h => h) (Or.inl ⟨by rfl, fun W => by (go_simp; try rfl)⟩) ?_); (try go_frame)
            (simp only [List.getElem_toArray, List.getElem_cons_zero, List.getElem_cons_succ, List.set_cons_zero, List.set_cons_succ])
            (refine wpAnyU_take (i := 9) rfl (by kernel_rfl) (by kernel_rfl) (by kernel_rfl) (by kernel_rfl) (by exact fun _ _ _ h => h) (by assumption) (Or.inl ⟨by rfl, fun W hW => by (have hWW := hW; clear hW; go_split_ands; go_simp; try rfl)⟩) ?_); (try go_frame)
            (simp only [List.getElem_toArray, List.getElem_cons_zero, List.getElem_cons_succ, List.set_cons_zero, List.set_cons_succ])
            (refine wpAnyU_take (i := 13) rfl (by kernel_rfl) (by kernel_rfl) (by kernel_rfl) (by kernel_rfl) (by exact fun _ _ _ h => h) (by assumption) (Or.inl ⟨by rfl, fun W hW => by (have hWW := hW; clear hW; go_split_ands; go_simp; try rfl)⟩) ?_); (try go_frame)
            (simp only [List.getElem_toArray, List.getElem_cons_zero, List.getElem_cons_succ, List.set_cons_zero, List.set_cons_succ])
            (refine wpAnyU_pure (i := 14) rfl (by kernel_rfl) (by kernel_rfl) (by kernel_rfl) (by rfl) (by exact fun _ _ _ h => h) (Or.inl ⟨by rfl, fun W => by (go_simp; try rfl)⟩) ?_); (try go_frame)
            (simp only [List.getElem_toArray, List.getElem_cons_zero, List.getElem_cons_succ, List.set_cons_zero, List.set_cons_succ])
            have fz0 : ∀ q, (wr.drewN nq).drew.frozen? ⟨g, q, none⟩ = false := fun q => frozen_of_row _ _ _ _ _ HGD.out
            clear hS
            revert HGD hE2D fz0 hd1 hd2
            generalize World.drew (World.drewN _ _) = W0
            intro hd1 hd2 HGD hE2D fz0
            clear hd2
            refine wpAnyU_one (i := 15) (by kernel_rfl) rfl (fun K hK => ?_)
            rw [if_pos (show Region.wanted _ _ = true from rfl)]
            go_simp
            have hg1 := rowI_set HGD.out (o + j) y
            have hE15 := hE2D.setCell (p := ⟨g, o + j, none⟩) (.inl (by simp)) (.int .i64 y)
            have fz1 : ∀ q, (W0.setCell ⟨g, o + j, none⟩ (.int .i64 y)).frozen? ⟨g, q, none⟩ = false := fun q => frozen_of_row _ _ _ _ _ hg1
            have hd3 := rowI_cell hg1 (o + t) (by rw [List.length_set, HB2.out]; omega)
            refine hK _ _ (fun h => by cases h) (fun _ => ?_)
            have HG1' := Lib.hid hg1
            clear hg1 fz0 hd1 hK hE2D
            revert HG1' hE15 fz1 hd3
            generalize World.setCell _ _ _ = W1
            intro hE15 fz1 hd3 HG1'
            (refine wpAnyU_pure (i := 16) rfl (by kernel_rfl) (by kernel_rfl) (by kernel_rfl) (by rfl) (by exact fun _ _ _ h => h) (Or.inl ⟨by rfl, fun W => by (go_simp; try rfl)⟩) ?_); (try go_frame)
            (simp only [List.getElem_toArray, List.getElem_cons_zero, List.getElem_cons_succ, List.set_cons_zero, List.set_cons_succ])
            refine wpAnyU_one (i := 17) (by kernel_rfl) rfl (fun K hK => ?_)
            rw [if_pos (show Region.wanted _ _ = true from rfl)]
            go_simp
            have hg2 := rowI_set HG1'.out (o + t) x
            have hE17 := hE15.setCell (p := ⟨g, o + t, none⟩) (.inl (by simp)) (.int .i64 x)
            refine hK _ _ (fun h => by cases h) (fun _ => ?_)
            refine wpAnyU_done (by kernel_rfl) ?_ _
            clear hK fz1 hd3
            have hgood : Good p ((L2.set (o + j) y).set (o + t) x) o n := by
              have h := HP2.out.swap (by rw [HB2.out]; exact hl) (i := j) (j := t) (by omega) (by omega)
              rw [← HX.out, ← HY.out] at h
              exact h
            have HGOOD := Lib.hid hgood
            have HG2' := Lib.hid hg2
            clear hgood hg2
            revert HG2' hE17
            generalize World.setCell _ _ _ = W2
            intro hE17 HG2'
            go_wp2_with fail
            go_roundw
            case rel => exact ⟨t, _, by have := HTJ.out; omega, by go_num, hE17, HG2', Lib.hid (by simp [HB2.out]), HGOOD⟩
            case measure => simp [intOf]; have := HTJ.out; omega
          · have hxy' : decide (x < y) = false := by simpa using hxy
            go_wp2_with fail
            go_big_quiet ((go_at_call 117; refine Calls.quiet_of_same (less_c x y _)))
            go_wp2_with fail
            go_roundw
            case rel => exact ⟨i + 1, L2, by omega, by omega, by go_num, hE2.drewN _, HG2, HB2, HP2⟩
            case measure => simp [intOf]; omega
        · obtain rfl : j = 0 := by omega
          go_wp2_with fail
          go_big_quiet (fail)
          go_wp2_with fail
          go_roundw
          case rel => exact ⟨i + 1, L2, by omega, by omega, by go_num, hE2.drewN _, HG2, HB2, HP2⟩
          case measure => simp [intOf]; omega
    · have z1 : ¬ ((i : Int) < (n : Int)) := by omega
      go_wp2
      go_end0
      exact ⟨rfl, L1, HG1.out, HB1.out, HP1.out, hE1⟩

set_option maxRecDepth 100000 in
theorem sort_c (p : Int → Prop) (g o n c : Nat) (L : List Int) (w : World) (hg : w.heap[g]? = some (.cells (EI.flat L).toArray 3 (0, 0))) (hl : o + n ≤ L.length) (hn : n ≤ 12) (hp : Good p L o n) :
    Calls Tryz.prog 66 #[.slice (some ⟨g, o, none⟩) n c] w fun e w' => e = .returned (.tuple #[]) ∧ ∃ L', w'.heap[g]? = some (.cells (EI.flat L').toArray 3 (0, 0)) ∧ L'.length = L.length ∧ Good p L' o n ∧ Ext [g] w w' := by
  have hi := isort_c p g o n c L w hg hl hn hp
  have HI := Lib.hid hi
  have z1 : (n : Int) ≤ 12 := by omega
  have z2 : IntKind.i64.wrap ((n : Int) - 0) = (n : Int) := IntWalk.i64_in _ (by omega)
  have hpd : ∀ m : Int, Calls Tryz.prog 93 #[.slice (some ⟨g, o, none⟩) n c, .int .i64 0, .int .i64 n, .int .i64 m] w fun e w' => e = .returned (.tuple #[]) ∧ ∃ L', w'.heap[g]? = some (.cells (EI.flat L').toArray 3 (0, 0)) ∧ L'.length = L.length ∧ Good p L' o n ∧ Ext [g] w w' := by
    intro m
    clear hi hg hp
    go_enter Tryz.func93, Tryz.ntmps93
    go_wp2_with fail
    go_loopw [1, 2] (fun av bv wr => av = .int .i64 0 ∧ bv = .int .i64 n ∧ wr = w) (fun _ _ _ => 0)
    case atStart => exact ⟨rfl, rfl, rfl⟩
    case round =>
      obtain ⟨rfl, rfl, rfl⟩ := hrel
      go_wp2_with fail
      refine HI.out.mono ?_
      rintro e W2 ⟨rfl, h⟩
      have H := Lib.hid h
      clear h
      go_wp2
      refine bodyPost_ret (results_none rfl _ _ _) rfl ?_
      exact ⟨rfl, H.out⟩
  have HPD := Lib.hid hpd
  clear hpd hi hg hp
  go_enter Tryz.func66, Tryz.ntmps66
  go_wp2_with fail
  have hbl : Calls Tryz.prog 94 #[.int .u64 n] w fun e w' => ∃ m : Int, e = .returned (.int .i64 m) ∧ w' = w := by
    clear HPD z1 z2
    go_enter Tryz.func94, Tryz.ntmps94
    go_wp2_with fail
    refine (len64_c n hn _).mono ?_
    rintro e W2 ⟨m, rfl, rfl⟩
    go_wp2
    go_ret
    exact ⟨m, rfl, rfl⟩
  refine hbl.mono ?_
  rintro e W2 ⟨m, rfl, rfl⟩
  clear hbl
  go_wp2_with fail
  refine (HPD.out m).mono ?_
  rintro e W3 ⟨rfl, h⟩
  have H := Lib.hid h
  clear h
  go_wp2
  go_end0
  exact ⟨rfl, H.out⟩

end Go.Proofs.YtgfajlaibgbdoaaGreat
