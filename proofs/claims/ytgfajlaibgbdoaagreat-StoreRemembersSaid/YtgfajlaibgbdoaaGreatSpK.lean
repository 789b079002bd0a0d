
import Derived.Test.YtgfajlaibgbdoaaGreatSpJ
namespace Go.Proofs.YtgfajlaibgbdoaaGreat
open Go.RowKit

structure Given (s s' : Spc) (a n : Int) : Prop where
  cells : s'.cells = s.cells
  back : s'.back = s.back
  free : s'.free = s.free
  used : ∀ c, Mem s'.used c ↔ Mem s.used c ∧ ¬ (a ≤ c ∧ c < a + n)
  leaving : ∀ c, Mem s'.leaving c ↔ Mem s.leaving c ∨ (a ≤ c ∧ c < a + n)
  cntU : cntL s'.used = cntL s.used - n
  cntV : cntL s'.leaving = cntL s.leaving + n
  at1 : ∀ c, a ≤ c ∧ c < a + n → Mem s.used c

theorem SpI.given {s s' : Spc} {a n : Int} (h : SpI s) (t : Given s s' a n) (okU : Ok s'.used) (okL : Ok s'.leaving) : SpI s' := by
  obtain ⟨t1, t2, t3, t4, t5, t6, t7, t8⟩ := t
  refine ⟨by rw [t1]; exact h.c1, by rw [t1]; exact h.c2, by rw [t3]; exact h.okF, okU, okL, fun c => ?_, fun c => ?_, fun c => ?_, fun c => ?_, by rw [t2]; exact h.b0, by rw [t2, t3]; exact h.b1⟩
  · rw [t1, t3, t4, t5, h.all]
    have := t8 c
    grind
  · rw [t3, t4]; have := h.fu c; grind
  · rw [t3, t5]; have := h.fl c; have := h.fu c; have := t8 c; grind
  · rw [t4, t5]; have := h.ul c; grind

def GiveRel (s : Spc) (f n : Int) (s' : Spc) (err : Int) : Prop :=
  (inB s f n = false ∧ s' = s ∧ err = 1) ∨
  (inB s f n = true ∧ hasB s.used (f, f + n) = false ∧ s' = s ∧ err = 7) ∨
  (inB s f n = true ∧ hasB s.used (f, f + n) = true ∧ err = 0 ∧ Given s s' f n)

def GivePost (b : Nat) (s : Spc) (f n : Int) (w : World) (e : Ending) (w' : World) : Prop :=
  ∃ s' err, e = .returned (.int .i64 err) ∧ SpR w' b s' ∧ SpI s' ∧ Ext [b] w w' ∧ GiveRel s f n s' err

set_option maxRecDepth 100000 in
set_option maxHeartbeats 1000000 in
theorem give_c (b : Nat) (s : Spc) (f n : Int) (w : World) (hr : SpR w b s) (hi : SpI s) (hf1 : -9223372036854775808 ≤ f) (hf2 : f ≤ 9223372036854775807) (hn1 : -9223372036854775808 ≤ n) (hn2 : n ≤ 9223372036854775807) :
    Calls Tryz.prog 27 #[.pointer (some ⟨b, 0, none⟩), .int .i64 f, .int .i64 n] w (GivePost b s f n w) := by
  have HR := Lib.hid hr
  have HI := Lib.hid hi
  by_cases g1 : inB s f n = false
  · clear hi
    go_enter Tryz.func27, Tryz.ntmps27
    go_wp2_with fail
    refine (in_c b s f n _ hr HI.out).mono ?_
    rintro e w1 ⟨rfl, rfl⟩
    go_wp2
    go_ret
    exact ⟨s, 1, rfl, HR.out, HI.out, Ext.refl _ _, .inl ⟨g1, rfl, rfl⟩⟩
  · have g1' : inB s f n = true := by simpa using g1
    have G1 := Lib.hid g1'
    simp only [inB, Bool.and_eq_true, decide_eq_true_eq] at g1'
    obtain ⟨⟨⟨x1, x2⟩, x3⟩, x4⟩ := g1'
    have c2 := HI.out.c2
    clear hi g1
    go_enter Tryz.func27, Tryz.ntmps27
    go_wp2_with fail
    refine (in_c b s f n _ hr HI.out).mono ?_
    rintro e w1 ⟨rfl, rfl⟩
    rw [G1.out]
    obtain ⟨pf, nf, cf, pu, nu, cu, pl, nl, cl, hb, h1, h2, h3⟩ := hr
    have m2 : w.cell? ⟨b, 2, none⟩ = some (.slice pu nu cu) := by rw [cell_of_row w b 2 _ _ _ hb]; rfl
    have m3 : w.cell? ⟨b, 3, none⟩ = some (.slice pl nl cl) := by rw [cell_of_row w b 3 _ _ _ hb]; rfl
    have hbl : b < w.heap.size := lt_of_blk hb
    have HB := Lib.hid hb
    have H1 := Lib.hid h1
    have H2 := Lib.hid h2
    have H3 := Lib.hid h3
    clear hb h1 h2 h3
    go_wp2_with fail
    have hE0 : Ext [] w (w.alloc (.cells #[.int .i64 f, .int .i64 (f + n)] 104)).drew := ((Ext.refl [] w).alloc _).drew
    have q2 : (w.alloc (.cells #[.int .i64 f, .int .i64 (f + n)] 104)).cell? ⟨w.heap.size, 0, none⟩ = some (.int .i64 f) := by go_simp
    have q3 : (w.alloc (.cells #[.int .i64 f, .int .i64 (f + n)] 104)).cell? ⟨w.heap.size, 1, none⟩ = some (.int .i64 (f + n)) := by go_simp
    by_cases g2 : hasB s.used (f, f + n) = false
    · have G2 := Lib.hid g2
      clear g2
      go_region_held3 (fun W => W.cell? ⟨b, 2, none⟩ = some (.slice pu nu cu) ∧ W.cell? ⟨w.heap.size, 0, none⟩ = some (.int .i64 f) ∧ W.cell? ⟨w.heap.size, 1, none⟩ = some (.int .i64 (f + n)))
        (first | exact ⟨hE1.cell m2 (by simp), hE1'.cell q2 (by simp), hE1'.cell q3 (by simp)⟩ | go_keep)
        (first | (go_at_call 52; refine (has_c _ s.used _ _ _ (H2.out.rd.ext0 hE0) HI.out.okU x3 (by omega) (by omega)).mono ?_; rintro e w1 ⟨rfl, hE1'⟩; have hE1 : Ext [] w w1 := hE0.trans hE1'))
      rw [G2.out]
      go_wp2
      go_ret
      exact ⟨s, 7, rfl, HR.out.ext0 hE1, HI.out, hE1.nil, .inr (.inl ⟨G1.out, G2.out, rfl, rfl⟩)⟩
    · have g2' : hasB s.used (f, f + n) = true := by simpa using g2
      have G2 := Lib.hid g2'
      clear g2 g2'
      go_region_held3 (fun W => W.cell? ⟨b, 2, none⟩ = some (.slice pu nu cu) ∧ W.cell? ⟨w.heap.size, 0, none⟩ = some (.int .i64 f) ∧ W.cell? ⟨w.heap.size, 1, none⟩ = some (.int .i64 (f + n)))
        (first | exact ⟨hE1.cell m2 (by simp), hE1'.cell q2 (by simp), hE1'.cell q3 (by simp)⟩ | go_keep)
        (first | (go_at_call 52; refine (has_c _ s.used _ _ _ (H2.out.rd.ext0 hE0) HI.out.okU x3 (by omega) (by omega)).mono ?_; rintro e w1 ⟨rfl, hE1'⟩; have hE1 : Ext [] w w1 := hE0.trans hE1'))
      rw [G2.out]
      have q2' := hE1'.cell (o := 0) (g := w.heap.size) q2 (by simp)
      have q3' := hE1'.cell (o := 1) (g := w.heap.size) q3 (by simp)
      have n2' := hE1.cell m2 (by simp)
      have n3' := hE1.cell m3 (by simp)
      go_wp2_with fail
      have hhas : ∃ x ∈ s.used, x.1 ≤ f ∧ f + n ≤ x.2 := by
        have h := G2.out
        simp only [hasB, List.any_eq_true, Bool.and_eq_true, decide_eq_true_eq] at h
        exact h
      have hmeet : meetsB s.leaving (f, f + n) = false := by
        cases hm : meetsB s.leaving (f, f + n) with
        | false => rfl
        | true =>
          obtain ⟨c, hc1, hc2, hc3⟩ := (meetsB_iff (by simp; omega) (fun y hy => (HI.out.okL.2 y hy).2.1)).1 hm
          simp only at hc2 hc3
          obtain ⟨x, hx, hx1, hx2⟩ := hhas
          exact (HI.out.ul c ⟨⟨x, hx, by omega, by omega⟩, hc1⟩).elim
      have hD0 : Ext [] (w1) (w1).drew := (Ext.refl [] _).drew
      refine wp_region_u (fun W => (W.cell? ⟨b, 2, none⟩ = some (.slice pu nu cu) ∧ W.cell? ⟨b, 3, none⟩ = some (.slice pl nl cl)) ∧ W.cell? ⟨w.heap.size, 0, none⟩ = some (.int .i64 (f)) ∧ W.cell? ⟨w.heap.size, 1, none⟩ = some (.int .i64 (f + n))) (fun i => decide (i < 14) && !(i == 1)) (by kernel_rfl) ⟨⟨hD0.cell (n2') (by simp), hD0.cell (n3') (by simp)⟩, hD0.cell (q2') (by simp), hD0.cell (q3') (by simp)⟩ (fun hS => ?_)
      (refine wpAnyU_pure (i := 1) rfl (by kernel_rfl) (by kernel_rfl) (by kernel_rfl) (by rfl) (by exact fun _ _ _ h => h) (Or.inl ⟨by rfl, fun W => by (go_simp; try rfl)⟩) ?_); (try go_frame)
      (refine wpAnyU_take (i := 0) rfl (by kernel_rfl) (by kernel_rfl) (by kernel_rfl) (by kernel_rfl) (by exact fun _ _ _ h => h) (by assumption) (Or.inl ⟨by rfl, fun W hW => by (have hWW := hW; clear hW; go_split_ands; go_simp; try rfl)⟩) ?_); (try go_frame)
      (refine wpAnyU_take (i := 2) rfl (by kernel_rfl) (by kernel_rfl) (by kernel_rfl) (by kernel_rfl) (by exact fun _ _ _ h => h) (by assumption) (Or.inl ⟨by rfl, fun W hW => by (have hWW := hW; clear hW; go_split_ands; go_simp; try rfl)⟩) ?_); (try go_frame)
      (refine wpAnyU_take (i := 3) rfl (by kernel_rfl) (by kernel_rfl) (by kernel_rfl) (by kernel_rfl) (by exact fun _ _ _ h => h) (by assumption) (Or.inl ⟨by rfl, fun W hW => by (have hWW := hW; clear hW; go_split_ands; go_simp; try rfl)⟩) ?_); (try go_frame)
      (refine wpAnyU_take (i := 4) rfl (by kernel_rfl) (by kernel_rfl) (by kernel_rfl) (by kernel_rfl) (by exact fun _ _ _ h => h) (by assumption) (Or.inl ⟨by rfl, fun W hW => by (have hWW := hW; clear hW; go_split_ands; go_simp; try rfl)⟩) ?_); (try go_frame)
      (refine wpAnyU_take (i := 5) rfl (by kernel_rfl) (by kernel_rfl) (by kernel_rfl) (by kernel_rfl) (by exact fun _ _ _ h => h) (by assumption) (Or.inl ⟨by rfl, fun W hW => by (have hWW := hW; clear hW; go_split_ands; go_simp; try rfl)⟩) ?_); (try go_frame)
      (refine wpAnyU_take (i := 6) rfl (by kernel_rfl) (by kernel_rfl) (by kernel_rfl) (by kernel_rfl) (by exact fun _ _ _ h => h) (by assumption) (Or.inl ⟨by rfl, fun W hW => by (have hWW := hW; clear hW; go_split_ands; go_simp; try rfl)⟩) ?_); (try go_frame)
      (refine wpAnyU_take (i := 8) rfl (by kernel_rfl) (by kernel_rfl) (by kernel_rfl) (by kernel_rfl) (by exact fun _ _ _ h => h) (by assumption) (Or.inl ⟨by rfl, fun W hW => by (have hWW := hW; clear hW; go_split_ands; go_simp; try rfl)⟩) ?_); (try go_frame)
      (refine wpAnyU_take (i := 9) rfl (by kernel_rfl) (by kernel_rfl) (by kernel_rfl) (by kernel_rfl) (by exact fun _ _ _ h => h) (by assumption) (Or.inl ⟨by rfl, fun W hW => by (have hWW := hW; clear hW; go_split_ands; go_simp; try rfl)⟩) ?_); (try go_frame)
      (refine wpAnyU_take (i := 10) rfl (by kernel_rfl) (by kernel_rfl) (by kernel_rfl) (by kernel_rfl) (by exact fun _ _ _ h => h) (by assumption) (Or.inl ⟨by rfl, fun W hW => by (have hWW := hW; clear hW; go_split_ands; go_simp; try rfl)⟩) ?_); (try go_frame)
      (refine wpAnyU_take (i := 11) rfl (by kernel_rfl) (by kernel_rfl) (by kernel_rfl) (by kernel_rfl) (by exact fun _ _ _ h => h) (by assumption) (Or.inl ⟨by rfl, fun W hW => by (have hWW := hW; clear hW; go_split_ands; go_simp; try rfl)⟩) ?_); (try go_frame)
      (refine wpAnyU_take (i := 12) rfl (by kernel_rfl) (by kernel_rfl) (by kernel_rfl) (by kernel_rfl) (by exact fun _ _ _ h => h) (by assumption) (Or.inl ⟨by rfl, fun W hW => by (have hWW := hW; clear hW; go_split_ands; go_simp; try rfl)⟩) ?_); (try go_frame)
      refine wpAnyU_one (i := 7) (by kernel_rfl) rfl (fun K hK => ?_)
      (try simp only [Act.put, List.getElem_toArray, List.getElem_cons_zero, List.getElem_cons_succ, List.setIfInBounds_toArray, List.set_cons_zero, List.set_cons_succ]); rw [if_pos (show Region.wanted _ _ = true from rfl)]
      go_simp
      have hD1 := (hE1).trans hD0
      refine (cut_c _ s.used _ _ _ (H2.out.ext0 hD1) HI.out.okU x3 (by omega) (by omega) G2.out).mono ?_
      rintro e w5 ⟨v5, s5, rfl, how5, hp5, hE5⟩
      have hE5' := hD1.trans hE5
      refine hK.out _ _ (fun _ => ⟨⟨hE5.cell hS.1.1 (by simp), hE5.cell hS.1.2 (by simp)⟩, hE5.cell hS.2.1 (by simp), hE5.cell hS.2.2 (by simp)⟩) (fun hS5 => ?_)
      have hS5' := hS5 rfl
      refine wpAnyU_one (i := 13) (by kernel_rfl) rfl (fun K hK => ?_)
      (try simp only [Act.put, List.getElem_toArray, List.getElem_cons_zero, List.getElem_cons_succ, List.setIfInBounds_toArray, List.set_cons_zero, List.set_cons_succ]); rw [if_pos (show Region.wanted _ _ = true from rfl)]
      go_simp
      refine (add_c _ s.leaving _ _ _ (H3.out.ext0 hE5') HI.out.okL x3 (by omega) (by omega) hmeet).mono ?_
      rintro e w6 ⟨v6, s6, rfl, how6, hp6, hE6⟩
      refine hK.out _ _ (fun _ => ⟨⟨hE6.cell hS5'.1.1 (by simp), hE6.cell hS5'.1.2 (by simp)⟩, hE6.cell hS5'.2.1 (by simp), hE6.cell hS5'.2.2 (by simp)⟩) (fun hS6 => ?_)
      have hS6' := hS6 rfl
      have hE6' := hE5'.trans hE6
      have hE56 := (hD0.trans hE5).trans hE6
      have hb6 := hE6'.blk (HB).out (by simp)
      have how5' := how5.ext0 hE6
      obtain ⟨p5, c5, rfl, _⟩ := how5.rd.len_eq
      obtain ⟨p6, c6, rfl, _⟩ := how6.rd.len_eq
      have hfz6 : ∀ j, w6.frozen? ⟨b, j, none⟩ = false := fun j => frozen_of_row _ _ _ _ _ hb6
      have n61 := hS6'.1.1
      have n62 := hS6'.1.2
      have HB6 := Lib.hid hb6
      have HO5 := Lib.hid how5'
      have HO6 := Lib.hid how6
      have HP5 := Lib.hid hp5
      have HP6 := Lib.hid hp6
      clear hS hS5 hS5' hS6 hS6' hb6 how5' how5 how6 hp5 hp6
      (refine wpAnyU_pure (i := 14) rfl (by kernel_rfl) (by kernel_rfl) (by kernel_rfl) (by rfl) (by exact fun _ _ _ h => h) (Or.inl ⟨by rfl, fun W => by (go_simp; try rfl)⟩) ?_); (try go_frame)
      (refine wpAnyU_pure (i := 15) rfl (by kernel_rfl) (by kernel_rfl) (by kernel_rfl) (by rfl) (by exact fun _ _ _ h => h) (Or.inl ⟨by rfl, fun W => by (go_simp; try rfl)⟩) ?_); (try go_frame)
      refine wpAnyU_one (i := 16) (by kernel_rfl) rfl (fun K hK => ?_)
      (try simp only [Act.put, List.getElem_toArray, List.getElem_cons_zero, List.getElem_cons_succ, List.setIfInBounds_toArray, List.set_cons_zero, List.set_cons_succ]); rw [if_pos (show Region.wanted _ _ = true from rfl)]
      go_simp
      refine hK.out _ _ (fun h => by cases h) (fun _ => ?_)
      (refine wpAnyU_pure (i := 17) rfl (by kernel_rfl) (by kernel_rfl) (by kernel_rfl) (by rfl) (by exact fun _ _ _ h => h) (Or.inl ⟨by rfl, fun W => by (go_simp; try rfl)⟩) ?_); (try go_frame)
      (refine wpAnyU_pure (i := 18) rfl (by kernel_rfl) (by kernel_rfl) (by kernel_rfl) (by rfl) (by exact fun _ _ _ h => h) (Or.inl ⟨by rfl, fun W => by (go_simp; try rfl)⟩) ?_); (try go_frame)
      refine wpAnyU_one (i := 19) (by kernel_rfl) rfl (fun K hK => ?_)
      (try simp only [Act.put, List.getElem_toArray, List.getElem_cons_zero, List.getElem_cons_succ, List.setIfInBounds_toArray, List.set_cons_zero, List.set_cons_succ]); rw [if_pos (show Region.wanted _ _ = true from rfl)]
      go_simp
      refine hK.out _ _ (fun h => by cases h) (fun _ => ?_)
      refine wpAnyU_done (by kernel_rfl) ?_ _
      have hW8 : Ext [b] _ ((w6.setCell ⟨b, 2, none⟩ (.slice p5 s5.length c5)).setCell ⟨b, 3, none⟩ (.slice p6 s6.length c6)) := ((hE6'.nil (S := [b])).setCell (.inl (by simp)) _).setCell (.inl (by simp)) _
      have hW68 : Ext [b] w6 ((w6.setCell ⟨b, 2, none⟩ (.slice p5 s5.length c5)).setCell ⟨b, 3, none⟩ (.slice p6 s6.length c6)) := ((Ext.refl [b] w6).setCell (.inl (by simp)) _).setCell (.inl (by simp)) _
      have hb8 := heap_setCell_same _ b 3 _ _ (.slice p6 s6.length c6) (heap_setCell_same _ b 2 _ _ (.slice p5 s5.length c5) HB6.out)
      have HB8 := Lib.hid hb8
      clear hb8 hfz6 n61 n62
      revert hW8 hW68 HB8
      generalize World.setCell _ _ _ = w8
      intro hW8 hW68 HB8
      have hnf : ∀ (xs : List Rng) (v : Value), ER.Ow 104 w6 v xs → ER.Ow 104 w8 v xs := fun xs v h => h.ext hW68 (by simpa using h.ne HB6.out (by decide))
      have HNF := Lib.hid hnf
      clear hnf
      go_wp2
      go_ret
      have ht : Given s ⟨s.cells, s.free, s5, s6, s.back⟩ f n := by
        obtain ⟨_, q2, q3⟩ := HP5.out
        obtain ⟨_, q5, q6⟩ := HP6.out
        obtain ⟨x, hx, hx1, hx2⟩ := hhas
        exact ⟨rfl, rfl, rfl, q2, q5, by rw [q3]; omega, by rw [q6]; omega, fun c hc => ⟨x, hx, by omega, by omega⟩⟩
      exact ⟨⟨s.cells, s.free, s5, s6, s.back⟩, 0, rfl, ⟨_, _, _, _, _, _, _, _, _, HB8.out, HNF.out _ _ (H1.out.ext0 hE6'), HNF.out _ _ HO5.out, HNF.out _ _ HO6.out⟩, HI.out.given ht HP5.out.1 HP6.out.1, hW8, .inr (.inr ⟨G1.out, G2.out, rfl, ht⟩)⟩

end Go.Proofs.YtgfajlaibgbdoaaGreat
