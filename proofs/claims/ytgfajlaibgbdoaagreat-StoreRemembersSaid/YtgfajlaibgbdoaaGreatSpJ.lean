
import Derived.Test.YtgfajlaibgbdoaaGreatSpI
namespace Go.Proofs.YtgfajlaibgbdoaaGreat
open Go.RowKit

def fitsB (n : Int) (f : Rng) : Bool := decide (n ≤ f.2 - f.1)

structure Took (s s' : Spc) (a n : Int) : Prop where
  cells : s'.cells = s.cells
  back : s'.back = s.back
  leaving : s'.leaving = s.leaving
  free : ∀ c, Mem s'.free c ↔ Mem s.free c ∧ ¬ (a ≤ c ∧ c < a + n)
  used : ∀ c, Mem s'.used c ↔ Mem s.used c ∨ (a ≤ c ∧ c < a + n)
  cntF : cntL s'.free = cntL s.free - n
  cntU : cntL s'.used = cntL s.used + n
  at0 : 0 ≤ a
  at1 : ∀ c, a ≤ c ∧ c < a + n → Mem s.free c

def TakeRel (s : Spc) (n : Int) (s' : Spc) (a err : Int) : Prop :=
  (n < 1 ∧ s' = s ∧ a = 0 ∧ err = 1) ∨
  (1 ≤ n ∧ (cntL s.free - s.back < n ∨ s.free.find? (fitsB n) = none) ∧ s' = s ∧ a = 0 ∧ err = 5) ∨
  (1 ≤ n ∧ n ≤ cntL s.free - s.back ∧ (∃ f, s.free.find? (fitsB n) = some f ∧ a = f.1) ∧ err = 0 ∧ Took s s' a n)

def TakePost (b : Nat) (s : Spc) (n : Int) (w : World) (e : Ending) (w' : World) : Prop :=
  ∃ s' a err, e = .returned (.tuple #[.int .i64 a, .int .i64 err]) ∧ SpR w' b s' ∧ SpI s' ∧ Ext [b] w w' ∧ TakeRel s n s' a err

theorem SpI.took {s s' : Spc} {a n : Int} (h : SpI s) (t : Took s s' a n) (okF : Ok s'.free) (okU : Ok s'.used) (hn : n ≤ cntL s.free - s.back) : SpI s' := by
  obtain ⟨t1, t2, t3, t4, t5, t6, t7, t8, t9⟩ := t
  refine ⟨by rw [t1]; exact h.c1, by rw [t1]; exact h.c2, okF, okU, by rw [t3]; exact h.okL, fun c => ?_, fun c => ?_, fun c => ?_, fun c => ?_, by rw [t2]; exact h.b0, by rw [t2, t6]; omega⟩
  · rw [t1, t3, t4, t5, h.all]
    have := t9 c
    grind
  · rw [t4, t5]; have := h.fu c; grind
  · rw [t4, t3]; have := h.fl c; grind
  · rw [t5, t3]; have := h.ul c; have := h.fl c; have := t9 c; grind

set_option maxRecDepth 100000 in
set_option maxHeartbeats 1000000 in
theorem take_c (b : Nat) (s : Spc) (n : Int) (w : World) (hr : SpR w b s) (hi : SpI s) (hn1 : -9223372036854775808 ≤ n) (hn2 : n ≤ 9223372036854775807) :
    Calls Tryz.prog 25 #[.pointer (some ⟨b, 0, none⟩), .int .i64 n] w (TakePost b s n w) := by
  have HR := Lib.hid hr
  have HI := Lib.hid hi
  by_cases g1 : n < 1
  · clear hr hi
    go_enter Tryz.func25, Tryz.ntmps25
    go_wp2
    go_ret2
    exact ⟨s, 0, 1, rfl, HR.out, HI.out, Ext.refl _ _, .inl ⟨g1, rfl, rfl, rfl⟩⟩
  · by_cases g2 : cntL s.free - s.back < n
    · clear hi
      go_enter Tryz.func25, Tryz.ntmps25
      go_wp2_with fail
      refine (free_c b s _ hr HI.out).mono ?_
      rintro e w1 ⟨rfl, hE⟩
      go_wp2
      go_ret2
      exact ⟨s, 0, 5, rfl, HR.out.ext0 hE, HI.out, hE.nil, .inr (.inl ⟨by omega, .inl g2, rfl, rfl, rfl⟩)⟩
    · have hlF := hi.okF.len
      clear hi
      go_enter Tryz.func25, Tryz.ntmps25
      go_wp2_with fail
      refine (free_c b s _ hr HI.out).mono ?_
      rintro e w1 ⟨rfl, hE⟩
      obtain ⟨pf, nf, cf, pu, nu, cu, pl, nl, cl, hb, h1, h2, h3⟩ := HR.out.ext0 hE
      have m1 : w1.cell? ⟨b, 1, none⟩ = some (.slice pf nf cf) := by rw [cell_of_row w1 b 1 _ _ _ hb]; rfl
      have m2 : w1.cell? ⟨b, 2, none⟩ = some (.slice pu nu cu) := by rw [cell_of_row w1 b 2 _ _ _ hb]; rfl
      have HB := Lib.hid hb
      have H1 := Lib.hid h1
      have H2 := Lib.hid h2
      have H3 := Lib.hid h3
      obtain ⟨p', c', e1, _⟩ := h1.rd.len_eq
      obtain rfl : nf = s.free.length := by cases e1; rfl
      clear hb h1 h2 h3 e1 hr
      go_wp2_with fail
      go_loopw [7, 8, 26] (fun _ _ i wr => ∃ k : Nat, k ≤ s.free.length ∧ i = .int .i64 k ∧ Ext [] w1 wr ∧ Hid ((s.free.take k).find? (fitsB n) = none)) (fun _ _ i _ => s.free.length - (intOf i).toNat)
      case atStart => exact ⟨0, Nat.zero_le _, rfl, Ext.refl _ _, rfl⟩
      case round =>
        obtain ⟨k, hk, rfl, hB, hnone⟩ := hrel
        by_cases hlt : k < s.free.length
        · obtain ⟨g, o, rfl⟩ : ∃ g o, pf = some ⟨g, o, none⟩ := by
            rcases H1.out.rd with ⟨_, h⟩ | ⟨g, o, c, h, _⟩
            · rw [h] at hlt; simp at hlt
            · cases h; exact ⟨g, o, rfl⟩
          obtain ⟨hm1, hm2⟩ := ER_cells (H1.out.ext0 hB).rd k hlt
          have hx0 := HI.out.okF.at hlt
          have hgd : s.free[k]? = some (s.free.getD k (0,0)) := by simp [List.getD, hlt]
          obtain ⟨x, hx⟩ : ∃ x, x = s.free.getD k (0,0) := ⟨_, rfl⟩
          rw [← hx] at hm1 hm2 hx0 hgd
          have HGD := Lib.hid hgd
          have n1 : wr.cell? ⟨b, 1, none⟩ = some (.slice (some ⟨g, o, none⟩) s.free.length cf) := hB.cell m1 (by simp)
          have n2 : wr.cell? ⟨b, 2, none⟩ = some (.slice pu nu cu) := hB.cell m2 (by simp)
          obtain ⟨x1, x2, x3⟩ := hx0
          have hbl : b < wr.heap.size := hB.lt (lt_of_blk HB.out)
          clear hx hgd
          by_cases g3 : x.2 - x.1 < n
          · go_wp2
            go_roundw
            case rel =>
              refine ⟨k + 1, by omega, by go_num, hB.alloc _, ?_⟩
              show _ = none
              rw [List.take_add_one, List.find?_append, hnone.out, HGD.out]
              simp [fitsB]; omega
            case measure => simp [intOf]; omega
          · have hxe : s.free.find? (fitsB n) = some x := by
              rw [← List.take_append_drop k s.free, List.find?_append, hnone.out, List.drop_eq_getElem_cons hlt]
              have := HGD.out
              rw [List.getElem?_eq_getElem hlt] at this
              simp only [Option.some.injEq] at this
              rw [this]
              have hf : fitsB n x = true := by simp [fitsB]; omega
              simp [hf]
            have HXE := Lib.hid hxe
            clear hxe
            go_wp2_with fail
            have hS0 : ((((wr.alloc (.cells #[.int .i64 x.1, .int .i64 x.2] 104)).alloc (.cells #[.int .i64 x.1, .int .i64 (x.1 + n)] 104)).drew.cell? ⟨b, 1, none⟩ = some (.slice (some ⟨g, o, none⟩) s.free.length cf) ∧
              ((wr.alloc (.cells #[.int .i64 x.1, .int .i64 x.2] 104)).alloc (.cells #[.int .i64 x.1, .int .i64 (x.1 + n)] 104)).drew.cell? ⟨b, 2, none⟩ = some (.slice pu nu cu)) ∧
              ((wr.alloc (.cells #[.int .i64 x.1, .int .i64 x.2] 104)).alloc (.cells #[.int .i64 x.1, .int .i64 (x.1 + n)] 104)).drew.cell? ⟨wr.heap.size + 1, 0, none⟩ = some (.int .i64 x.1) ∧
              ((wr.alloc (.cells #[.int .i64 x.1, .int .i64 x.2] 104)).alloc (.cells #[.int .i64 x.1, .int .i64 (x.1 + n)] 104)).drew.cell? ⟨wr.heap.size + 1, 1, none⟩ = some (.int .i64 (x.1 + n))) := by
              go_simp
            refine wp_region_u (fun W => (W.cell? ⟨b, 1, none⟩ = some (.slice (some ⟨g, o, none⟩) s.free.length cf) ∧ W.cell? ⟨b, 2, none⟩ = some (.slice pu nu cu)) ∧
              W.cell? ⟨wr.heap.size + 1, 0, none⟩ = some (.int .i64 x.1) ∧ W.cell? ⟨wr.heap.size + 1, 1, none⟩ = some (.int .i64 (x.1 + n))) (fun i => decide (i < 14) && !(i == 1)) (by kernel_rfl) hS0 (fun hS => ?_)
            (refine wpAnyU_pure (i := 1) rfl (by kernel_rfl) (by kernel_rfl) (by kernel_rfl) (by rfl) (by exact fun _ _ _ h => h) (Or.inl ⟨by rfl, fun W => by (go_simp; try rfl)⟩) ?_); (try go_frame)
            (refine wpAnyU_take (i := 0) rfl (by kernel_rfl) (by kernel_rfl) (by kernel_rfl) (by kernel_rfl) (by exact fun _ _ _ h => h) (by assumption) (Or.inl ⟨by rfl, fun W hW => by (have hWW := hW; clear hW; go_split_ands; go_simp; try rfl)⟩) ?_); (try go_frame)
            (refine wpAnyU_take (i := 2) rfl (by kernel_rfl) (by kernel_rfl) (by kernel_rfl) (by kernel_rfl) (by exact fun _ _ _ h => h) (by assumption) (Or.inl ⟨by rfl, fun W hW => by (have hWW := hW; clear hW; go_split_ands; go_simp; try rfl)⟩) ?_); (try go_frame)
            (refine wpAnyU_take (i := 3) rfl (by kernel_rfl) (by kernel_rfl) (by kernel_rfl) (by kernel_rfl) (by exact fun _ _ _ h => h) (by assumption) (Or.inl ⟨by rfl, fun W hW => by (have hWW := hW; clear hW; go_split_ands; go_simp; try rfl)⟩) ?_); (try go_frame)
            (refine wpAnyU_take (i := 4) rfl (by kernel_rfl) (by kernel_rfl) (by kernel_rfl) (by kernel_rfl) (by exact fun _ _ _ h => h) (by assumption) (Or.inl ⟨by rfl, fun W hW => by (have hWW := hW; clear hW; go_split_ands; go_simp; try rfl)⟩) ?_); (try go_frame)
            (refine wpAnyU_take (i := 5) rfl (by kernel_rfl) (by kernel_rfl) (by kernel_rfl) (by kernel_rfl) (by exact fun _ _ _ h => h) (by assumption) (Or.inl ⟨by rfl, fun W hW => by (have hWW := hW; clear hW; go_split_ands; go_simp; try rfl)⟩) ?_); (try go_frame)
            (refine wpAnyU_take (i := 6) rfl (by kernel_rfl) (by kernel_rfl) (by kernel_rfl) (by kernel_rfl) (by exact fun _ _ _ h => h) (by assumption) (Or.inl ⟨by rfl, fun W hW => by (have hWW := hW; clear hW; go_split_ands; go_simp; try rfl)⟩) ?_); (try go_frame)
            (refine wpAnyU_take (i := 8) rfl (by kernel_rfl) (by kernel_rfl) (by kernel_rfl) (by kernel_rfl) (by exact fun _ _ _ h => h) (by assumption) (Or.inl ⟨by rfl, fun W hW => by (have hWW := hW; clear hW; go_split_ands; go_simp; try rfl)⟩) ?_); (try go_frame)
            (refine wpAnyU_take (i := 9) rfl (by kernel_rfl) (by kernel_rfl) (by kernel_rfl) (by kernel_rfl) (by exact fun _ _ _ h => h) (by assumption) (Or.inl ⟨by rfl, fun W hW => by (have hWW := hW; clear hW; go_split_ands; go_simp; try rfl)⟩) ?_); (try go_frame)
            (refine wpAnyU_take (i := 10) rfl (by kernel_rfl) (by kernel_rfl) (by kernel_rfl) (by kernel_rfl) (by exact fun _ _ _ h => h) (by assumption) (Or.inl ⟨by rfl, fun W hW => by (have hWW := hW; clear hW; go_split_ands; go_simp; try rfl)⟩) ?_); (try go_frame)
            (refine wpAnyU_take (i := 11) rfl (by kernel_rfl) (by kernel_rfl) (by kernel_rfl) (by kernel_rfl) (by exact fun _ _ _ h => h) (by assumption) (Or.inl ⟨by rfl, fun W hW => by (have hWW := hW; clear hW; go_split_ands; go_simp; try rfl)⟩) ?_); (try go_frame)
            (refine wpAnyU_take (i := 12) rfl (by kernel_rfl) (by kernel_rfl) (by kernel_rfl) (by kernel_rfl) (by exact fun _ _ _ h => h) (by assumption) (Or.inl ⟨by rfl, fun W hW => by (have hWW := hW; clear hW; go_split_ands; go_simp; try rfl)⟩) ?_); (try go_frame)
            refine wpAnyU_one (i := 7) (by kernel_rfl) rfl (fun K hK => ?_)
            (try simp only [Act.put, List.getElem_toArray, List.getElem_cons_zero, List.getElem_cons_succ, List.setIfInBounds_toArray, List.set_cons_zero, List.set_cons_succ]); rw [if_pos (show Region.wanted _ _ = true from rfl)]
            go_simp
            have hhas : hasB s.free (x.1, x.1 + n) = true := by
              have h1 := List.mem_of_find?_eq_some HXE.out
              have h2 := List.find?_some HXE.out
              simp only [fitsB, decide_eq_true_eq] at h2
              simp only [hasB, List.any_eq_true]
              exact ⟨x, h1, by simp; omega⟩
            refine (cut_c _ s.free _ _ _ (H1.out.ext0 (hB.alloc _ |>.alloc _ |>.drew)) HI.out.okF x1 (by omega) (by omega) hhas).mono ?_
            rintro e w5 ⟨v5, s5, rfl, how5, hp5, hE5⟩
            have hE5' : Ext [] w1 w5 := (hB.alloc _ |>.alloc _ |>.drew).trans hE5
            refine hK.out _ _ (fun _ => ⟨⟨hE5.cell hS.1.1 (by simp), hE5.cell hS.1.2 (by simp)⟩, hE5.cell hS.2.1 (by simp), hE5.cell hS.2.2 (by simp)⟩) (fun hS5 => ?_)
            have hS5' := hS5 rfl
            refine wpAnyU_one (i := 13) (by kernel_rfl) rfl (fun K hK => ?_)
            (try simp only [Act.put, List.getElem_toArray, List.getElem_cons_zero, List.getElem_cons_succ, List.setIfInBounds_toArray, List.set_cons_zero, List.set_cons_succ]); rw [if_pos (show Region.wanted _ _ = true from rfl)]
            go_simp
            have hmeet : meetsB s.used (x.1, x.1 + n) = false := by
              cases hm : meetsB s.used (x.1, x.1 + n) with
              | false => rfl
              | true =>
                obtain ⟨c, hc1, hc2, hc3⟩ := (meetsB_iff (by simp; omega) (fun y hy => (HI.out.okU.2 y hy).2.1)).1 hm
                simp only at hc2 hc3
                exact (HI.out.fu c ⟨⟨x, List.mem_of_find?_eq_some HXE.out, by omega, by omega⟩, hc1⟩).elim
            refine (add_c _ s.used _ _ _ (H2.out.ext0 hE5') HI.out.okU x1 (by omega) (by omega) hmeet).mono ?_
            rintro e w6 ⟨v6, s6, rfl, how6, hp6, hE6⟩
            refine hK.out _ _ (fun _ => ⟨⟨hE6.cell hS5'.1.1 (by simp), hE6.cell hS5'.1.2 (by simp)⟩, hE6.cell hS5'.2.1 (by simp), hE6.cell hS5'.2.2 (by simp)⟩) (fun hS6 => ?_)
            clear hS hS0 hS5 hS5'
            have hS6' := hS6 rfl
            have hE6' : Ext [] w1 w6 := hE5'.trans hE6
            have hb6 := hE6'.blk HB.out (by simp)
            have how5' := how5.ext0 hE6
            obtain ⟨p5, c5, rfl, _⟩ := how5.rd.len_eq
            obtain ⟨p6, c6, rfl, _⟩ := how6.rd.len_eq
            have hfz6 : ∀ j, w6.frozen? ⟨b, j, none⟩ = false := fun j => frozen_of_row _ _ _ _ _ hb6
            have n61 := hS6'.1.1
            have n62 := hS6'.1.2
            have HB6 := Lib.hid hb6
            have HO5 := Lib.hid how5'
            have HO6 := Lib.hid how6
            have HP5 := Lib.hid hp5
            have HP6 := Lib.hid hp6
            clear hS6 hS6' hb6 how5' how5 how6 hp5 hp6
            (refine wpAnyU_pure (i := 14) rfl (by kernel_rfl) (by kernel_rfl) (by kernel_rfl) (by rfl) (by exact fun _ _ _ h => h) (Or.inl ⟨by rfl, fun W => by (go_simp; try rfl)⟩) ?_); (try go_frame)
            (refine wpAnyU_pure (i := 15) rfl (by kernel_rfl) (by kernel_rfl) (by kernel_rfl) (by rfl) (by exact fun _ _ _ h => h) (Or.inl ⟨by rfl, fun W => by (go_simp; try rfl)⟩) ?_); (try go_frame)
            refine wpAnyU_one (i := 16) (by kernel_rfl) rfl (fun K hK => ?_)
            (try simp only [Act.put, List.getElem_toArray, List.getElem_cons_zero, List.getElem_cons_succ, List.setIfInBounds_toArray, List.set_cons_zero, List.set_cons_succ]); rw [if_pos (show Region.wanted _ _ = true from rfl)]
            go_simp
            refine hK.out _ _ (fun h => by cases h) (fun _ => ?_)
            (refine wpAnyU_pure (i := 17) rfl (by kernel_rfl) (by kernel_rfl) (by kernel_rfl) (by rfl) (by exact fun _ _ _ h => h) (Or.inl ⟨by rfl, fun W => by (go_simp; try rfl)⟩) ?_); (try go_frame)
            (refine wpAnyU_pure (i := 18) rfl (by kernel_rfl) (by kernel_rfl) (by kernel_rfl) (by rfl) (by exact fun _ _ _ h => h) (Or.inl ⟨by rfl, fun W => by (go_simp; try rfl)⟩) ?_); (try go_frame)
            refine wpAnyU_one (i := 19) (by kernel_rfl) rfl (fun K hK => ?_)
            (try simp only [Act.put, List.getElem_toArray, List.getElem_cons_zero, List.getElem_cons_succ, List.setIfInBounds_toArray, List.set_cons_zero, List.set_cons_succ]); rw [if_pos (show Region.wanted _ _ = true from rfl)]
            go_simp
            refine hK.out _ _ (fun h => by cases h) (fun _ => ?_)
            refine wpAnyU_done (by kernel_rfl) ?_ _
            have n67 : ((w6.setCell ⟨b, 1, none⟩ (.slice p5 s5.length c5)).setCell ⟨b, 2, none⟩ (.slice p6 s6.length c6)).cell? ⟨wr.heap.size, 0, none⟩ = some (.int .i64 x.1) := by
              have hn : wr.heap.size ≠ b := by omega
              have h0 : ((wr.alloc (.cells #[.int .i64 x.1, .int .i64 x.2] 104)).alloc (.cells #[.int .i64 x.1, .int .i64 (x.1 + n)] 104)).drew.cell? ⟨wr.heap.size, 0, none⟩ = some (.int .i64 x.1) := by go_simp
              have h1 := (hE5.trans hE6).cell h0 (by simp)
              exact (((Ext.refl [b] w6).setCell (.inl (by simp)) _).setCell (.inl (by simp)) _).cell h1 (by simpa using hn)
            have hW8 : Ext [b] w1 ((w6.setCell ⟨b, 1, none⟩ (.slice p5 s5.length c5)).setCell ⟨b, 2, none⟩ (.slice p6 s6.length c6)) := ((hE6'.nil (S := [b])).setCell (.inl (by simp)) _).setCell (.inl (by simp)) _
            have hW68 : Ext [b] w6 ((w6.setCell ⟨b, 1, none⟩ (.slice p5 s5.length c5)).setCell ⟨b, 2, none⟩ (.slice p6 s6.length c6)) := ((Ext.refl [b] w6).setCell (.inl (by simp)) _).setCell (.inl (by simp)) _
            have hb8 := heap_setCell_same _ b 2 _ _ (.slice p6 s6.length c6) (heap_setCell_same _ b 1 _ _ (.slice p5 s5.length c5) HB6.out)
            have HB8 := Lib.hid hb8
            clear hb8
            revert n67 hW8 hW68 HB8
            generalize World.setCell _ _ _ = w8
            intro n67 hW8 hW68 HB8
            go_wp2
            go_ret2
            have hnf : ∀ (xs : List Rng) (v : Value), ER.Ow 104 w6 v xs → ER.Ow 104 w8 v xs := fun xs v h => h.ext hW68 (by simpa using h.ne HB6.out (by decide))
            have ht : Took s ⟨s.cells, s5, s6, s.leaving, s.back⟩ x.1 n := by
              obtain ⟨_, q2, q3⟩ := HP5.out
              obtain ⟨_, q5, q6⟩ := HP6.out
              have hx := List.mem_of_find?_eq_some HXE.out
              exact ⟨rfl, rfl, rfl, q2, q5, by rw [q3]; omega, by rw [q6]; omega, x1, fun c hc => ⟨x, hx, by omega, by omega⟩⟩
            refine ⟨⟨s.cells, s5, s6, s.leaving, s.back⟩, x.1, 0, rfl, ⟨_, _, _, _, _, _, _, _, _, HB8.out, hnf _ _ HO5.out, hnf _ _ HO6.out, hnf _ _ (H3.out.ext0 hE6')⟩, HI.out.took ht HP5.out.1 HP6.out.1 g2, hE.nil.trans hW8, .inr (.inr ⟨by omega, g2, ⟨x, HXE.out, rfl⟩, rfl, ht⟩)⟩
        · go_wp2
          go_ret2
          refine ⟨s, 0, 5, rfl, HR.out.ext0 (hE.trans hB), HI.out, (hE.trans hB).nil, .inr (.inl ⟨by omega, .inr ?_, rfl, rfl, rfl⟩)⟩
          have := hnone.out
          rwa [List.take_of_length_le (by omega)] at this

end Go.Proofs.YtgfajlaibgbdoaaGreat
