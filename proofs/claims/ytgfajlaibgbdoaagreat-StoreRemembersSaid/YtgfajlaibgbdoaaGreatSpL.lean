
import Derived.Test.YtgfajlaibgbdoaaGreatSpK
namespace Go.Proofs.YtgfajlaibgbdoaaGreat
open Go.RowKit

structure Settled (s s' : Spc) : Prop where
  cells : s'.cells = s.cells
  back : s'.back = s.back
  used : s'.used = s.used
  leaving : s'.leaving = []
  free : ∀ c, Mem s'.free c ↔ Mem s.free c ∨ Mem s.leaving c
  cnt : cntL s'.free = cntL s.free + cntL s.leaving

theorem cntL_nonneg {s : List Rng} (h : Ok s) : 0 ≤ cntL s := h.cnt.1

theorem SpI.settled {s s' : Spc} (h : SpI s) (t : Settled s s') (okF : Ok s'.free) : SpI s' := by
  obtain ⟨t1, t2, t3, t4, t5, t6⟩ := t
  have hL := cntL_nonneg h.okL
  have hb := h.b1
  refine ⟨by rw [t1]; exact h.c1, by rw [t1]; exact h.c2, okF, by rw [t3]; exact h.okU, by rw [t4]; exact Ok.nil, fun c => ?_, fun c => ?_, fun c => ?_, fun c => ?_, by rw [t2]; exact h.b0, by rw [t2, t6]; omega⟩
  · rw [t1, t3, t4, t5, h.all]
    have := @Mem_nil c
    grind
  · rw [t3, t5]; have := h.fu c; have := h.ul c; grind
  · rw [t4]; have := @Mem_nil c; grind
  · rw [t4]; have := @Mem_nil c; grind

def SetRel (s : Spc) (F : List Rng) (k : Nat) : Prop := Ok F ∧ (∀ c, Mem F c ↔ Mem s.free c ∨ Mem (s.leaving.take k) c) ∧ cntL F = cntL s.free + cntL (s.leaving.take k)

theorem Ok.take_out {l : List Rng} (h : Ok l) {k : Nat} (hk : k < l.length) {c : Int} (h1 : (l.getD k (0,0)).1 ≤ c) : ¬ Mem (l.take k) c := by
  rintro ⟨x, hx, h2, h3⟩
  obtain ⟨i, hi, rfl⟩ := List.getElem_of_mem hx
  have hi' : i < k := by simp at hi; omega
  have hlt := h.lt hi' hk
  have e : l.getD i (0,0) = (l.take k)[i] := by simp [List.getD, show i < l.length by omega]
  rw [e] at hlt
  omega

theorem take_step {l : List Rng} {k : Nat} (hk : k < l.length) : l.take (k + 1) = l.take k ++ [l.getD k (0,0)] := by
  have e : l.getD k (0,0) = l[k] := by simp [List.getD, hk]
  rw [e, List.take_succ_eq_append_getElem hk]

theorem SetRel.meets {s : Spc} (hs : SpI s) {F : List Rng} {k : Nat} (h : SetRel s F k) (hk : k < s.leaving.length) : meetsB F (s.leaving.getD k (0,0)) = false := by
  have ha := hs.okL.at hk
  cases hm : meetsB F (s.leaving.getD k (0,0)) with
  | false => rfl
  | true =>
    obtain ⟨c, hc1, hc2, hc3⟩ := (meetsB_iff (by omega) (fun y hy => (h.1.2 y hy).2.1)).1 hm
    rcases (h.2.1 c).1 hc1 with h1 | h1
    · exact (hs.fl c ⟨h1, ⟨_, getD_mem hk, hc2, hc3⟩⟩).elim
    · exact (hs.okL.take_out hk hc2 h1).elim

theorem SetRel.step {s : Spc} {F F' : List Rng} {k : Nat} (h : SetRel s F k) (hk : k < s.leaving.length)
    (h' : Ok F' ∧ (∀ c, Mem F' c ↔ Mem F c ∨ ((s.leaving.getD k (0,0)).1 ≤ c ∧ c < (s.leaving.getD k (0,0)).2)) ∧ cntL F' = cntL F + ((s.leaving.getD k (0,0)).2 - (s.leaving.getD k (0,0)).1)) : SetRel s F' (k + 1) := by
  refine ⟨h'.1, fun c => ?_, ?_⟩
  · rw [h'.2.1 c, h.2.1 c, take_step hk, Mem_append, Mem_cons]
    have := @Mem_nil c
    grind
  · rw [h'.2.2, h.2.2, take_step hk, cntL_append]
    simp [cntL]; omega

def SettlePost (b : Nat) (s : Spc) (w : World) (e : Ending) (w' : World) : Prop :=
  ∃ s', e = .returned (.int .i64 (cntL s.leaving)) ∧ SpR w' b s' ∧ SpI s' ∧ Ext [b] w w' ∧ Settled s s'

set_option maxRecDepth 100000 in
set_option maxHeartbeats 1000000 in
theorem settle_c (b : Nat) (s : Spc) (w : World) (hr : SpR w b s) (hi : SpI s) :
    Calls Tryz.prog 41 #[.pointer (some ⟨b, 0, none⟩)] w (SettlePost b s w) := by
  have HI := Lib.hid hi
  obtain ⟨pf, nf, cf, pu, nu, cu, pl, nl, cl, hb, h1, h2, h3⟩ := hr
  have m3 : w.cell? ⟨b, 3, none⟩ = some (.slice pl nl cl) := by rw [cell_of_row w b 3 _ _ _ hb]; rfl
  have hbl : b < w.heap.size := lt_of_blk hb
  have bd := HI.out.okL.cnt
  have HB := Lib.hid hb
  have H1 := Lib.hid h1
  have H2 := Lib.hid h2
  have H3 := Lib.hid h3
  obtain ⟨p', c', e1, _⟩ := h3.rd.len_eq
  obtain rfl : nl = s.leaving.length := by cases e1; rfl
  have hlL := hi.okL.len
  clear hb h1 h2 h3 hi e1
  go_enter Tryz.func41, Tryz.ntmps41
  go_wp2_with fail
  refine (count_c _ s.leaving _ H3.out.rd HI.out.okL).mono ?_
  rintro e w1 ⟨rfl, hE⟩
  have m3' := hE.cell m3 (by simp)
  go_wp2_with fail
  go_loopw [5, 18] (fun _ i wr => ∃ (k : Nat) (F : List Rng) (pF : Option Addr) (cF : Nat), k ≤ s.leaving.length ∧ i = .int .i64 k ∧ Ext [b] w1 wr ∧ Hid (wr.heap[b]? = some (.cells #[.int .i64 s.cells, .slice pF F.length cF, .slice pu nu cu, .slice pl s.leaving.length cl, .int .i64 s.back] 114 (0, 0))) ∧ Hid (ER.Ow 104 wr (.slice pF F.length cF) F) ∧ Hid (SetRel s F k)) (fun _ i _ => s.leaving.length - (intOf i).toNat)
  case atStart =>
    obtain ⟨pf', cf', e2, _⟩ := H1.out.rd.len_eq
    cases e2
    exact ⟨0, s.free, _, _, Nat.zero_le _, rfl, Ext.refl _ _, hE.blk HB.out (by simp), H1.out.ext0 hE, HI.out.okF, fun c => by simp [Mem], by simp [cntL]⟩
  case round =>
    obtain ⟨k, F, pF, cF, hk, rfl, hB, HBr, HOr, HSr⟩ := hrel
    by_cases hlt : k < s.leaving.length
    · obtain ⟨g, o, rfl⟩ : ∃ g o, pl = some ⟨g, o, none⟩ := by
        rcases H3.out.rd with ⟨_, h⟩ | ⟨g, o, c, h, _⟩
        · rw [h] at hlt; simp at hlt
        · cases h; exact ⟨g, o, rfl⟩
      have h3r := (H3.out.ext0 hE).ext hB (by simpa using (H3.out.ext0 hE).ne (hE.blk HB.out (by simp)) (by decide))
      obtain ⟨hm1, hm2⟩ := ER_cells h3r.rd k hlt
      have hx0 := HI.out.okL.at hlt
      have hmt := HSr.out.meets HI.out hlt
      have hst := fun F' => HSr.out.step (F' := F') hlt
      obtain ⟨x, hx⟩ : ∃ x, x = s.leaving.getD k (0,0) := ⟨_, rfl⟩
      rw [← hx] at hm1 hm2 hx0 hmt
      simp only [← hx] at hst
      have HST := Lib.hid hst
      have HMT := Lib.hid hmt
      have n1 : wr.cell? ⟨b, 1, none⟩ = some (.slice pF F.length cF) := by rw [cell_of_row wr b 1 _ _ _ HBr.out]; rfl
      obtain ⟨x1, x2, x3⟩ := hx0
      have hbl' : b < wr.heap.size := lt_of_blk HBr.out
      clear hx hst hmt h3r
      go_wp2_with fail
      have hE0 : Ext [] wr (wr.alloc (.cells #[.int .i64 x.1, .int .i64 x.2] 104)) := (Ext.refl [] _).alloc _
      have q2 : (wr.alloc (.cells #[.int .i64 x.1, .int .i64 x.2] 104)).cell? ⟨wr.heap.size, 0, none⟩ = some (.int .i64 x.1) := by go_simp
      have q3 : (wr.alloc (.cells #[.int .i64 x.1, .int .i64 x.2] 104)).cell? ⟨wr.heap.size, 1, none⟩ = some (.int .i64 x.2) := by go_simp
      have n1' := hE0.cell n1 (by simp)
      have hD0 : Ext [] (wr.alloc (.cells #[.int .i64 x.1, .int .i64 x.2] 104)) (wr.alloc (.cells #[.int .i64 x.1, .int .i64 x.2] 104)).drew := (Ext.refl [] _).drew
      refine wp_region_u (fun W => W.cell? ⟨b, 1, none⟩ = some (.slice pF F.length cF) ∧ W.cell? ⟨wr.heap.size, 0, none⟩ = some (.int .i64 (x.1)) ∧ W.cell? ⟨wr.heap.size, 1, none⟩ = some (.int .i64 (x.2))) (fun i => decide (i < 7)) (by kernel_rfl) ⟨hD0.cell (n1') (by simp), hD0.cell (q2) (by simp), hD0.cell (q3) (by simp)⟩ (fun hS => ?_)
      (refine wpAnyU_take (i := 0) rfl (by kernel_rfl) (by kernel_rfl) (by kernel_rfl) (by kernel_rfl) (by exact fun _ _ _ h => h) (by assumption) (Or.inl ⟨by rfl, fun W hW => by (have hWW := hW; clear hW; go_split_ands; go_simp; try rfl)⟩) ?_); (try go_frame)
      (refine wpAnyU_take (i := 1) rfl (by kernel_rfl) (by kernel_rfl) (by kernel_rfl) (by kernel_rfl) (by exact fun _ _ _ h => h) (by assumption) (Or.inl ⟨by rfl, fun W hW => by (have hWW := hW; clear hW; go_split_ands; go_simp; try rfl)⟩) ?_); (try go_frame)
      (refine wpAnyU_take (i := 2) rfl (by kernel_rfl) (by kernel_rfl) (by kernel_rfl) (by kernel_rfl) (by exact fun _ _ _ h => h) (by assumption) (Or.inl ⟨by rfl, fun W hW => by (have hWW := hW; clear hW; go_split_ands; go_simp; try rfl)⟩) ?_); (try go_frame)
      (refine wpAnyU_take (i := 3) rfl (by kernel_rfl) (by kernel_rfl) (by kernel_rfl) (by kernel_rfl) (by exact fun _ _ _ h => h) (by assumption) (Or.inl ⟨by rfl, fun W hW => by (have hWW := hW; clear hW; go_split_ands; go_simp; try rfl)⟩) ?_); (try go_frame)
      (refine wpAnyU_take (i := 4) rfl (by kernel_rfl) (by kernel_rfl) (by kernel_rfl) (by kernel_rfl) (by exact fun _ _ _ h => h) (by assumption) (Or.inl ⟨by rfl, fun W hW => by (have hWW := hW; clear hW; go_split_ands; go_simp; try rfl)⟩) ?_); (try go_frame)
      (refine wpAnyU_take (i := 5) rfl (by kernel_rfl) (by kernel_rfl) (by kernel_rfl) (by kernel_rfl) (by exact fun _ _ _ h => h) (by assumption) (Or.inl ⟨by rfl, fun W hW => by (have hWW := hW; clear hW; go_split_ands; go_simp; try rfl)⟩) ?_); (try go_frame)
      refine wpAnyU_one (i := 6) (by kernel_rfl) rfl (fun K hK => ?_)
      (try simp only [Act.put, List.getElem_toArray, List.getElem_cons_zero, List.getElem_cons_succ, List.setIfInBounds_toArray, List.set_cons_zero, List.set_cons_succ]); rw [if_pos (show Region.wanted _ _ = true from rfl)]
      go_simp
      have hD1 := (hE0).trans hD0
      refine (add_c _ F _ _ _ (HOr.out.ext0 hD1) HSr.out.1 x1 x2 x3 HMT.out).mono ?_
      rintro e w5 ⟨v5, s5, rfl, how5, hp5, hE5⟩
      have hE5' := hD1.trans hE5
      have hE56 := hD0.trans hE5
      refine hK.out _ _ (fun _ => ⟨hE5.cell hS.1 (by simp), hE5.cell hS.2.1 (by simp), hE5.cell hS.2.2 (by simp)⟩) (fun hS5 => ?_)
      have hS5' := hS5 rfl
      have hb5 := hE5'.blk (HBr).out (by simp)
      obtain ⟨p5, c5, rfl, _⟩ := how5.rd.len_eq
      have hfz5 : ∀ j, w5.frozen? ⟨b, j, none⟩ = false := fun j => frozen_of_row _ _ _ _ _ hb5
      have n51 := hS5'.1
      have HB5 := Lib.hid hb5
      have HO5 := Lib.hid how5
      have HP5 := Lib.hid hp5
      clear hS hS5 hS5' hb5 how5 hp5
      (refine wpAnyU_pure (i := 7) rfl (by kernel_rfl) (by kernel_rfl) (by kernel_rfl) (by rfl) (by exact fun _ _ _ h => h) (Or.inl ⟨by rfl, fun W => by (go_simp; try rfl)⟩) ?_); (try go_frame)
      (refine wpAnyU_pure (i := 8) rfl (by kernel_rfl) (by kernel_rfl) (by kernel_rfl) (by rfl) (by exact fun _ _ _ h => h) (Or.inl ⟨by rfl, fun W => by (go_simp; try rfl)⟩) ?_); (try go_frame)
      refine wpAnyU_one (i := 9) (by kernel_rfl) rfl (fun K hK => ?_)
      (try simp only [Act.put, List.getElem_toArray, List.getElem_cons_zero, List.getElem_cons_succ, List.setIfInBounds_toArray, List.set_cons_zero, List.set_cons_succ]); rw [if_pos (show Region.wanted _ _ = true from rfl)]
      go_simp
      refine hK.out _ _ (fun h => by cases h) (fun _ => ?_)
      refine wpAnyU_done (by kernel_rfl) ?_ _
      have hW8 : Ext [b] _ (w5.setCell ⟨b, 1, none⟩ (.slice p5 s5.length c5)) := (hE5'.nil (S := [b])).setCell (.inl (by simp)) _
      have hW58 : Ext [b] w5 (w5.setCell ⟨b, 1, none⟩ (.slice p5 s5.length c5)) := (Ext.refl [b] w5).setCell (.inl (by simp)) _
      have hb8 := heap_setCell_same _ b 1 _ _ (.slice p5 s5.length c5) HB5.out
      have HB8 := Lib.hid hb8
      clear hb8 hfz5 n51
      revert hW8 hW58 HB8
      generalize World.setCell _ _ _ = w8
      intro hW8 hW58 HB8
      have hnf : ∀ (xs : List Rng) (v : Value), ER.Ow 104 w5 v xs → ER.Ow 104 w8 v xs := fun xs v h => h.ext hW58 (by simpa using h.ne HB5.out (by decide))
      have HNF := Lib.hid hnf
      clear hnf
      go_wp2
      go_roundw
      case rel => exact ⟨k + 1, s5, _, _, by omega, by go_num, hB.trans hW8, HB8, HNF.out _ _ HO5.out, HST.out _ HP5.out⟩
      case measure => simp [intOf]; omega
    · have n3 : wr.cell? ⟨b, 3, none⟩ = some (.slice pl s.leaving.length cl) := by rw [cell_of_row wr b 3 _ _ _ HBr.out]; rfl
      have hfz : ∀ j, wr.frozen? ⟨b, j, none⟩ = false := fun j => frozen_of_row _ _ _ _ _ HBr.out
      go_wp2
      go_ret
      have hk' : k = s.leaving.length := by omega
      subst hk'
      have hW : Ext [b] wr (wr.setCell ⟨b, 3, none⟩ (.slice none 0 0)) := (Ext.refl [b] wr).setCell (.inl (by simp)) _
      have hnf : ∀ (xs : List Rng) (v : Value), ER.Ow 104 wr v xs → ER.Ow 104 (wr.setCell ⟨b, 3, none⟩ (.slice none 0 0)) v xs := fun xs v h => h.ext hW (by simpa using h.ne HBr.out (by decide))
      have h2r := (H2.out.ext0 hE).ext hB (by simpa using (H2.out.ext0 hE).ne (hE.blk HB.out (by simp)) (by decide))
      obtain ⟨r1, r2, r3⟩ := HSr.out
      rw [List.take_length] at r2 r3
      have ht : Settled s ⟨s.cells, F, s.used, [], s.back⟩ := ⟨rfl, rfl, rfl, rfl, r2, r3⟩
      exact ⟨⟨s.cells, F, s.used, [], s.back⟩, rfl, ⟨_, _, _, _, _, _, _, _, _, heap_setCell_same _ b 3 _ _ _ HBr.out, hnf _ _ HOr.out, hnf _ _ h2r, .inl ⟨rfl, rfl⟩⟩, HI.out.settled ht r1, (hE.nil.trans hB).trans hW, ht⟩

end Go.Proofs.YtgfajlaibgbdoaaGreat
