
import Derived.Test.YtaknhoplgcnhkaaSpM
import Derived.Test.YtaknhoplgcnhkaaSpN
import Derived.Test.YtaknhoplgcnhkaaSpU
namespace Go.Proofs.Ytaknhoplgcnhkaa
open Go.RowKit

/-! New once more: what a new space keeps lies in new blocks. -/
def SpRn (B : Nat) (w : World) (b : Nat) (s : Spc) : Prop := ∃ pf nf cf pu nu cu pl nl cl,
  w.heap[b]? = some (.cells #[.int .i64 s.cells, .slice pf nf cf, .slice pu nu cu, .slice pl nl cl, .int .i64 s.back] 68 (0, 0)) ∧
  ER.Ow 41 w (.slice pf nf cf) s.free ∧ ER.Ow 41 w (.slice pu nu cu) s.used ∧ ER.Ow 41 w (.slice pl nl cl) s.leaving ∧
  (∀ y ∈ blkL (.slice pf nf cf), B ≤ y) ∧ (∀ y ∈ blkL (.slice pu nu cu), B ≤ y) ∧ (∀ y ∈ blkL (.slice pl nl cl), B ≤ y)

theorem SpRn.r {B : Nat} {w : World} {b : Nat} {s : Spc} (h : SpRn B w b s) : SpR w b s := by
  obtain ⟨pf, nf, cf, pu, nu, cu, pl, nl, cl, hb, h1, h2, h3, _⟩ := h
  exact ⟨pf, nf, cf, pu, nu, cu, pl, nl, cl, hb, h1, h2, h3⟩
/-- elder blocks are changed. -/
theorem SpRn.ext {B : Nat} {w w' : World} {b : Nat} {s : Spc} (h : SpRn B w b s) (hB : B ≤ b) {S : List Nat} (he : Ext S w w') (hS : ∀ x ∈ S, x < B) : SpRn B w' b s := by
  obtain ⟨pf, nf, cf, pu, nu, cu, pl, nl, cl, hb, h1, h2, h3, h4, h5, h6⟩ := h
  exact ⟨pf, nf, cf, pu, nu, cu, pl, nl, cl, he.blk hb (fun hx => by have := hS b hx; omega), h1.ext he (fun g hg hx => by have := h4 g hg; have := hS g hx; omega), h2.ext he (fun g hg hx => by have := h5 g hg; have := hS g hx; omega), h3.ext he (fun g hg hx => by have := h6 g hg; have := hS g hx; omega), h4, h5, h6⟩

def NewRelN (cells : Int) (us : List Rng) (w w' : World) (p : Option Addr) (err : Int) : Prop :=
  ((cells < 1 ∨ 40000 < cells) ∧ p = none ∧ err = 1) ∨
  (1 ≤ cells ∧ cells ≤ 40000 ∧ us.all (goodB cells) = false ∧ p = none ∧ err = 2) ∨
  (1 ≤ cells ∧ cells ≤ 40000 ∧ us.all (goodB cells) = true ∧ ¬ ApartTo us us.length ∧ p = none ∧ err = 8) ∨
  (1 ≤ cells ∧ cells ≤ 40000 ∧ us.all (goodB cells) = true ∧ ApartTo us us.length ∧ err = 0 ∧ ∃ b s, p = some ⟨b, 0, none⟩ ∧ w.heap.size ≤ b ∧ SpRn w.heap.size w' b s ∧ SpI s ∧ Fresh s cells us us.length)

def NewPostN (cells : Int) (us : List Rng) (w : World) (e : Ending) (w' : World) : Prop :=
  ∃ p err, e = .returned (.tuple #[.pointer p, .int .i64 err]) ∧ Ext [] w w' ∧ NewRelN cells us w w' p err

set_option maxRecDepth 100000 in
set_option maxHeartbeats 1000000 in
theorem new_n (cells : Int) (v : Value) (us : List Rng) (w : World) (hu : ER.Rd w v us) (hc1 : -9223372036854775808 ≤ cells) (hc2 : cells ≤ 9223372036854775807) (hl : us.length ≤ 9223372036854775807) :
    Calls Try.prog 11 #[.int .i64 cells, v] w (NewPostN cells us w) := by
  obtain ⟨pv, cv, rfl, _⟩ := hu.len_eq
  have HU := Lib.hid hu
  clear hu
  by_cases g1 : cells < 1
  · go_enter Try.func11, Try.ntmps11
    go_wp2
    go_ret2
    exact ⟨none, 1, rfl, Ext.refl _ _, .inl ⟨.inl g1, rfl, rfl⟩⟩
  · by_cases g2 : 40000 < cells
    · go_enter Try.func11, Try.ntmps11
      go_wp2
      go_ret2
      exact ⟨none, 1, rfl, Ext.refl _ _, .inl ⟨.inr g2, rfl, rfl⟩⟩
    · go_enter Try.func11, Try.ntmps11
      go_wp2_with fail
      go_loopw [7, 19] (fun _ i wr => ∃ k : Nat, k ≤ us.length ∧ i = .int .i64 k ∧ Ext [] w wr ∧ Hid ((us.take k).all (goodB cells) = true)) (fun _ i _ => us.length - (intOf i).toNat)
      case atStart => exact ⟨0, Nat.zero_le _, rfl, Ext.refl _ _, rfl⟩
      case round =>
        obtain ⟨k, hk, rfl, hB, hall⟩ := hrel
        by_cases hlt : k < us.length
        · obtain ⟨g, o, rfl⟩ : ∃ g o, pv = some ⟨g, o, none⟩ := by
            rcases HU.out with ⟨_, h⟩ | ⟨g, o, c, h, _⟩
            · rw [h] at hlt; simp at hlt
            · cases h; exact ⟨g, o, rfl⟩
          obtain ⟨hm1, hm2⟩ := ER_cells (HU.out.ext0 hB) k hlt
          have hts : us.take (k + 1) = us.take k ++ [us.getD k (0,0)] := take_step hlt
          have hmem : us.getD k (0,0) ∈ us := getD_mem hlt
          obtain ⟨x, hx⟩ : ∃ x, x = us.getD k (0,0) := ⟨_, rfl⟩
          rw [← hx] at hm1 hm2 hts hmem
          have HTS := Lib.hid hts
          have HM := Lib.hid hmem
          clear hx hts hmem
          by_cases gx : goodB cells x = true
          · have HGX := Lib.hid gx
            simp only [goodB, Bool.and_eq_true, decide_eq_true_eq] at gx
            obtain ⟨⟨a1, a2⟩, a3⟩ := gx
            go_wp2
            go_roundw
            case rel =>
              refine ⟨k + 1, by omega, by go_num, hB.alloc _, ?_⟩
              show _ = true
              rw [HTS.out, List.all_append, hall.out]
              simp [HGX.out]
            case measure => simp [intOf]; omega
          · have hbad : us.all (goodB cells) = false := by
              cases h : us.all (goodB cells) with
              | false => rfl
              | true => exact (gx (List.all_eq_true.1 h x HM.out)).elim
            have HBAD := Lib.hid hbad
            have gx' : ¬ (0 ≤ x.1) ∨ ¬ (x.2 ≤ cells) ∨ ¬ (x.1 < x.2) := by
              simp only [goodB, Bool.and_eq_true, decide_eq_true_eq] at gx
              omega
            clear hbad gx
            by_cases a1 : x.1 < 0
            · clear gx'
              go_wp2
              go_ret2
              exact ⟨none, 2, rfl, hB.alloc _, .inr (.inl ⟨by omega, by omega, HBAD.out, rfl, rfl⟩)⟩
            · by_cases a2 : cells < x.2
              · clear gx'
                go_wp2
                go_ret2
                exact ⟨none, 2, rfl, hB.alloc _, .inr (.inl ⟨by omega, by omega, HBAD.out, rfl, rfl⟩)⟩
              · have a3 : x.2 ≤ x.1 := by omega
                clear gx'
                go_wp2
                go_ret2
                exact ⟨none, 2, rfl, hB.alloc _, .inr (.inl ⟨by omega, by omega, HBAD.out, rfl, rfl⟩)⟩
        · obtain rfl : k = us.length := by omega
          have hall' : us.all (goodB cells) = true := by have h := hall.out; rwa [List.take_length] at h
          have HALL := Lib.hid hall'
          clear hall' hall
          go_wp2_with fail
          have hE0 : Ext [] w ((wr.alloc (.cells #[.int .i64 0, .int .i64 cells] 41)).alloc (.cells #[.int .i64 cells, .slice (some ⟨wr.heap.size, 0, none⟩) 1 1, .slice none 0 0, .slice none 0 0, .int .i64 0] 68)) := (hB.alloc _).alloc _
          have hb0 : ((wr.alloc (.cells #[.int .i64 0, .int .i64 cells] 41)).alloc (.cells #[.int .i64 cells, .slice (some ⟨wr.heap.size, 0, none⟩) 1 1, .slice none 0 0, .slice none 0 0, .int .i64 0] 68)).heap[wr.heap.size + 1]? = some (.cells #[.int .i64 cells, .slice (some ⟨wr.heap.size, 0, none⟩) 1 1, .slice none 0 0, .slice none 0 0, .int .i64 0] 68 (0, 0)) := blk_new (by simp)
          have hF0 : ER.Ow 41 ((wr.alloc (.cells #[.int .i64 0, .int .i64 cells] 41)).alloc (.cells #[.int .i64 cells, .slice (some ⟨wr.heap.size, 0, none⟩) 1 1, .slice none 0 0, .slice none 0 0, .int .i64 0] 68)) (.slice (some ⟨wr.heap.size, 0, none⟩) 1 1) [(0, cells)] := (one_rd rfl).ext0 ((Ext.refl [] _).alloc _)
          have hr0 : SpRn w.heap.size _ (wr.heap.size + 1) ⟨cells, [(0, cells)], [], [], 0⟩ := ⟨_, _, _, _, _, _, _, _, _, hb0, hF0, .inl ⟨rfl, rfl⟩, .inl ⟨rfl, rfl⟩, fun y hy => by simp [blkL] at hy; subst hy; exact hB.size, by simp [blkL], by simp [blkL]⟩
          have hi0 := Fresh.start us (show 1 ≤ cells by omega) (by omega)
          have hbw : w.heap.size ≤ wr.heap.size + 1 := by have := hB.size; omega
          obtain ⟨b, hbe⟩ : ∃ b, b = wr.heap.size + 1 := ⟨_, rfl⟩
          rw [← hbe] at hr0 hbw
          simp only [← hbe]
          have HR0 := Lib.hid hr0
          have HI0 := Lib.hid hi0
          clear hb0 hF0 hr0 hi0
          revert HR0 hE0
          generalize World.alloc _ _ = W0
          intro hE0 HR0
          clear hbe
          go_loopw [10, 48] (fun _ i wr => ∃ (k : Nat) (s : Spc), k ≤ us.length ∧ i = .int .i64 k ∧ Ext [b] W0 wr ∧ Hid (SpRn w.heap.size wr b s) ∧ Hid (SpI s ∧ Fresh s cells us k) ∧ Hid (ApartTo us k)) (fun _ i _ => us.length - (intOf i).toNat)
          case atStart => exact ⟨0, _, Nat.zero_le _, rfl, Ext.refl _ _, HR0, HI0, fun i hi => by omega⟩
          case round =>
            obtain ⟨k, s, hk, rfl, hB2, HR, HI, HA⟩ := hrel
            by_cases hlt : k < us.length
            · obtain ⟨g, o, rfl⟩ : ∃ g o, pv = some ⟨g, o, none⟩ := by
                rcases HU.out with ⟨_, h⟩ | ⟨g, o, c, h, _⟩
                · rw [h] at hlt; simp at hlt
                · cases h; exact ⟨g, o, rfl⟩
              have hBw : Ext [] w wr := hE0.trans' hB2 (by simp) (fun x hx => by simp at hx; subst hx; exact .inr hbw)
              obtain ⟨hm1, hm2⟩ := ER_cells (HU.out.ext0 hBw) k hlt
              have hts : us.take (k + 1) = us.take k ++ [us.getD k (0,0)] := take_step hlt
              have hgood : goodB cells (us.getD k (0,0)) = true := List.all_eq_true.1 HALL.out _ (getD_mem hlt)
              have hap : ∀ h : meetsB (us.take k) (us.getD k (0,0)) = false, ApartTo us (k + 1) := fun h i hi => by
                rcases Nat.lt_or_eq_of_le (Nat.lt_succ_iff.1 hi) with h' | h'
                · exact HA.out i h'
                · subst h'; exact h
              have hnap : ∀ h : meetsB (us.take k) (us.getD k (0,0)) = true, ¬ ApartTo us us.length := fun h h2 => by
                rw [h2 k hlt] at h; cases h
              obtain ⟨x, hx⟩ : ∃ x, x = us.getD k (0,0) := ⟨_, rfl⟩
              rw [← hx] at hm1 hm2 hts hgood
              simp only [← hx] at hap hnap
              have HTS := Lib.hid hts
              have HG := Lib.hid hgood
              have HAP := Lib.hid hap
              have HNAP := Lib.hid hnap
              have hg' := goodB_iff.1 hgood
              have hme := HI.out.2.meets HI.out.1 HALL.out hg'.2.2
              have HME := Lib.hid hme
              obtain ⟨x1, x2, x3⟩ := hg'
              obtain ⟨pf, nf, cf, pu, nu, cu, pl, nl, cl, hb, h1, h2, h3, _, _, h6⟩ := HR.out
              have H6 := Lib.hid h6
              clear h6
              have n1 : wr.cell? ⟨b, 1, none⟩ = some (.slice pf nf cf) := by rw [cell_of_row wr b 1 _ _ _ hb]; rfl
              have n2 : wr.cell? ⟨b, 2, none⟩ = some (.slice pu nu cu) := by rw [cell_of_row wr b 2 _ _ _ hb]; rfl
              have hbl : b < wr.heap.size := lt_of_blk hb
              have HB := Lib.hid hb
              have H1 := Lib.hid h1
              have H2 := Lib.hid h2
              have H3 := Lib.hid h3
              clear hx hts hgood hap hnap hme hb h1 h2 h3
              go_wp2_with fail
              have hE1 : Ext [] wr (wr.alloc (.cells #[.int .i64 x.1, .int .i64 x.2] 41)) := (Ext.refl [] _).alloc _
              have q2 : (wr.alloc (.cells #[.int .i64 x.1, .int .i64 x.2] 41)).cell? ⟨wr.heap.size, 0, none⟩ = some (.int .i64 x.1) := by go_simp
              have q3 : (wr.alloc (.cells #[.int .i64 x.1, .int .i64 x.2] 41)).cell? ⟨wr.heap.size, 1, none⟩ = some (.int .i64 x.2) := by go_simp
              have n1' := hE1.cell n1 (by simp)
              have n2' := hE1.cell n2 (by simp)
              go_region_held3 (fun W => W.cell? ⟨b, 2, none⟩ = some (.slice pu nu cu) ∧ W.cell? ⟨wr.heap.size, 0, none⟩ = some (.int .i64 x.1) ∧ W.cell? ⟨wr.heap.size, 1, none⟩ = some (.int .i64 x.2))
                (first | exact ⟨hE2.cell n2' (by simp), hE2.cell q2 (by simp), hE2.cell q3 (by simp)⟩ | go_keep)
                (first | (go_at_call 32; refine (meets_c _ s.used _ _ _ (H2.out.rd.ext0 hE1.drew) HI.out.1.okU x1 (by omega)).mono ?_; rintro e w1 ⟨rfl, hE2'⟩; have hE2 : Ext [] (wr.alloc (.cells #[.int .i64 x.1, .int .i64 x.2] 41)) w1 := (Ext.refl [] _).drew.trans hE2'))
              cases hmv : meetsB s.used x with
              | true =>
                have hno := HNAP.out (by rw [← HME.out]; exact hmv)
                go_wp2
                go_ret2
                exact ⟨none, 8, rfl, hBw.trans (hE1.trans hE2), .inr (.inr (.inl ⟨by omega, by omega, HALL.out, hno, rfl, rfl⟩))⟩
              | false =>
                have hhas := HI.out.2.has HI.out.1 HG.out hmv
                have HH := Lib.hid hhas
                have HMV := Lib.hid hmv
                have hE1' := hE1.trans hE2
                have q2' := hE2.cell q2 (by simp)
                have q3' := hE2.cell q3 (by simp)
                have n1'' := hE2.cell n1' (by simp)
                have n2'' := hE2.cell n2' (by simp)
                clear hhas
                go_wp2_with fail
                have hD0 : Ext [] (w1) (w1).drew := (Ext.refl [] _).drew
                refine wp_region_u (fun W => (W.cell? ⟨b, 1, none⟩ = some (.slice pf nf cf) ∧ W.cell? ⟨b, 2, none⟩ = some (.slice pu nu cu)) ∧ W.cell? ⟨wr.heap.size, 0, none⟩ = some (.int .i64 (x.1)) ∧ W.cell? ⟨wr.heap.size, 1, none⟩ = some (.int .i64 (x.2))) (fun i => decide (i < 14) && !(i == 1)) (by kernel_rfl) ⟨⟨hD0.cell (n1'') (by simp), hD0.cell (n2'') (by simp)⟩, hD0.cell (q2') (by simp), hD0.cell (q3') (by simp)⟩ (fun hS => ?_)
                (refine wpAnyU_pure (i := 1) rfl (by kernel_rfl) (by kernel_rfl) (by kernel_rfl) (by rfl) (by exact fun _ _ _ h => h) (Or.inl ⟨by rfl, fun W => by (go_simp; try rfl)⟩) ?_); (try go_frame)
                (refine wpAnyU_take (i := 0) rfl (by kernel_rfl) (by kernel_rfl) (by kernel_rfl) (by kernel_rfl) (by exact fun _ _ _ h => h) (by assumption) (Or.inl ⟨by rfl, fun W hW => by (have hWW := hW; clear hW; go_split_ands; go_simp; try rfl)⟩) ?_); (try go_frame)
                (refine wpAnyU_take (i := 2) rfl (by kernel_rfl) (by kernel_rfl) (by kernel_rfl) (by kernel_rfl) (by exact fun _ _ _ h => h) (by assumption) (Or.inl ⟨by rfl, fun W hW => by (have hWW := hW; clear hW; go_split_ands; go_simp; try rfl)⟩) ?_); (try go_frame)
                (refine wpAnyU_take (i := 3) rfl (by kernel_rfl) (by kernel_rfl) (by kernel_rfl) (by kernel_rfl) (by exact fun _ _ _ h => h) (by assumption) (Or.inl ⟨by rfl, fun W hW => by (have hWW := hW; clear hW; go_split_ands; go_simp; try rfl)⟩) ?_); (try go_frame)
                (refine wpAnyU_take (i := 4) rfl (by kernel_rfl) (by kernel_rfl) (by kernel_rfl) (by kernel_rfl) (by exact fun _ _ _ h => h) (by assumption) (Or.inl ⟨by rfl, fun W hW => by (have hWW := hW; clear hW; go_split_ands; go_simp; try rfl)⟩) ?_); (try go_frame)
                (refine wpAnyU_take (i := 5) rfl (by kernel_rfl) (by kernel_rfl) (by kernel_rfl) (by kernel_rfl) (by exact fun _ _ _ h => h) (by assumption) (Or.inl ⟨by rfl, fun W hW => by (have hWW := hW; clear hW; go_split_ands; go_simp; try rfl)⟩) ?_); (try go_frame)
                (refine wpAnyU_take (i := 6) rfl (by kernel_rfl) (by kernel_rfl) (by kernel_rfl) (by kernel_rfl) (by exact fun _ _ _ h => h) (by assumption) (Or.inl ⟨by rfl, fun W hW => by (have hWW := hW; clear hW; go_split_ands; go_simp; try rfl)⟩) ?_); (try go_frame)
                (refine wpAnyU_take (i := 8) rfl (by kernel_rfl) (by kernel_rfl) (by kernel_rfl) (by kernel_rfl) (by exact fun _ _ _ h => h) (by assumption) (Or.inl ⟨by rfl, fun W hW => by (have hWW := hW; clear hW; go_split_ands; go_simp; try rfl)⟩) ?_); (try go_frame)
                (refine wpAnyU_take (i := 9) rfl (by kernel_rfl) (by kernel_rfl) (by kernel_rfl) (by kernel_rfl) (by exact fun _ _ _ h => h) (by assumption) (Or.inl ⟨by rfl, fun W hW => by (have hWW := hW; clear hW; go_split_ands; go_simp; try rfl)⟩) ?_); (try go_frame)
                (refine wpAnyU_take (i := 10) rfl (by kernel_rfl) (by kernel_rfl) (by kernel_rfl) (by kernel_rfl) (by exact fun _ _ _ h => h) (by assumption) (Or.inl ⟨by rfl, fun W hW => by (have hWW := hW; clear hW; go_split_ands; go_simp; try rfl)⟩) ?_); (try go_frame)
                (refine wpAnyU_take (i := 11) rfl (by kernel_rfl) (by kernel_rfl) (by kernel_rfl) (by kernel_rfl) (by exact fun _ _ _ h => h) (by assumption) (Or.inl ⟨by rfl, fun W hW => by (have hWW := hW; clear hW; go_split_ands; go_simp; try rfl)⟩) ?_); (try go_frame)
                (refine wpAnyU_take (i := 12) rfl (by kernel_rfl) (by kernel_rfl) (by kernel_rfl) (by kernel_rfl) (by exact fun _ _ _ h => h) (by assumption) (Or.inl ⟨by rfl, fun W hW => by (have hWW := hW; clear hW; go_split_ands; go_simp; try rfl)⟩) ?_); (try go_frame)
                refine wpAnyU_one (i := 7) (by kernel_rfl) rfl (fun K hK => ?_)
                (try simp only [Act.put, List.getElem_toArray, List.getElem_cons_zero, List.getElem_cons_succ, List.setIfInBounds_toArray, List.set_cons_zero, List.set_cons_succ]); rw [if_pos (show Region.wanted _ _ = true from rfl)]
                go_simp
                have hD1 := (hE1').trans hD0
                refine (cut_n _ s.free _ _ _ (H1.out.ext0 hD1) HI.out.1.okF x1 x3 (by omega) HH.out).mono ?_
                rintro e w5 ⟨v5, s5, rfl, how5, hp5, hE5, hn5⟩
                have hE5' := hD1.trans hE5
                refine hK.out _ _ (fun _ => ⟨⟨hE5.cell hS.1.1 (by simp), hE5.cell hS.1.2 (by simp)⟩, hE5.cell hS.2.1 (by simp), hE5.cell hS.2.2 (by simp)⟩) (fun hS5 => ?_)
                have hS5' := hS5 rfl
                refine wpAnyU_one (i := 13) (by kernel_rfl) rfl (fun K hK => ?_)
                (try simp only [Act.put, List.getElem_toArray, List.getElem_cons_zero, List.getElem_cons_succ, List.setIfInBounds_toArray, List.set_cons_zero, List.set_cons_succ]); rw [if_pos (show Region.wanted _ _ = true from rfl)]
                go_simp
                refine (add_n _ s.used _ _ _ (H2.out.ext0 hE5') HI.out.1.okU x1 x3 (by omega) HMV.out).mono ?_
                rintro e w6 ⟨v6, s6, rfl, how6, hp6, hE6, hn6⟩
                refine hK.out _ _ (fun _ => ⟨⟨hE6.cell hS5'.1.1 (by simp), hE6.cell hS5'.1.2 (by simp)⟩, hE6.cell hS5'.2.1 (by simp), hE6.cell hS5'.2.2 (by simp)⟩) (fun hS6 => ?_)
                have hS6' := hS6 rfl
                have hE6' := hE5'.trans hE6
                have hE56 := (hD0.trans hE5).trans hE6
                have hb6 := hE6'.blk (HB).out (by simp)
                have how5' := how5.ext0 hE6
                obtain ⟨p5, c5, rfl, _⟩ := how5.rd.len_eq
                obtain ⟨p6, c6, rfl, _⟩ := how6.rd.len_eq
                have hfz6 : ∀ j, w6.frozen? ⟨b, j, none⟩ = false := fun j => frozen_of_row _ _ _ _ _ hb6
                have n61 := hS6'.1.1
                have n62 := hS6'.1.2
                have HB6 := Lib.hid hb6
                have HO5 := Lib.hid how5'
                have HO6 := Lib.hid how6
                have HP5 := Lib.hid hp5
                have HP6 := Lib.hid hp6
                have HN5 := Lib.hid hn5
                have HN6 := Lib.hid hn6
                have hsz5 := hD1.size
                have hsz6 := hE5'.size
                clear hn5 hn6
                clear hS hS5 hS5' hS6 hS6' hb6 how5' how5 how6 hp5 hp6
                (refine wpAnyU_pure (i := 14) rfl (by kernel_rfl) (by kernel_rfl) (by kernel_rfl) (by rfl) (by exact fun _ _ _ h => h) (Or.inl ⟨by rfl, fun W => by (go_simp; try rfl)⟩) ?_); (try go_frame)
                (refine wpAnyU_pure (i := 15) rfl (by kernel_rfl) (by kernel_rfl) (by kernel_rfl) (by rfl) (by exact fun _ _ _ h => h) (Or.inl ⟨by rfl, fun W => by (go_simp; try rfl)⟩) ?_); (try go_frame)
                refine wpAnyU_one (i := 16) (by kernel_rfl) rfl (fun K hK => ?_)
                (try simp only [Act.put, List.getElem_toArray, List.getElem_cons_zero, List.getElem_cons_succ, List.setIfInBounds_toArray, List.set_cons_zero, List.set_cons_succ]); rw [if_pos (show Region.wanted _ _ = true from rfl)]
                go_simp
                refine hK.out _ _ (fun h => by cases h) (fun _ => ?_)
                (refine wpAnyU_pure (i := 17) rfl (by kernel_rfl) (by kernel_rfl) (by kernel_rfl) (by rfl) (by exact fun _ _ _ h => h) (Or.inl ⟨by rfl, fun W => by (go_simp; try rfl)⟩) ?_); (try go_frame)
                (refine wpAnyU_pure (i := 18) rfl (by kernel_rfl) (by kernel_rfl) (by kernel_rfl) (by rfl) (by exact fun _ _ _ h => h) (Or.inl ⟨by rfl, fun W => by (go_simp; try rfl)⟩) ?_); (try go_frame)
                refine wpAnyU_one (i := 19) (by kernel_rfl) rfl (fun K hK => ?_)
                (try simp only [Act.put, List.getElem_toArray, List.getElem_cons_zero, List.getElem_cons_succ, List.setIfInBounds_toArray, List.set_cons_zero, List.set_cons_succ]); rw [if_pos (show Region.wanted _ _ = true from rfl)]
                go_simp
                refine hK.out _ _ (fun h => by cases h) (fun _ => ?_)
                refine wpAnyU_done (by kernel_rfl) ?_ _
                have hW8 : Ext [b] _ ((w6.setCell ⟨b, 1, none⟩ (.slice p5 s5.length c5)).setCell ⟨b, 2, none⟩ (.slice p6 s6.length c6)) := ((hE6'.nil (S := [b])).setCell (.inl (by simp)) _).setCell (.inl (by simp)) _
                have hW68 : Ext [b] w6 ((w6.setCell ⟨b, 1, none⟩ (.slice p5 s5.length c5)).setCell ⟨b, 2, none⟩ (.slice p6 s6.length c6)) := ((Ext.refl [b] w6).setCell (.inl (by simp)) _).setCell (.inl (by simp)) _
                have hb8 := heap_setCell_same _ b 2 _ _ (.slice p6 s6.length c6) (heap_setCell_same _ b 1 _ _ (.slice p5 s5.length c5) HB6.out)
                have HB8 := Lib.hid hb8
                clear hb8 hfz6 n61 n62
                revert hW8 hW68 HB8
                generalize World.setCell _ _ _ = w8
                intro hW8 hW68 HB8
                have hnf : ∀ (xs : List Rng) (v : Value), ER.Ow 41 w6 v xs → ER.Ow 41 w8 v xs := fun xs v h => h.ext hW68 (by simpa using h.ne HB6.out (by decide))
                have HNF := Lib.hid hnf
                clear hnf
                go_wp2
                go_roundw
                case rel =>
                  exact ⟨k + 1, ⟨s.cells, s5, s6, s.leaving, s.back⟩, by omega, by go_num, hB2.trans hW8, ⟨_, _, _, _, _, _, _, _, _, HB8.out, HNF.out _ _ HO5.out, HNF.out _ _ HO6.out, HNF.out _ _ (H3.out.ext0 hE6'), fun y hy => Nat.le_trans hBw.size (Nat.le_trans hsz5 (HN5.out y hy)), fun y hy => Nat.le_trans hBw.size (Nat.le_trans hsz6 (HN6.out y hy)), H6.out⟩, HI.out.2.step HI.out.1 HTS.out HG.out HH.out HP5.out HP6.out, HAP.out (by rw [← HME.out]; exact HMV.out)⟩
                case measure => simp [intOf]; omega
            · obtain rfl : k = us.length := by omega
              go_wp2
              go_ret2
              have hBw : Ext [] w wr := hE0.trans' hB2 (by simp) (fun x hx => by simp at hx; subst hx; exact .inr hbw)
              exact ⟨_, 0, rfl, hBw, .inr (.inr (.inr ⟨by omega, by omega, HALL.out, HA.out, rfl, b, s, rfl, hbw, HR.out, HI.out.1, HI.out.2⟩))⟩

end Go.Proofs.Ytaknhoplgcnhkaa
