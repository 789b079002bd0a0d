
import Derived.Test.YtgfajlaibgbdoaaGreatSpM
namespace Go.Proofs.YtgfajlaibgbdoaaGreat
open Go.RowKit

def goodB (cells : Int) (r : Rng) : Bool := decide (0 ≤ r.1) && decide (r.2 ≤ cells) && decide (r.1 < r.2)

/-- the first ranges are apart from each other. -/
def ApartTo (us : List Rng) (k : Nat) : Prop := ∀ i < k, meetsB (us.take i) (us.getD i (0,0)) = false

structure Fresh (s : Spc) (nc : Int) (us : List Rng) (k : Nat) : Prop where
  cells : s.cells = nc
  back : s.back = 0
  leaving : s.leaving = []
  used : ∀ c, Mem s.used c ↔ Mem (us.take k) c
  cnt : cntL s.free = nc - cntL (us.take k)

theorem hasB_of_mem {s : List Rng} {r : Rng} (hs : Ok s) (hr : r.1 < r.2) (h : ∀ c, r.1 ≤ c ∧ c < r.2 → Mem s c) : hasB s r = true := by
  obtain ⟨x, hx, h1, h2⟩ := h r.1 ⟨by omega, hr⟩
  simp only [hasB, List.any_eq_true, Bool.and_eq_true, decide_eq_true_eq]
  refine ⟨x, hx, h1, ?_⟩
  rcases Int.lt_or_le x.2 r.2 with h3 | h3
  · obtain ⟨y, hy, h4, h5⟩ := h x.2 ⟨by omega, h3⟩
    obtain ⟨i, hi, rfl⟩ := List.getElem_of_mem hx
    obtain ⟨j, hj, rfl⟩ := List.getElem_of_mem hy
    have e1 : s.getD i (0,0) = s[i] := by simp [List.getD, hi]
    have e2 : s.getD j (0,0) = s[j] := by simp [List.getD, hj]
    rcases Nat.lt_trichotomy i j with h6 | h6 | h6
    · have := hs.lt h6 hj; rw [e1, e2] at this; omega
    · subst h6; omega
    · have := hs.lt h6 hi; rw [e1, e2] at this; have := hs.2 _ hy; omega
  · exact h3

theorem mem_of_hasB {s : List Rng} {r : Rng} (h : hasB s r = true) : ∀ c, r.1 ≤ c ∧ c < r.2 → Mem s c := by
  simp only [hasB, List.any_eq_true, Bool.and_eq_true, decide_eq_true_eq] at h
  obtain ⟨x, hx, h1, h2⟩ := h
  exact fun c hc => ⟨x, hx, by omega, by omega⟩

theorem meetsB_congr {s t : List Rng} {r : Rng} (hr : r.1 < r.2) (hs : ∀ x ∈ s, x.1 < x.2) (ht : ∀ x ∈ t, x.1 < x.2) (h : ∀ c, Mem s c ↔ Mem t c) : meetsB s r = meetsB t r := by
  rw [Bool.eq_iff_iff, meetsB_iff hr hs, meetsB_iff hr ht]
  simp only [h]

theorem goodB_iff {nc : Int} {r : Rng} : goodB nc r = true ↔ 0 ≤ r.1 ∧ r.2 ≤ nc ∧ r.1 < r.2 := by
  simp only [goodB, Bool.and_eq_true, decide_eq_true_eq, and_assoc]

theorem Fresh.start {nc : Int} (us : List Rng) (h1 : 1 ≤ nc) (h2 : nc ≤ 40000) : SpI ⟨nc, [(0, nc)], [], [], 0⟩ ∧ Fresh ⟨nc, [(0, nc)], [], [], 0⟩ nc us 0 := by
  refine ⟨⟨h1, h2, ⟨List.pairwise_singleton _ _, by simp; omega⟩, Ok.nil, Ok.nil, ?_, ?_, ?_, ?_, by simp, by simp [cntL]; omega⟩, ⟨rfl, rfl, rfl, ?_, by simp [cntL]⟩⟩ <;> simp [Mem]

theorem Fresh.meets {s : Spc} {nc : Int} {us : List Rng} {k : Nat} (h : Fresh s nc us k) (hi : SpI s) (hall : us.all (goodB nc) = true) {x : Rng} (hx : x.1 < x.2) : meetsB s.used x = meetsB (us.take k) x := by
  refine meetsB_congr hx (fun y hy => (hi.okU.2 y hy).2.1) (fun y hy => ?_) h.used
  have := goodB_iff.1 (List.all_eq_true.1 hall y (List.mem_of_mem_take hy))
  exact this.2.2

theorem Fresh.has {s : Spc} {nc : Int} {us : List Rng} {k : Nat} (h : Fresh s nc us k) (hi : SpI s) {x : Rng} (hx : goodB nc x = true) (hm : meetsB s.used x = false) : hasB s.free x = true := by
  obtain ⟨h1, h2, h3⟩ := goodB_iff.1 hx
  refine hasB_of_mem hi.okF h3 (fun c hc => ?_)
  have h4 := (hi.all c).1 ⟨by omega, by rw [h.cells]; omega⟩
  rcases h4 with h4 | h4 | h4
  · exact h4
  · have h5 : meetsB s.used x = true := (meetsB_iff h3 (fun y hy => (hi.okU.2 y hy).2.1)).2 ⟨c, h4, hc⟩
    rw [hm] at h5; cases h5
  · rw [h.leaving] at h4; exact (Mem_nil h4).elim

theorem Fresh.step {s : Spc} {nc : Int} {us : List Rng} {k : Nat} (h : Fresh s nc us k) (hi : SpI s) {x : Rng} (hxe : us.take (k + 1) = us.take k ++ [x]) (hx : goodB nc x = true)
    (hh : hasB s.free x = true) {F U : List Rng}
    (hF : Ok F ∧ (∀ c, Mem F c ↔ Mem s.free c ∧ ¬ (x.1 ≤ c ∧ c < x.2)) ∧ cntL F = cntL s.free - (x.2 - x.1))
    (hU : Ok U ∧ (∀ c, Mem U c ↔ Mem s.used c ∨ (x.1 ≤ c ∧ c < x.2)) ∧ cntL U = cntL s.used + (x.2 - x.1)) : SpI ⟨s.cells, F, U, s.leaving, s.back⟩ ∧ Fresh ⟨s.cells, F, U, s.leaving, s.back⟩ nc us (k + 1) := by
  obtain ⟨f1, f2, f3⟩ := hF
  obtain ⟨u1, u2, u3⟩ := hU
  obtain ⟨h1, h2, h3⟩ := goodB_iff.1 hx
  have hm := mem_of_hasB hh
  have hiff : ∀ c, (x.1 ≤ c ∧ c < x.1 + (x.2 - x.1)) ↔ (x.1 ≤ c ∧ c < x.2) := by intro c; omega
  have ht : Took s ⟨s.cells, F, U, s.leaving, s.back⟩ x.1 (x.2 - x.1) :=
    ⟨rfl, rfl, rfl, by intro c; rw [hiff]; exact f2 c, by intro c; rw [hiff]; exact u2 c, f3, u3, h1, fun c hc => hm c (by omega)⟩
  have hn := cntL_nonneg f1
  have hb := h.back
  refine ⟨hi.took ht f1 u1 (by omega), ⟨h.cells, h.back, h.leaving, fun c => ?_, ?_⟩⟩
  · show Mem U c ↔ _
    rw [u2 c, h.used c, hxe, Mem_append, Mem_cons]
    have := @Mem_nil c
    grind
  · show cntL F = _
    rw [f3, h.cnt, hxe, cntL_append]
    simp [cntL]; omega

def NewRel (cells : Int) (us : List Rng) (w w' : World) (p : Option Addr) (err : Int) : Prop :=
  ((cells < 1 ∨ 40000 < cells) ∧ p = none ∧ err = 1) ∨
  (1 ≤ cells ∧ cells ≤ 40000 ∧ us.all (goodB cells) = false ∧ p = none ∧ err = 2) ∨
  (1 ≤ cells ∧ cells ≤ 40000 ∧ us.all (goodB cells) = true ∧ ¬ ApartTo us us.length ∧ p = none ∧ err = 8) ∨
  (1 ≤ cells ∧ cells ≤ 40000 ∧ us.all (goodB cells) = true ∧ ApartTo us us.length ∧ err = 0 ∧ ∃ b s, p = some ⟨b, 0, none⟩ ∧ w.heap.size ≤ b ∧ SpR w' b s ∧ SpI s ∧ Fresh s cells us us.length)

def NewPost (cells : Int) (us : List Rng) (w : World) (e : Ending) (w' : World) : Prop :=
  ∃ p err, e = .returned (.tuple #[.pointer p, .int .i64 err]) ∧ Ext [] w w' ∧ NewRel cells us w w' p err

set_option maxRecDepth 100000 in
set_option maxHeartbeats 1000000 in
theorem new_c (cells : Int) (v : Value) (us : List Rng) (w : World) (hu : ER.Rd w v us) (hc1 : -9223372036854775808 ≤ cells) (hc2 : cells ≤ 9223372036854775807) (hl : us.length ≤ 9223372036854775807) :
    Calls Tryz.prog 24 #[.int .i64 cells, v] w (NewPost cells us w) := by
  obtain ⟨pv, cv, rfl, _⟩ := hu.len_eq
  have HU := Lib.hid hu
  clear hu
  by_cases g1 : cells < 1
  · go_enter Tryz.func24, Tryz.ntmps24
    go_wp2
    go_ret2
    exact ⟨none, 1, rfl, Ext.refl _ _, .inl ⟨.inl g1, rfl, rfl⟩⟩
  · by_cases g2 : 40000 < cells
    · go_enter Tryz.func24, Tryz.ntmps24
      go_wp2
      go_ret2
      exact ⟨none, 1, rfl, Ext.refl _ _, .inl ⟨.inr g2, rfl, rfl⟩⟩
    · go_enter Tryz.func24, Tryz.ntmps24
      go_wp2_with fail
      go_loopw [7, 19] (fun _ i wr => ∃ k : Nat, k ≤ us.length ∧ i = .int .i64 k ∧ Ext [] w wr ∧ Hid ((us.take k).all (goodB cells) = true)) (fun _ i _ => us.length - (intOf i).toNat)
      case atStart => exact ⟨0, Nat.zero_le _, rfl, Ext.refl _ _, rfl⟩
      case round =>
        obtain ⟨k, hk, rfl, hB, hall⟩ := hrel
        by_cases hlt : k < us.length
        · obtain ⟨g, o, rfl⟩ : ∃ g o, pv = some ⟨g, o, none⟩ := by
            rcases HU.out with ⟨_, h⟩ | ⟨g, o, c, h, _⟩
            · rw [h] at hlt; simp at hlt
            · cases h; exact ⟨g, o, rfl⟩
          obtain ⟨hm1, hm2⟩ := ER_cells (HU.out.ext0 hB) k hlt
          have hts : us.take (k + 1) = us.take k ++ [us.getD k (0,0)] := take_step hlt
          have hmem : us.getD k (0,0) ∈ us := getD_mem hlt
          obtain ⟨x, hx⟩ : ∃ x, x = us.getD k (0,0) := ⟨_, rfl⟩
          rw [← hx] at hm1 hm2 hts hmem
          have HTS := Lib.hid hts
          have HM := Lib.hid hmem
          clear hx hts hmem
          by_cases gx : goodB cells x = true
          · have HGX := Lib.hid gx
            simp only [goodB, Bool.and_eq_true, decide_eq_true_eq] at gx
            obtain ⟨⟨a1, a2⟩, a3⟩ := gx
            go_wp2
            go_roundw
            case rel =>
              refine ⟨k + 1, by omega, by go_num, hB.alloc _, ?_⟩
              show _ = true
              rw [HTS.out, List.all_append, hall.out]
              simp [HGX.out]
            case measure => simp [intOf]; omega
          · have hbad : us.all (goodB cells) = false := by
              cases h : us.all (goodB cells) with
              | false => rfl
              | true => exact (gx (List.all_eq_true.1 h x HM.out)).elim
            have HBAD := Lib.hid hbad
            have gx' : ¬ (0 ≤ x.1) ∨ ¬ (x.2 ≤ cells) ∨ ¬ (x.1 < x.2) := by
              simp only [goodB, Bool.and_eq_true, decide_eq_true_eq] at gx
              omega
            clear hbad gx
            by_cases a1 : x.1 < 0
            · clear gx'
              go_wp2
              go_ret2
              exact ⟨none, 2, rfl, hB.alloc _, .inr (.inl ⟨by omega, by omega, HBAD.out, rfl, rfl⟩)⟩
            · by_cases a2 : cells < x.2
              · clear gx'
                go_wp2
                go_ret2
                exact ⟨none, 2, rfl, hB.alloc _, .inr (.inl ⟨by omega, by omega, HBAD.out, rfl, rfl⟩)⟩
              · have a3 : x.2 ≤ x.1 := by omega
                clear gx'
                go_wp2
                go_ret2
                exact ⟨none, 2, rfl, hB.alloc _, .inr (.inl ⟨by omega, by omega, HBAD.out, rfl, rfl⟩)⟩
        · obtain rfl : k = us.length := by omega
          have hall' : us.all (goodB cells) = true := by have h := hall.out; rwa [List.take_length] at h
          have HALL := Lib.hid hall'
          clear hall' hall
          go_wp2_with fail
          have hE0 : Ext [] w ((wr.alloc (.cells #[.int .i64 0, .int .i64 cells] 104)).alloc (.cells #[.int .i64 cells, .slice (some ⟨wr.heap.size, 0, none⟩) 1 1, .slice none 0 0, .slice none 0 0, .int .i64 0] 114)) := (hB.alloc _).alloc _
          have hb0 : ((wr.alloc (.cells #[.int .i64 0, .int .i64 cells] 104)).alloc (.cells #[.int .i64 cells, .slice (some ⟨wr.heap.size, 0, none⟩) 1 1, .slice none 0 0, .slice none 0 0, .int .i64 0] 114)).heap[wr.heap.size + 1]? = some (.cells #[.int .i64 cells, .slice (some ⟨wr.heap.size, 0, none⟩) 1 1, .slice none 0 0, .slice none 0 0, .int .i64 0] 114 (0, 0)) := blk_new (by simp)
          have hF0 : ER.Ow 104 ((wr.alloc (.cells #[.int .i64 0, .int .i64 cells] 104)).alloc (.cells #[.int .i64 cells, .slice (some ⟨wr.heap.size, 0, none⟩) 1 1, .slice none 0 0, .slice none 0 0, .int .i64 0] 114)) (.slice (some ⟨wr.heap.size, 0, none⟩) 1 1) [(0, cells)] := (one_rd rfl).ext0 ((Ext.refl [] _).alloc _)
          have hr0 : SpR _ (wr.heap.size + 1) ⟨cells, [(0, cells)], [], [], 0⟩ := ⟨_, _, _, _, _, _, _, _, _, hb0, hF0, .inl ⟨rfl, rfl⟩, .inl ⟨rfl, rfl⟩⟩
          have hi0 := Fresh.start us (show 1 ≤ cells by omega) (by omega)
          have hbw : w.heap.size ≤ wr.heap.size + 1 := by have := hB.size; omega
          obtain ⟨b, hbe⟩ : ∃ b, b = wr.heap.size + 1 := ⟨_, rfl⟩
          rw [← hbe] at hr0 hbw
          simp only [← hbe]
          have HR0 := Lib.hid hr0
          have HI0 := Lib.hid hi0
          clear hb0 hF0 hr0 hi0
          revert HR0 hE0
          generalize World.alloc _ _ = W0
          intro hE0 HR0
          clear hbe
          go_loopw [10, 48] (fun _ i wr => ∃ (k : Nat) (s : Spc), k ≤ us.length ∧ i = .int .i64 k ∧ Ext [b] W0 wr ∧ Hid (SpR wr b s) ∧ Hid (SpI s ∧ Fresh s cells us k) ∧ Hid (ApartTo us k)) (fun _ i _ => us.length - (intOf i).toNat)
          case atStart => exact ⟨0, _, Nat.zero_le _, rfl, Ext.refl _ _, HR0, HI0, fun i hi => by omega⟩
          case round =>
            obtain ⟨k, s, hk, rfl, hB2, HR, HI, HA⟩ := hrel
            by_cases hlt : k < us.length
            · obtain ⟨g, o, rfl⟩ : ∃ g o, pv = some ⟨g, o, none⟩ := by
                rcases HU.out with ⟨_, h⟩ | ⟨g, o, c, h, _⟩
                · rw [h] at hlt; simp at hlt
                · cases h; exact ⟨g, o, rfl⟩
              have hBw : Ext [] w wr := hE0.trans' hB2 (by simp) (fun x hx => by simp at hx; subst hx; exact .inr hbw)
              obtain ⟨hm1, hm2⟩ := ER_cells (HU.out.ext0 hBw) k hlt
              have hts : us.take (k + 1) = us.take k ++ [us.getD k (0,0)] := take_step hlt
              have hgood : goodB cells (us.getD k (0,0)) = true := List.all_eq_true.1 HALL.out _ (getD_mem hlt)
              have hap : ∀ h : meetsB (us.take k) (us.getD k (0,0)) = false, ApartTo us (k + 1) := fun h i hi => by
                rcases Nat.lt_or_eq_of_le (Nat.lt_succ_iff.1 hi) with h' | h'
                · exact HA.out i h'
                · subst h'; exact h
              have hnap : ∀ h : meetsB (us.take k) (us.getD k (0,0)) = true, ¬ ApartTo us us.length := fun h h2 => by
                rw [h2 k hlt] at h; cases h
              obtain ⟨x, hx⟩ : ∃ x, x = us.getD k (0,0) := ⟨_, rfl⟩
              rw [← hx] at hm1 hm2 hts hgood
              simp only [← hx] at hap hnap
              have HTS := Lib.hid hts
              have HG := Lib.hid hgood
              have HAP := Lib.hid hap
              have HNAP := Lib.hid hnap
              have hg' := goodB_iff.1 hgood
              have hme := HI.out.2.meets HI.out.1 HALL.out hg'.2.2
              have HME := Lib.hid hme
              obtain ⟨x1, x2, x3⟩ := hg'
              obtain ⟨pf, nf, cf, pu, nu, cu, pl, nl, cl, hb, h1, h2, h3⟩ := HR.out
              have n1 : wr.cell? ⟨b, 1, none⟩ = some (.slice pf nf cf) := by rw [cell_of_row wr b 1 _ _ _ hb]; rfl
              have n2 : wr.cell? ⟨b, 2, none⟩ = some (.slice pu nu cu) := by rw [cell_of_row wr b 2 _ _ _ hb]; rfl
              have hbl : b < wr.heap.size := lt_of_blk hb
              have HB := Lib.hid hb
              have H1 := Lib.hid h1
              have H2 := Lib.hid h2
              have H3 := Lib.hid h3
              clear hx hts hgood hap hnap hme hb h1 h2 h3
              go_wp2_with fail
              have hE1 : Ext [] wr (wr.alloc (.cells #[.int .i64 x.1, .int .i64 x.2] 104)) := (Ext.refl [] _).alloc _
              have q2 : (wr.alloc (.cells #[.int .i64 x.1, .int .i64 x.2] 104)).cell? ⟨wr.heap.size, 0, none⟩ = some (.int .i64 x.1) := by go_simp
              have q3 : (wr.alloc (.cells #[.int .i64 x.1, .int .i64 x.2] 104)).cell? ⟨wr.heap.size, 1, none⟩ = some (.int .i64 x.2) := by go_simp
              have n1' := hE1.cell n1 (by simp)
              have n2' := hE1.cell n2 (by simp)
              go_region_held3 (fun W => W.cell? ⟨b, 2, none⟩ = some (.slice pu nu cu) ∧ W.cell? ⟨wr.heap.size, 0, none⟩ = some (.int .i64 x.1) ∧ W.cell? ⟨wr.heap.size, 1, none⟩ = some (.int .i64 x.2))
                (first | exact ⟨hE2.cell n2' (by simp), hE2.cell q2 (by simp), hE2.cell q3 (by simp)⟩ | go_keep)
                (first | (go_at_call 44; refine (meets_c _ s.used _ _ _ (H2.out.rd.ext0 hE1.drew) HI.out.1.okU x1 (by omega)).mono ?_; rintro e w1 ⟨rfl, hE2'⟩; have hE2 : Ext [] (wr.alloc (.cells #[.int .i64 x.1, .int .i64 x.2] 104)) w1 := (Ext.refl [] _).drew.trans hE2'))
              cases hmv : meetsB s.used x with
              | true =>
                have hno := HNAP.out (by rw [← HME.out]; exact hmv)
                go_wp2
                go_ret2
                exact ⟨none, 8, rfl, hBw.trans (hE1.trans hE2), .inr (.inr (.inl ⟨by omega, by omega, HALL.out, hno, rfl, rfl⟩))⟩
              | false =>
                have hhas := HI.out.2.has HI.out.1 HG.out hmv
                have HH := Lib.hid hhas
                have HMV := Lib.hid hmv
                have hE1' := hE1.trans hE2
                have q2' := hE2.cell q2 (by simp)
                have q3' := hE2.cell q3 (by simp)
                have n1'' := hE2.cell n1' (by simp)
                have n2'' := hE2.cell n2' (by simp)
                clear hhas
                go_wp2_with fail
                have hD0 : Ext [] (w1) (w1).drew := (Ext.refl [] _).drew
                refine wp_region_u (fun W => (W.cell? ⟨b, 1, none⟩ = some (.slice pf nf cf) ∧ W.cell? ⟨b, 2, none⟩ = some (.slice pu nu cu)) ∧ W.cell? ⟨wr.heap.size, 0, none⟩ = some (.int .i64 (x.1)) ∧ W.cell? ⟨wr.heap.size, 1, none⟩ = some (.int .i64 (x.2))) (fun i => decide (i < 14) && !(i == 1)) (by kernel_rfl) ⟨⟨hD0.cell (n1'') (by simp), hD0.cell (n2'') (by simp)⟩, hD0.cell (q2') (by simp), hD0.cell (q3') (by simp)⟩ (fun hS => ?_)
                (refine wpAnyU_pure (i := 1) rfl (by kernel_rfl) (by kernel_rfl) (by kernel_rfl) (by rfl) (by exact fun _ _ _ h => h) (Or.inl ⟨by rfl, fun W => by (go_simp; try rfl)⟩) ?_); (try go_frame)
                (refine wpAnyU_take (i := 0) rfl (by kernel_rfl) (by kernel_rfl) (by kernel_rfl) (by kernel_rfl) (by exact fun _ _ _ h => h) (by assumption) (Or.inl ⟨by rfl, fun W hW => by (have hWW := hW; clear hW; go_split_ands; go_simp; try rfl)⟩) ?_); (try go_frame)
                (refine wpAnyU_take (i := 2) rfl (by kernel_rfl) (by kernel_rfl) (by kernel_rfl) (by kernel_rfl) (by exact fun _ _ _ h => h) (by assumption) (Or.inl ⟨by rfl, fun W hW => by (have hWW := hW; clear hW; go_split_ands; go_simp; try rfl)⟩) ?_); (try go_frame)
                (refine wpAnyU_take (i := 3) rfl (by kernel_rfl) (by kernel_rfl) (by kernel_rfl) (by kernel_rfl) (by exact fun _ _ _ h => h) (by assumption) (Or.inl ⟨by rfl, fun W hW => by (have hWW := hW; clear hW; go_split_ands; go_simp; try rfl)⟩) ?_); (try go_frame)
                (refine wpAnyU_take (i := 4) rfl (by kernel_rfl) (by kernel_rfl) (by kernel_rfl) (by kernel_rfl) (by exact fun _ _ _ h => h) (by assumption) (Or.inl ⟨by rfl, fun W hW => by (have hWW := hW; clear hW; go_split_ands; go_simp; try rfl)⟩) ?_); (try go_frame)
                (refine wpAnyU_take (i := 5) rfl (by kernel_rfl) (by kernel_rfl) (by kernel_rfl) (by kernel_rfl) (by exact fun _ _ _ h => h) (by assumption) (Or.inl ⟨by rfl, fun W hW => by (have hWW := hW; clear hW; go_split_ands; go_simp; try rfl)⟩) ?_); (try go_frame)
                (refine wpAnyU_take (i := 6) rfl (by kernel_rfl) (by kernel_rfl) (by kernel_rfl) (by kernel_rfl) (by exact fun _ _ _ h => h) (by assumption) (Or.inl ⟨by rfl, fun W hW => by (have hWW := hW; clear hW; go_split_ands; go_simp; try rfl)⟩) ?_); (try go_frame)
                (refine wpAnyU_take (i := 8) rfl (by kernel_rfl) (by kernel_rfl) (by kernel_rfl) (by kernel_rfl) (by exact fun _ _ _ h => h) (by assumption) (Or.inl ⟨by rfl, fun W hW => by (have hWW := hW; clear hW; go_split_ands; go_simp; try rfl)⟩) ?_); (try go_frame)
                (refine wpAnyU_take (i := 9) rfl (by kernel_rfl) (by kernel_rfl) (by kernel_rfl) (by kernel_rfl) (by exact fun _ _ _ h => h) (by assumption) (Or.inl ⟨by rfl, fun W hW => by (have hWW := hW; clear hW; go_split_ands; go_simp; try rfl)⟩) ?_); (try go_frame)
                (refine wpAnyU_take (i := 10) rfl (by kernel_rfl) (by kernel_rfl) (by kernel_rfl) (by kernel_rfl) (by exact fun _ _ _ h => h) (by assumption) (Or.inl ⟨by rfl, fun W hW => by (have hWW := hW; clear hW; go_split_ands; go_simp; try rfl)⟩) ?_); (try go_frame)
                (refine wpAnyU_take (i := 11) rfl (by kernel_rfl) (by kernel_rfl) (by kernel_rfl) (by kernel_rfl) (by exact fun _ _ _ h => h) (by assumption) (Or.inl ⟨by rfl, fun W hW => by (have hWW := hW; clear hW; go_split_ands; go_simp; try rfl)⟩) ?_); (try go_frame)
                (refine wpAnyU_take (i := 12) rfl (by kernel_rfl) (by kernel_rfl) (by kernel_rfl) (by kernel_rfl) (by exact fun _ _ _ h => h) (by assumption) (Or.inl ⟨by rfl, fun W hW => by (have hWW := hW; clear hW; go_split_ands; go_simp; try rfl)⟩) ?_); (try go_frame)
                refine wpAnyU_one (i := 7) (by kernel_rfl) rfl (fun K hK => ?_)
                (try simp only [Act.put, List.getElem_toArray, List.getElem_cons_zero, List.getElem_cons_succ, List.setIfInBounds_toArray, List.set_cons_zero, List.set_cons_succ]); rw [if_pos (show Region.wanted _ _ = true from rfl)]
                go_simp
                have hD1 := (hE1').trans hD0
                refine (cut_c _ s.free _ _ _ (H1.out.ext0 hD1) HI.out.1.okF x1 x3 (by omega) HH.out).mono ?_
                rintro e w5 ⟨v5, s5, rfl, how5, hp5, hE5⟩
                have hE5' := hD1.trans hE5
                refine hK.out _ _ (fun _ => ⟨⟨hE5.cell hS.1.1 (by simp), hE5.cell hS.1.2 (by simp)⟩, hE5.cell hS.2.1 (by simp), hE5.cell hS.2.2 (by simp)⟩) (fun hS5 => ?_)
                have hS5' := hS5 rfl
                refine wpAnyU_one (i := 13) (by kernel_rfl) rfl (fun K hK => ?_)
                (try simp only [Act.put, List.getElem_toArray, List.getElem_cons_zero, List.getElem_cons_succ, List.setIfInBounds_toArray, List.set_cons_zero, List.set_cons_succ]); rw [if_pos (show Region.wanted _ _ = true from rfl)]
                go_simp
                refine (add_c _ s.used _ _ _ (H2.out.ext0 hE5') HI.out.1.okU x1 x3 (by omega) HMV.out).mono ?_
                rintro e w6 ⟨v6, s6, rfl, how6, hp6, hE6⟩
                refine hK.out _ _ (fun _ => ⟨⟨hE6.cell hS5'.1.1 (by simp), hE6.cell hS5'.1.2 (by simp)⟩, hE6.cell hS5'.2.1 (by simp), hE6.cell hS5'.2.2 (by simp)⟩) (fun hS6 => ?_)
                have hS6' := hS6 rfl
                have hE6' := hE5'.trans hE6
                have hE56 := (hD0.trans hE5).trans hE6
                have hb6 := hE6'.blk (HB).out (by simp)
                have how5' := how5.ext0 hE6
                obtain ⟨p5, c5, rfl, _⟩ := how5.rd.len_eq
                obtain ⟨p6, c6, rfl, _⟩ := how6.rd.len_eq
                have hfz6 : ∀ j, w6.frozen? ⟨b, j, none⟩ = false := fun j => frozen_of_row _ _ _ _ _ hb6
                have n61 := hS6'.1.1
                have n62 := hS6'.1.2
                have HB6 := Lib.hid hb6
                have HO5 := Lib.hid how5'
                have HO6 := Lib.hid how6
                have HP5 := Lib.hid hp5
                have HP6 := Lib.hid hp6
                clear hS hS5 hS5' hS6 hS6' hb6 how5' how5 how6 hp5 hp6
                (refine wpAnyU_pure (i := 14) rfl (by kernel_rfl) (by kernel_rfl) (by kernel_rfl) (by rfl) (by exact fun _ _ _ h => h) (Or.inl ⟨by rfl, fun W => by (go_simp; try rfl)⟩) ?_); (try go_frame)
                (refine wpAnyU_pure (i := 15) rfl (by kernel_rfl) (by kernel_rfl) (by kernel_rfl) (by rfl) (by exact fun _ _ _ h => h) (Or.inl ⟨by rfl, fun W => by (go_simp; try rfl)⟩) ?_); (try go_frame)
                refine wpAnyU_one (i := 16) (by kernel_rfl) rfl (fun K hK => ?_)
                (try simp only [Act.put, List.getElem_toArray, List.getElem_cons_zero, List.getElem_cons_succ, List.setIfInBounds_toArray, List.set_cons_zero, List.set_cons_succ]); rw [if_pos (show Region.wanted _ _ = true from rfl)]
                go_simp
                refine hK.out _ _ (fun h => by cases h) (fun _ => ?_)
                (refine wpAnyU_pure (i := 17) rfl (by kernel_rfl) (by kernel_rfl) (by kernel_rfl) (by rfl) (by exact fun _ _ _ h => h) (Or.inl ⟨by rfl, fun W => by (go_simp; try rfl)⟩) ?_); (try go_frame)
                (refine wpAnyU_pure (i := 18) rfl (by kernel_rfl) (by kernel_rfl) (by kernel_rfl) (by rfl) (by exact fun _ _ _ h => h) (Or.inl ⟨by rfl, fun W => by (go_simp; try rfl)⟩) ?_); (try go_frame)
                refine wpAnyU_one (i := 19) (by kernel_rfl) rfl (fun K hK => ?_)
                (try simp only [Act.put, List.getElem_toArray, List.getElem_cons_zero, List.getElem_cons_succ, List.setIfInBounds_toArray, List.set_cons_zero, List.set_cons_succ]); rw [if_pos (show Region.wanted _ _ = true from rfl)]
                go_simp
                refine hK.out _ _ (fun h => by cases h) (fun _ => ?_)
                refine wpAnyU_done (by kernel_rfl) ?_ _
                have hW8 : Ext [b] _ ((w6.setCell ⟨b, 1, none⟩ (.slice p5 s5.length c5)).setCell ⟨b, 2, none⟩ (.slice p6 s6.length c6)) := ((hE6'.nil (S := [b])).setCell (.inl (by simp)) _).setCell (.inl (by simp)) _
                have hW68 : Ext [b] w6 ((w6.setCell ⟨b, 1, none⟩ (.slice p5 s5.length c5)).setCell ⟨b, 2, none⟩ (.slice p6 s6.length c6)) := ((Ext.refl [b] w6).setCell (.inl (by simp)) _).setCell (.inl (by simp)) _
                have hb8 := heap_setCell_same _ b 2 _ _ (.slice p6 s6.length c6) (heap_setCell_same _ b 1 _ _ (.slice p5 s5.length c5) HB6.out)
                have HB8 := Lib.hid hb8
                clear hb8 hfz6 n61 n62
                revert hW8 hW68 HB8
                generalize World.setCell _ _ _ = w8
                intro hW8 hW68 HB8
                have hnf : ∀ (xs : List Rng) (v : Value), ER.Ow 104 w6 v xs → ER.Ow 104 w8 v xs := fun xs v h => h.ext hW68 (by simpa using h.ne HB6.out (by decide))
                have HNF := Lib.hid hnf
                clear hnf
                go_wp2
                go_roundw
                case rel =>
                  exact ⟨k + 1, ⟨s.cells, s5, s6, s.leaving, s.back⟩, by omega, by go_num, hB2.trans hW8, ⟨_, _, _, _, _, _, _, _, _, HB8.out, HNF.out _ _ HO5.out, HNF.out _ _ HO6.out, HNF.out _ _ (H3.out.ext0 hE6')⟩, HI.out.2.step HI.out.1 HTS.out HG.out HH.out HP5.out HP6.out, HAP.out (by rw [← HME.out]; exact HMV.out)⟩
                case measure => simp [intOf]; omega
            · obtain rfl : k = us.length := by omega
              go_wp2
              go_ret2
              have hBw : Ext [] w wr := hE0.trans' hB2 (by simp) (fun x hx => by simp at hx; subst hx; exact .inr hbw)
              exact ⟨_, 0, rfl, hBw, .inr (.inr (.inr ⟨by omega, by omega, HALL.out, HA.out, rfl, b, s, rfl, hbw, HR.out, HI.out.1, HI.out.2⟩))⟩

end Go.Proofs.YtgfajlaibgbdoaaGreat
