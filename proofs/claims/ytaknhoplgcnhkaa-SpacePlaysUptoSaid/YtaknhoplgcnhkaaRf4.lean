
import Derived.Test.YtaknhoplgcnhkaaRf3
import Derived.Test.YtaknhoplgcnhkaaSpQ
import Derived.Test.YtaknhoplgcnhkaaOp
namespace Go.Proofs.Ytaknhoplgcnhkaa
open Go.RowKit

/-- the states of some ranges: 1 in them, 0 beside. -/
def StM (h : List Int) (us : List Rng) : Prop := ∀ i : Nat, i < h.length → (h.getD i 9 = 1 ∧ Mem us i) ∨ (h.getD i 9 = 0 ∧ ¬ Mem us i)
/-- and those of a further one up to c. -/
def StI (h : List Int) (us : List Rng) (x : Rng) (c : Int) : Prop :=
  (∀ i : Nat, i < h.length → (h.getD i 9 = 1 ∧ (Mem us i ∨ (x.1 ≤ i ∧ (i : Int) < c))) ∨ (h.getD i 9 = 0 ∧ ¬ (Mem us i ∨ (x.1 ≤ i ∧ (i : Int) < c)))) ∧ ∀ i : Int, x.1 ≤ i ∧ i < c → ¬ Mem us i

theorem StI.start {h : List Int} {us : List Rng} {x : Rng} (s : StM h us) : StI h us x x.1 := by
  refine ⟨fun i hi => ?_, fun i hi => by omega⟩
  rcases s i hi with ⟨h1, h2⟩ | ⟨h1, h2⟩
  · exact .inl ⟨h1, .inl h2⟩
  · refine .inr ⟨h1, fun h3 => ?_⟩
    rcases h3 with h3 | h3
    · exact h2 h3
    · omega
theorem StI.hit {h : List Int} {us : List Rng} {x : Rng} {q : Nat} (s : StI h us x q) (hq : q < h.length) (hv : h.getD q 9 = 1) : Mem us q := by
  rcases s.1 q hq with ⟨_, h2⟩ | ⟨h1, _⟩
  · rcases h2 with h2 | h2
    · exact h2
    · omega
  · rw [hv] at h1; cases h1
theorem StI.step {h : List Int} {us : List Rng} {x : Rng} {q : Nat} (s : StI h us x q) (hx : x.1 ≤ q) (hq : q < h.length) (hv : h.getD q 9 ≠ 1) : StI (h.set q 1) us x ((q + 1 : Nat) : Int) := by
  have hno : ¬ Mem us q := by
    rcases s.1 q hq with ⟨h1, _⟩ | ⟨_, h2⟩
    · exact (hv h1).elim
    · exact fun h3 => h2 (.inl h3)
  refine ⟨fun i hi => ?_, fun i hi => ?_⟩
  · rw [List.length_set] at hi
    rw [getD_set 1 hi]
    by_cases h1 : q = i
    · subst h1
      rw [if_pos rfl]
      exact .inl ⟨rfl, .inr ⟨hx, by omega⟩⟩
    · rw [if_neg h1]
      rcases s.1 i hi with ⟨h2, h3⟩ | ⟨h2, h3⟩
      · refine .inl ⟨h2, ?_⟩
        rcases h3 with h3 | h3
        · exact .inl h3
        · exact .inr ⟨h3.1, by omega⟩
      · refine .inr ⟨h2, fun h4 => h3 ?_⟩
        rcases h4 with h4 | h4
        · exact .inl h4
        · exact .inr ⟨h4.1, by omega⟩
  · rcases Int.lt_or_le i q with h1 | h1
    · exact s.2 i ⟨hi.1, h1⟩
    · have e : i = q := by omega
      rw [e]; exact hno
theorem StI.done {h : List Int} {us : List Rng} {x : Rng} (s : StI h us x x.2) : StM h (us ++ [x]) := by
  intro i hi
  have hm : Mem (us ++ [x]) i ↔ (Mem us i ∨ (x.1 ≤ (i : Int) ∧ (i : Int) < x.2)) := by
    rw [Mem_append, Mem_cons]
    have := @Mem_nil (i : Int)
    grind
  rw [hm]
  exact s.1 i hi

theorem ApartTo.more {us : List Rng} {k : Nat} (h : ApartTo us k) (hm : meetsB (us.take k) (us.getD k (0,0)) = false) : ApartTo us (k + 1) := fun i hi => by
  rcases Nat.lt_or_eq_of_le (Nat.lt_succ_iff.1 hi) with h3 | h3
  · exact h i h3
  · subst h3; exact hm

def RNew (cells : Int) (us : List Rng) (w w' : World) (p : Option Addr) (err : Int) : Prop :=
  ((cells < 1 ∨ 40000 < cells) ∧ p = none ∧ err = 1) ∨
  (1 ≤ cells ∧ cells ≤ 40000 ∧ us.all (goodB cells) = false ∧ p = none ∧ err = 2) ∨
  (1 ≤ cells ∧ cells ≤ 40000 ∧ us.all (goodB cells) = true ∧ ¬ ApartTo us us.length ∧ p = none ∧ err = 8) ∨
  (1 ≤ cells ∧ cells ≤ 40000 ∧ us.all (goodB cells) = true ∧ ApartTo us us.length ∧ err = 0 ∧ ∃ b g h, p = some ⟨b, 0, none⟩ ∧ w.heap.size ≤ b ∧ w.heap.size ≤ g ∧ RfR w' b g h 0 ∧ (h.length : Int) = cells ∧ StM h us)

def RNewPost (cells : Int) (us : List Rng) (w : World) (e : Ending) (w' : World) : Prop :=
  ∃ p err, e = .returned (.tuple #[.pointer p, .int .i64 err]) ∧ Ext [] w w' ∧ RNew cells us w w' p err

set_option maxRecDepth 100000 in
set_option maxHeartbeats 1000000 in
theorem rnew_c (cells : Int) (v : Value) (us : List Rng) (w : World) (hu : AR ER w v us) (hc1 : -9223372036854775808 ≤ cells) (hc2 : cells ≤ 9223372036854775807) (hl : us.length ≤ 9223372036854775807) :
    Calls Try.prog 22 #[.int .i64 cells, v] w (RNewPost cells us w) := by
  obtain ⟨pv, cv, rfl, hu⟩ := hu
  have HU := Lib.hid hu
  clear hu
  by_cases g1 : cells < 1
  · go_enter Try.func22, Try.ntmps22
    go_wp2
    go_ret2
    exact ⟨none, 1, rfl, Ext.refl _ _, .inl ⟨.inl g1, rfl, rfl⟩⟩
  · by_cases g2 : 40000 < cells
    · go_enter Try.func22, Try.ntmps22
      go_wp2
      go_ret2
      exact ⟨none, 1, rfl, Ext.refl _ _, .inl ⟨.inr g2, rfl, rfl⟩⟩
    · obtain ⟨C, rfl⟩ : ∃ C : Nat, cells = C := ⟨cells.toNat, by omega⟩
      have hmk := make_ints C (by omega)
      go_enter Try.func22, Try.ntmps22
      go_wp2_with fail
      go_loopw [6] (fun i wr => ∃ k : Nat, k ≤ us.length ∧ i = .int .i64 k ∧ Ext [] w wr ∧ Hid ((us.take k).all (goodB C) = true)) (fun i _ => us.length - (intOf i).toNat)
      case atStart => exact ⟨0, Nat.zero_le _, rfl, Ext.refl _ _, rfl⟩
      case round =>
        obtain ⟨k, hk, rfl, hB, hall⟩ := hrel
        by_cases hlt : k < us.length
        · obtain ⟨ga, o, rfl⟩ : ∃ g o, pv = some ⟨g, o, none⟩ := by
            rcases (HU.out (by intro h; rw [h] at hlt; simp at hlt)) with ⟨_, h⟩ | ⟨g, o, c, h, _⟩
            · rw [h] at hlt; simp at hlt
            · cases h; exact ⟨g, o, rfl⟩
          obtain ⟨hm1, hm2⟩ := ER_cells ((HU.out (by intro h; rw [h] at hlt; simp at hlt)).ext0 hB) k hlt
          have hts : us.take (k + 1) = us.take k ++ [us.getD k (0,0)] := take_step hlt
          have hmem : us.getD k (0,0) ∈ us := getD_mem hlt
          obtain ⟨x, hx⟩ : ∃ x, x = us.getD k (0,0) := ⟨_, rfl⟩
          rw [← hx] at hm1 hm2 hts hmem
          have HTS := Lib.hid hts
          have HM := Lib.hid hmem
          have z1 : (k : Int) < ((us.length : Nat) : Int) := by omega
          have d0 : (0 : Int) ≤ (k : Int) := by omega
          have d1 : ((k : Nat) : Int).toNat = k := by omega
          clear hx hts hmem
          by_cases gx : goodB C x = true
          · have HGX := Lib.hid gx
            simp only [goodB, Bool.and_eq_true, decide_eq_true_eq] at gx
            obtain ⟨⟨a1, a2⟩, a3⟩ := gx
            have b1 : decide (x.1 < 0) = false := by simp; omega
            have b2 : decide ((C : Int) < x.2) = false := by simp; omega
            have b3 : decide (x.2 ≤ x.1) = false := by simp; omega
            go_wp2_with fail
            go_big_quiet (fail)
            go_wp2_with fail
            go_roundw
            case rel =>
              refine ⟨k + 1, by omega, by go_num, by first | exact hB.drewN _ | exact hB, ?_⟩
              show _ = true
              rw [HTS.out, List.all_append, hall.out]
              simp [HGX.out]
            case measure => simp [intOf]; omega
          · have hbad : us.all (goodB C) = false := by
              cases h : us.all (goodB C) with
              | false => rfl
              | true => exact (gx (List.all_eq_true.1 h x HM.out)).elim
            have HBAD := Lib.hid hbad
            have gx' : ¬ (0 ≤ x.1) ∨ ¬ (x.2 ≤ C) ∨ ¬ (x.1 < x.2) := by
              simp only [goodB, Bool.and_eq_true, decide_eq_true_eq] at gx
              omega
            clear hbad gx
            by_cases a1 : x.1 < 0
            · have b1 : decide (x.1 < 0) = true := by simp; omega
              clear gx'
              go_wp2_with fail
              go_big_quiet (fail)
              go_wp2
              go_ret2
              exact ⟨none, 2, rfl, by first | exact hB.drewN _ | exact hB, .inr (.inl ⟨by omega, by omega, HBAD.out, rfl, rfl⟩)⟩
            · have b1 : decide (x.1 < 0) = false := by simp; omega
              by_cases a2 : (C : Int) < x.2
              · have b2 : decide ((C : Int) < x.2) = true := by simp; omega
                clear gx'
                go_wp2_with fail
                go_big_quiet (fail)
                go_wp2
                go_ret2
                exact ⟨none, 2, rfl, by first | exact hB.drewN _ | exact hB, .inr (.inl ⟨by omega, by omega, HBAD.out, rfl, rfl⟩)⟩
              · have b2 : decide ((C : Int) < x.2) = false := by simp; omega
                have b3 : decide (x.2 ≤ x.1) = true := by simp; omega
                have a3 : x.2 ≤ x.1 := by omega
                clear gx'
                go_wp2_with fail
                go_big_quiet (fail)
                go_wp2
                go_ret2
                exact ⟨none, 2, rfl, by first | exact hB.drewN _ | exact hB, .inr (.inl ⟨by omega, by omega, HBAD.out, rfl, rfl⟩)⟩
        · obtain rfl : k = us.length := by omega
          have hall' : us.all (goodB C) = true := by have h := hall.out; rwa [List.take_length] at h
          have HALL := Lib.hid hall'
          have z1 : ¬ (((us.length : Nat) : Int) < ((us.length : Nat) : Int)) := by omega
          clear hall' hall hlt
          go_wp2_with fail
          have hE0 : Ext [] w ((wr.alloc (.cells (EI.flat (List.replicate C 0)).toArray 3)).alloc (.cells #[.slice (some ⟨wr.heap.size, 0, none⟩) C C, .int .i64 0] 74)) := (hB.alloc _).alloc _
          have hb0 : ((wr.alloc (.cells (EI.flat (List.replicate C 0)).toArray 3)).alloc (.cells #[.slice (some ⟨wr.heap.size, 0, none⟩) C C, .int .i64 0] 74)).heap[wr.heap.size + 1]? = some (.cells #[.slice (some ⟨wr.heap.size, 0, none⟩) C C, .int .i64 0] 74 (0, 0)) := by
            have h := heap_alloc_new (wr.alloc (.cells (EI.flat (List.replicate C 0)).toArray 3)) (.cells #[.slice (some ⟨wr.heap.size, 0, none⟩) C C, .int .i64 0] 74)
            simpa using h
          have hg0 : ((wr.alloc (.cells (EI.flat (List.replicate C 0)).toArray 3)).alloc (.cells #[.slice (some ⟨wr.heap.size, 0, none⟩) C C, .int .i64 0] 74)).heap[wr.heap.size]? = some (.cells (EI.flat (List.replicate C 0)).toArray 3 (0, 0)) := ((Ext.refl [] _).alloc _).blk (heap_alloc_new wr _) (by simp)
          have hbw : w.heap.size ≤ wr.heap.size + 1 := by have := hB.size; omega
          have hgw : w.heap.size ≤ wr.heap.size := hB.size
          obtain ⟨b, hbe⟩ : ∃ b, b = wr.heap.size + 1 := ⟨_, rfl⟩
          obtain ⟨g, hge⟩ : ∃ g, g = wr.heap.size := ⟨_, rfl⟩
          have hbg : b ≠ g := by omega
          simp only [← hge] at hb0 hg0 hE0 hbw hgw hbe
          rw [← hbe] at hb0 hbw
          simp only [← hge]
          simp only [← hbe]
          have HB0 := Lib.hid hb0
          have HG0 := Lib.hid hg0
          clear hb0 hg0 hmk
          revert HB0 HG0 hE0
          generalize World.alloc _ _ = W0
          intro hE0 HB0 HG0
          clear hbe hge
          go_loopw [8, 9] (fun iv _ wr => ∃ (k : Nat) (h : List Int), k ≤ us.length ∧ iv = .int .i64 k ∧ Ext [g] W0 wr ∧ Hid (wr.heap[g]? = some (.cells (EI.flat h).toArray 3 (0, 0))) ∧ h.length = C ∧ Hid (StM h (us.take k)) ∧ Hid (ApartTo us k)) (fun iv _ _ => us.length - (intOf iv).toNat)
          case atStart => exact ⟨0, _, Nat.zero_le _, rfl, Ext.refl _ _, HG0, by simp, fun i hi => .inr ⟨by simp at hi; simp [hi], fun h => (Mem_nil h).elim⟩, fun i hi => by omega⟩
          case round =>
            obtain ⟨k, h, hk, rfl, hB2, HG, hlC, HS, HA⟩ := hrel
            have hBw : Ext [] w wr := hE0.trans' hB2 (by simp) (fun x hx => by simp at hx; subst hx; exact .inr hgw)
            by_cases hlt : k < us.length
            · obtain ⟨ga, o, rfl⟩ : ∃ g o, pv = some ⟨g, o, none⟩ := by
                rcases (HU.out (by intro h; rw [h] at hlt; simp at hlt)) with ⟨_, h⟩ | ⟨g, o, c, h, _⟩
                · rw [h] at hlt; simp at hlt
                · cases h; exact ⟨g, o, rfl⟩
              obtain ⟨hm1, hm2⟩ := ER_cells ((HU.out (by intro h; rw [h] at hlt; simp at hlt)).ext0 hBw) k hlt
              have hts : us.take (k + 1) = us.take k ++ [us.getD k (0,0)] := take_step hlt
              have hgood : goodB C (us.getD k (0,0)) = true := List.all_eq_true.1 HALL.out _ (getD_mem hlt)
              have hmore := fun hm => HA.out.more (k := k) hm
              have hne : ∀ h : meetsB (us.take k) (us.getD k (0,0)) = true, ¬ ApartTo us us.length := fun h h2 => by
                have h3 := h2 k hlt
                rw [h] at h3; cases h3
              have hmi : ∀ {r : Rng}, r.1 < r.2 → (meetsB (us.take k) r = true ↔ ∃ c, Mem (us.take k) c ∧ r.1 ≤ c ∧ c < r.2) := fun hr => meetsB_iff hr (fun y hy => by
                have := goodB_iff.1 (List.all_eq_true.1 HALL.out y (List.mem_of_mem_take hy))
                exact this.2.2)
              have hgal : g ≠ ga := by
                intro h
                have := (HU.out (by intro h; rw [h] at hlt; simp at hlt)).lt ga (by simp [blkL]); omega
              obtain ⟨x, hx⟩ : ∃ x, x = us.getD k (0,0) := ⟨_, rfl⟩
              rw [← hx] at hm1 hm2 hts hgood hmore hne
              obtain ⟨b1, b2, b3⟩ := goodB_iff.1 hgood
              have hmx := hmi b3
              obtain ⟨F, hF⟩ : ∃ F : Nat, x.1 = F := ⟨x.1.toNat, by omega⟩
              obtain ⟨T, hT⟩ : ∃ T : Nat, x.2 = T := ⟨x.2.toNat, by omega⟩
              have z1 : (k : Int) < ((us.length : Nat) : Int) := by omega
              have HTS := Lib.hid hts
              have HMORE := Lib.hid hmore
              have HNE := Lib.hid hne
              have HMX := Lib.hid hmx
              have HF := Lib.hid hF
              have HX := Lib.hid hx
              have HT := Lib.hid hT
              rw [hF] at hm1
              rw [hT] at hm2
              have f1 : F < T := by omega
              have f2 : T ≤ C := by omega
              have hst := StI.start (x := x) HS.out
              rw [hF] at hst
              have HST := Lib.hid hst
              clear hx hts hgood hmore hne hmi hmx b1 b2 b3 hF hT hst
              go_wp2_with fail
              go_loopw [9] (fun cv wr2 => ∃ (q : Nat) (h' : List Int), F ≤ q ∧ q ≤ T ∧ cv = .int .i64 q ∧ Ext [g] W0 wr2 ∧ Hid (wr2.heap[g]? = some (.cells (EI.flat h').toArray 3 (0, 0))) ∧ h'.length = C ∧ Hid (StI h' (us.take k) x q)) (fun cv _ => T - (intOf cv).toNat)
              case atStart => exact ⟨F, h, Nat.le_refl _, by omega, rfl, hB2, HG, hlC, HST⟩
              case round =>
                obtain ⟨q, h', hq0, hq1, rfl, hB3, HG3, hl3, HI3⟩ := hrel
                have hBw3 : Ext [] w wr := hE0.trans' hB3 (by simp) (fun x hx => by simp at hx; subst hx; exact .inr hgw)
                obtain ⟨_, n2⟩ := ER_cells ((HU.out (by intro h; rw [h] at hlt; simp at hlt)).ext0 hBw3) k hlt
                rw [← HX.out, HT.out] at n2
                have hb3 := hB3.blk HB0.out (by simpa using hbg)
                have m0 : wr.cell? ⟨b, 0, none⟩ = some (.slice (some ⟨g, 0, none⟩) C C) := by rw [cell_of_row wr b 0 _ _ _ hb3]; rfl
                clear hb3
                by_cases hq : q < T
                · have y1 : (q : Int) < (T : Int) := by omega
                  have y2 : (q : Int) < (C : Int) := by omega
                  have hlq : q < h'.length := by omega
                  have hcell := row_get HG3.out hlq
                  have hfz : ∀ j, wr.frozen? ⟨g, j, none⟩ = false := fun j => frozen_of_row _ _ _ _ _ HG3.out
                  by_cases hv : h'.getD q 9 = 1
                  · have hmem := HI3.out.hit hlq hv
                    have hno := HNE.out (HMX.out.2 ⟨q, hmem, by rw [HF.out]; omega, by rw [HT.out]; omega⟩)
                    have HNO := Lib.hid hno
                    rw [hv] at hcell
                    clear hv hmem hno
                    go_wp2
                    go_ret2
                    exact ⟨none, 8, rfl, hBw3, .inr (.inr (.inl ⟨by omega, by omega, HALL.out, HNO.out, rfl, rfl⟩))⟩
                  · have hst := HI3.out.step (by rw [HF.out]; omega) hlq hv
                    have HST3 := Lib.hid hst
                    generalize h'.getD q 9 = z at hv hcell
                    have hz' : (z == 1) = false := by simpa using hv
                    clear hst
                    go_wp2_with fail
                    go_roundw
                    case rel => exact ⟨q + 1, _, by omega, by omega, by go_num, hB3.setCell (.inl (by simp)) _, row_set HG3.out q 1, by rw [List.length_set]; exact hl3, HST3⟩
                    case measure => simp [intOf]; omega
                · have y1 : ¬ ((q : Int) < (T : Int)) := by omega
                  obtain rfl : q = T := by omega
                  have hsm : StM h' (us.take (k + 1)) := by
                    rw [HTS.out]
                    refine StI.done ?_
                    rw [HT.out]
                    exact HI3.out
                  have hap : ApartTo us (k + 1) := HMORE.out (by
                    cases hm : meetsB (us.take k) x with
                    | false => rfl
                    | true =>
                      obtain ⟨c, hc1, hc2, hc3⟩ := HMX.out.1 hm
                      rw [HF.out] at hc2
                      rw [HT.out] at hc3
                      exact (HI3.out.2 c ⟨by rw [HF.out]; exact hc2, hc3⟩ hc1).elim)
                  have HSM := Lib.hid hsm
                  have HAP := Lib.hid hap
                  clear hsm hap
                  go_wp2_with fail
                  go_roundw
                  case rel => exact ⟨k + 1, h', by omega, by go_num, hB3, HG3, hl3, HSM, HAP⟩
                  case measure => simp [intOf]; omega
            · obtain rfl : k = us.length := by omega
              have z1 : ¬ (((us.length : Nat) : Int) < ((us.length : Nat) : Int)) := by omega
              have hs := HS.out
              rw [List.take_length] at hs
              have HS' := Lib.hid hs
              have hb3 := hB2.blk HB0.out (by simpa using hbg)
              have HB3 := Lib.hid hb3
              clear hs hb3
              go_wp2
              go_ret2
              exact ⟨_, 0, rfl, hBw, .inr (.inr (.inr ⟨by omega, by omega, HALL.out, HA.out, rfl, b, g, h, rfl, hbw, hgw, ⟨by rw [hlC]; exact HB3.out, HG.out⟩, by rw [hlC], HS'.out⟩))⟩

end Go.Proofs.Ytaknhoplgcnhkaa
