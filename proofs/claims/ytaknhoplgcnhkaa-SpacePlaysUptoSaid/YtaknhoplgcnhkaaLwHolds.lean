
import Derived.Test.YtaknhoplgcnhkaaSt
import Derived.Deep.CutBlock
namespace Go.Proofs.Ytaknhoplgcnhkaa
open Go.RowKit

def EO : Enc (Int × Int × Int) where
  k := 3
  hk := by decide
  enc x := [.int .i64 x.1, .int .i64 x.2.1, .int .i64 x.2.2]
  len _ := rfl
  one _ v hv := by simp at hv; rcases hv with rfl | rfl | rfl <;> rfl

theorem EO_cells {w : World} {g o n cap : Nat} {s : List (Int × Int × Int)} (h : EO.Rd w (.slice (some ⟨g, o, none⟩) n cap) s) (i : Nat) (hi : i < s.length) :
    w.cell? ⟨g, o + i * 3, none⟩ = some (.int .i64 (s.getD i (0,0,0)).1) ∧ w.cell? ⟨g, o + i * 3 + 1, none⟩ = some (.int .i64 (s.getD i (0,0,0)).2.1) ∧ w.cell? ⟨g, o + i * 3 + 2, none⟩ = some (.int .i64 (s.getD i (0,0,0)).2.2) := by
  have e : s.getD i (0,0,0) = s[i] := by simp [List.getD, hi]
  rw [e]
  exact ⟨h.cells i 0 hi (by decide), h.cells i 1 hi (by decide), h.cells i 2 hi (by decide)⟩

theorem row_get {w : World} {g : Nat} {h : List Int} (hg : w.heap[g]? = some (.cells (EI.flat h).toArray 3 (0, 0))) {j : Nat} (hj : j < h.length) : w.cell? ⟨g, j, none⟩ = some (.int .i64 (h.getD j 9)) := by
  rw [cell_of_row w g j _ _ _ hg, flatI]
  simp [List.getD, hj]
theorem row_set {w : World} {g : Nat} {h : List Int} (hg : w.heap[g]? = some (.cells (EI.flat h).toArray 3 (0, 0))) (j : Nat) (v : Int) : (w.setCell ⟨g, j, none⟩ (.int .i64 v)).heap[g]? = some (.cells (EI.flat (h.set j v)).toArray 3 (0, 0)) := by
  rw [heap_setCell_same w g j _ _ _ hg, flatI, flatI]
  simp [List.map_set]

theorem SpR.foreign {w w' : World} {b g : Nat} {s : Spc} (h : SpR w b s) (he : Ext [g] w w') (hne : b ≠ g) {c : Array Value} {f : Nat × Nat} (hg : w.heap[g]? = some (.cells c 3 f)) : SpR w' b s := by
  obtain ⟨pf, nf, cf, pu, nu, cu, pl, nl, cl, hb, a1, a2, a3⟩ := h
  exact ⟨pf, nf, cf, pu, nu, cu, pl, nl, cl, he.blk hb (by simpa using hne), a1.ext he (by simpa using a1.ne hg (by decide)), a2.ext he (by simpa using a2.ne hg (by decide)), a3.ext he (by simpa using a3.ne hg (by decide))⟩

/-- a space and its states. -/
def HeldRel (w : World) (b g C : Nat) (W : World) : Prop := ∃ (s : Spc) (h : List Int), Ext [] w W ∧ Hid (SpR W b s) ∧ Hid (SpI s ∧ s.back = 0 ∧ StRel s h) ∧ Hid (W.heap[g]? = some (.cells (EI.flat h).toArray 3 (0, 0))) ∧ h.length = C

set_option maxRecDepth 100000 in
set_option maxHeartbeats 1000000 in
theorem holds_walk (a0 : Int) (v1 : Value) (ops : List (Int × Int × Int)) (w : World) (hu : AR EO w v1 ops) :
    Calls Try.prog 3 #[.int .i64 a0, v1] w fun e w' => e = .returned (.bool true) ∧ Ext [] w w' := by
  obtain ⟨pu, cu, rfl, hu⟩ := hu
  have HU := Lib.hid hu
  clear hu
  have b0 := modw a0 70 (by omega)
  obtain ⟨C, hc⟩ : ∃ C : Nat, (C : Int) = 1 + (IntKind.u64.wrap a0).tmod 70 := ⟨(1 + (IntKind.u64.wrap a0).tmod 70).toNat, by omega⟩
  have ec : wrap64 (1 + wrap64 ((IntKind.u64.wrap a0).tmod 70)) = (C : Int) := by
    rw [show wrap64 ((IntKind.u64.wrap a0).tmod 70) = (IntKind.u64.wrap a0).tmod 70 from by unfold wrap64; omega, ← hc]
    unfold wrap64; omega
  have c1 : 1 ≤ C := by omega
  have c2 : C ≤ 70 := by omega
  have HC := Lib.hid hc
  have HEC := Lib.hid ec
  have hmk := make_ints C (by omega)
  clear hc ec b0
  go_enter Try.func3, Try.ntmps3
  go_wp2_with fail
  refine (known_c _).mono ?_
  rintro e W1 ⟨rfl, hE1⟩
  go_wp2_with fail
  rw [HEC.out]
  refine (new_c C _ [] _ (.inl ⟨rfl, rfl⟩) (by omega) (by omega) (by simp)).mono ?_
  rintro e W2 ⟨p, err, rfl, hE2, hrel⟩
  obtain ⟨rfl, b, s, rfl, hb, hr, hi, hf⟩ := hrel.ok (by omega) (by omega) rfl (by intro i hi; simp at hi)
  obtain ⟨hfr, hus⟩ := hf.all hi
  have k0 := hf.back
  have hst := StRel.start hf.cells hfr
  have HR := Lib.hid hr
  have HI := Lib.hid hi
  have HST := Lib.hid hst
  clear hrel hr hi hf hfr hus hst
  go_wp2_with fail
  have hE3 : Ext [] w (W2.alloc (.cells (EI.flat (List.replicate C 0)).toArray 3)) := (hE1.trans hE2).alloc _
  have hRel : HeldRel w b W2.heap.size C (W2.alloc (.cells (EI.flat (List.replicate C 0)).toArray 3)) := ⟨s, List.replicate C 0, hE3, HR.out.ext0 ((Ext.refl [] _).alloc _), ⟨HI.out, k0, HST.out⟩, heap_alloc_new _ _, by simp⟩
  have hbg0 := HR.out.lt
  have hgw : w.heap.size ≤ W2.heap.size := (hE1.trans hE2).size
  have hbw : w.heap.size ≤ b := by have := hE1.size; omega
  obtain ⟨g, hg⟩ : ∃ g, g = W2.heap.size := ⟨_, rfl⟩
  rw [← hg] at hRel hbg0 hgw
  simp only [← hg]
  revert hRel
  generalize World.alloc _ _ = W3
  intro hRel
  have hbg : b ≠ g := by omega
  clear hE3 HR HI HST k0 hg hE1 hE2 hb hmk
  go_loopw [8, 9, 10, 11, 12, 13, 14, 15, 16, 17, 18, 19] (fun iv _ _ _ _ _ _ _ _ _ _ _ wr => ∃ k : Nat, k ≤ ops.length ∧ k ≤ 100 ∧ iv = .int .i64 k ∧ HeldRel w b g C wr) (fun iv _ _ _ _ _ _ _ _ _ _ _ _ => ops.length - (intOf iv).toNat)
  case atStart => exact ⟨0, Nat.zero_le _, by omega, rfl, hRel⟩
  case round =>
    obtain ⟨k, hk, hk100, rfl, s, h, hB, HR, HI, HG, hl⟩ := hrel
    by_cases hlt : k < ops.length
    · have z1 : (k : Int) < ((ops.length : Nat) : Int) := by omega
      by_cases hlt2 : k < 100
      · have z2 : (k : Int) < 100 := by omega
        obtain ⟨ga, o, rfl⟩ : ∃ g o, pu = some ⟨g, o, none⟩ := by
          rcases HU.out (by intro h; rw [h] at hlt; simp at hlt) with ⟨_, h⟩ | ⟨g, o, c, h, _⟩
          · rw [h] at hlt; simp at hlt
          · cases h; exact ⟨g, o, rfl⟩
        obtain ⟨hm1, hm2, hm3⟩ := EO_cells ((HU.out (by intro h; rw [h] at hlt; simp at hlt)).ext0 hB) k hlt
        obtain ⟨x, hx⟩ : ∃ x, x = ops.getD k (0,0,0) := ⟨_, rfl⟩
        rw [← hx] at hm1 hm2 hm3
        obtain ⟨kd, fr, nn⟩ := x
        simp only at hm1 hm2 hm3
        clear hx
        have b1 := modw nn 9 (by omega)
        have b2 := modw fr C (by omega)
        obtain ⟨N, hN⟩ : ∃ N : Nat, (N : Int) = 1 + (IntKind.u64.wrap nn).tmod 9 := ⟨(1 + (IntKind.u64.wrap nn).tmod 9).toNat, by omega⟩
        obtain ⟨F, hF⟩ : ∃ F : Nat, (F : Int) = (IntKind.u64.wrap fr).tmod C := ⟨((IntKind.u64.wrap fr).tmod C).toNat, by omega⟩
        have eN : wrap64 (1 + wrap64 ((IntKind.u64.wrap nn).tmod 9)) = (N : Int) := by
          rw [show wrap64 ((IntKind.u64.wrap nn).tmod 9) = (IntKind.u64.wrap nn).tmod 9 from by unfold wrap64; omega, ← hN]
          unfold wrap64; omega
        have eC : IntKind.u64.wrap (C : Int) = C := IntWalk.u64_in _ (by omega)
        have eF : wrap64 ((IntKind.u64.wrap fr).tmod C) = (F : Int) := by
          rw [← hF]; unfold wrap64; omega
        have n1 : 1 ≤ N := by omega
        have n2 : N ≤ 9 := by omega
        have f1 : F < C := by omega
        clear hN hF b1 b2
        obtain ⟨wr0, hwr0⟩ : ∃ wr0, wr0 = wr := ⟨_, rfl⟩
        rw [← hwr0] at hB HR HG hm1 hm2 hm3
        rw [← hwr0]
        clear hwr0
        go_upto_block 2 with fail
        rw [eN, eF]
        go_cut [11, 12, 13, 14, 15, 16, 17] (fun _ _ _ _ _ _ _ W => HeldRel w b g C W)
        case first =>
          have k0 := HI.out.2.1
          have hce : s.cells = (C : Int) := by rw [HI.out.2.2.1, hl]
          by_cases g1 : kd = 1
          · subst g1
            go_wp2_with fail
            refine (take_c b s N _ HR.out HI.out.1 (by omega) (by omega)).mono ?_
            rintro e W5 ⟨s5, a, err, rfl, hr5, hi5, hE5, hrel⟩
            have hEw : Ext [] w W5 := hB.trans' hE5 (by simp) (fun y hy => .inr (by simp at hy; subst hy; exact hbw))
            have hG5 := hE5.blk HG.out (by simp; omega)
            have HR5 := Lib.hid hr5
            have HI5 := Lib.hid hi5
            have HG5 := Lib.hid hG5
            clear hr5 hi5 hG5
            rcases hrel with ⟨h1, _⟩ | ⟨_, _, rfl, rfl, rfl⟩ | ⟨_, _, ⟨f, hf, rfl⟩, rfl, ht⟩
            · omega
            · go_wp2_with fail
              go_loopw [13] (fun cv wr' => cv = .int .i64 0 ∧ wr' = W5) (fun _ _ => 0)
              case atStart => exact ⟨rfl, rfl⟩
              case round =>
                obtain ⟨rfl, rfl⟩ := hrel
                go_wp2_with fail
                go_meet
                exact ⟨s5, h, hEw, HR5, HI, HG5, hl⟩
            · have hfb := List.find?_some hf
              have hfm := mem_cells HI.out.1 (.inl (List.mem_of_find?_eq_some hf))
              simp only [fitsB, decide_eq_true_eq] at hfb
              obtain ⟨A, hA⟩ : ∃ A : Nat, (A : Int) = f.1 := ⟨f.1.toNat, by omega⟩
              have hAC : A + N ≤ C := by omega
              have hzero : ∀ q : Nat, A ≤ q → q < A + N → h.getD q 9 = 0 := fun q q1 q2 => ((HI.out.2.2.iff HI.out.1 (by omega)).1).2 (ht.at1 q (by omega))
              have HZ := Lib.hid hzero
              have HT := Lib.hid ht
              clear hzero ht hfb hfm hf
              rw [← hA] at HT
              rw [← hA]
              clear hA
              go_wp2_with fail
              go_loopw [13] (fun cv wr' => ∃ (q : Nat) (h' : List Int), A ≤ q ∧ q ≤ A + N ∧ cv = .int .i64 q ∧ Ext [g] W5 wr' ∧ Hid (wr'.heap[g]? = some (.cells (EI.flat h').toArray 3 (0, 0))) ∧ Hid (SetTo h h' A ((q : Int) - A) 1)) (fun cv _ => A + N - (intOf cv).toNat)
              case atStart => exact ⟨A, h, Nat.le_refl _, by omega, rfl, Ext.refl _ _, HG5, by show SetTo _ _ _ _ _; rw [Int.sub_self]; exact SetTo.zero _ _ _⟩
              case round =>
                obtain ⟨q, h', q0, q1, rfl, hE6, HG6, HS6⟩ := hrel
                by_cases hq : q < A + N
                · have y1 : (q : Int) < (A : Int) + (N : Int) := by omega
                  have y2 : ¬ ((q : Int) < 0) := by omega
                  have y3 : ¬ ((C : Int) ≤ (q : Int)) := by omega
                  have hlq : q < h'.length := by rw [HS6.out.1]; omega
                  have hcell := row_get HG6.out hlq
                  rw [HS6.out.2 q (by omega), if_neg (by omega), HZ.out q q0 hq] at hcell
                  have hfz : ∀ j, wr.frozen? ⟨g, j, none⟩ = false := fun j => frozen_of_row _ _ _ _ _ HG6.out
                  have y4 : (q : Int) < (C : Int) := by omega
                  go_wp2_with fail
                  go_roundw
                  case rel =>
                    refine ⟨q + 1, _, by omega, by omega, by go_num, hE6.setCell (.inl (by simp)) _, row_set HG6.out q 1, ?_⟩
                    have h1 := HS6.out.step (by omega) (by omega)
                    rw [show ((A : Int) + ((q : Int) - A)).toNat = q by omega, show (q : Int) - A + 1 = ((q + 1 : Nat) : Int) - A by omega] at h1
                    exact h1
                  case measure => simp [intOf]; omega
                · have y1 : ¬ ((q : Int) < (A : Int) + (N : Int)) := by omega
                  obtain rfl : q = A + N := by omega
                  go_wp2_with fail
                  go_meet
                  have hS := HS6.out
                  rw [show (((A + N : Nat) : Int) - A) = N by omega] at hS
                  exact ⟨s5, h', hEw.trans' hE6 (by simp) (fun y hy => .inr (by simp at hy; omega)), HR5.out.foreign hE6 hbg HG5.out, ⟨HI5.out, by rw [HT.out.back]; exact k0, HI.out.2.2.took HI.out.1 HT.out hS⟩, HG6, by rw [hS.1]; exact hl⟩
          · by_cases g2 : kd = 2
            · subst g2
              by_cases gF : F + N ≤ C
              · have y0 : (F : Int) ≤ (C : Int) - (N : Int) := by omega
                have hin : inB s F N = true := by simp [inB, hce]; omega
                have hiff := HI.out.2.2.hasU HI.out.1 (a := F) (n := N) (by omega) (by omega) (by omega)
                have HIN := Lib.hid hin
                have HIFF := Lib.hid hiff
                clear hin hiff
                go_wp2_with fail
                go_loopw [14, 15] (fun av cv wr' => ∃ q : Nat, F ≤ q ∧ q ≤ F + N ∧ cv = .int .i64 q ∧ Ext [] wr0 wr' ∧ ((av = .bool true ∧ Hid (∀ i : Nat, F ≤ i → i < q → h.getD i 9 = 1)) ∨ (av = .bool false ∧ Hid (¬ AllAre h F N 1)))) (fun _ cv _ => F + N - (intOf cv).toNat)
                case atStart => exact ⟨F, Nat.le_refl _, by omega, rfl, Ext.refl _ _, .inl ⟨rfl, fun i h1 h2 => by omega⟩⟩
                case round =>
                  obtain ⟨q, q0, q1, rfl, hE6, hcase⟩ := hrel
                  rcases hcase with ⟨rfl, hA⟩ | ⟨rfl, hN⟩
                  · by_cases hq : q < F + N
                    · have y1 : (q : Int) < (F : Int) + (N : Int) := by omega
                      have hcell := row_get (hE6.blk HG.out (by simp)) (show q < h.length by omega)
                      have y4 : (q : Int) < (C : Int) := by omega
                      by_cases hz : h.getD q 9 = 1
                      · have HZ := Lib.hid hz
                        rw [hz] at hcell
                        clear hz
                        go_wp2_with fail
                        go_roundw
                        case rel =>
                          refine ⟨q + 1, by omega, by omega, by go_num, hE6, .inl ⟨rfl, fun i h1 h2 => ?_⟩⟩
                          rcases Nat.lt_or_eq_of_le (Nat.lt_succ_iff.1 h2) with h3 | h3
                          · exact hA.out i h1 h3
                          · subst h3; exact HZ.out
                        case measure => simp [intOf]; omega
                      · have hno : ¬ AllAre h F N 1 := fun h1 => hz (h1 q ⟨by omega, by omega⟩)
                        have HNO := Lib.hid hno
                        generalize h.getD q 9 = z at hz hcell
                        have hz' : (z == 1) = false := by simpa using hz
                        clear hno
                        go_wp2_with fail
                        go_roundw
                        case rel => exact ⟨q + 1, by omega, by omega, by go_num, hE6, .inr ⟨rfl, HNO⟩⟩
                        case measure => simp [intOf]; omega
                    · have y1 : ¬ ((q : Int) < (F : Int) + (N : Int)) := by omega
                      obtain rfl : q = F + N := by omega
                      have hall : hasB s.used (F, F + N) = true := HIFF.out.2 (fun i hi => hA.out i (by omega) (by omega))
                      have HALL := Lib.hid hall
                      clear hall
                      go_wp2_with fail
                      refine (give_c b s F N _ (HR.out.ext0 hE6) HI.out.1 (by omega) (by omega) (by omega) (by omega)).mono ?_
                      rintro e W5 ⟨s5, err, rfl, hr5, hi5, hE5, hrel⟩
                      obtain ⟨rfl, ht⟩ := hrel.ok HIN.out HALL.out
                      have hEw : Ext [] w W5 := (hB.trans hE6).trans' hE5 (by simp) (fun y hy => .inr (by simp at hy; subst hy; exact hbw))
                      have hG5 := hE5.blk (hE6.blk HG.out (by simp)) (by simp; omega)
                      have HR5 := Lib.hid hr5
                      have HI5 := Lib.hid hi5
                      have HG5 := Lib.hid hG5
                      have HT := Lib.hid ht
                      clear hr5 hi5 hG5 ht hrel
                      go_wp2_with fail
                      go_loopw [16] (fun cv wr' => ∃ (q : Nat) (h' : List Int), F ≤ q ∧ q ≤ F + N ∧ cv = .int .i64 q ∧ Ext [g] W5 wr' ∧ Hid (wr'.heap[g]? = some (.cells (EI.flat h').toArray 3 (0, 0))) ∧ Hid (SetTo h h' F ((q : Int) - F) 2)) (fun cv _ => F + N - (intOf cv).toNat)
                      case atStart => exact ⟨F, h, Nat.le_refl _, by omega, rfl, Ext.refl _ _, HG5, by show SetTo _ _ _ _ _; rw [Int.sub_self]; exact SetTo.zero _ _ _⟩
                      case round =>
                        obtain ⟨q, h', q0, q1, rfl, hE6, HG6, HS6⟩ := hrel
                        by_cases hq : q < F + N
                        · have y1 : (q : Int) < (F : Int) + (N : Int) := by omega
                          have hlq : q < h'.length := by rw [HS6.out.1]; omega
                          have hcell := row_get HG6.out hlq
                          have hfz : ∀ j, wr.frozen? ⟨g, j, none⟩ = false := fun j => frozen_of_row _ _ _ _ _ HG6.out
                          have y4 : (q : Int) < (C : Int) := by omega
                          go_wp2_with fail
                          go_roundw
                          case rel =>
                            refine ⟨q + 1, _, by omega, by omega, by go_num, hE6.setCell (.inl (by simp)) _, row_set HG6.out q 2, ?_⟩
                            have h1 := HS6.out.step (by omega) (by omega)
                            rw [show ((F : Int) + ((q : Int) - F)).toNat = q by omega, show (q : Int) - F + 1 = ((q + 1 : Nat) : Int) - F by omega] at h1
                            exact h1
                          case measure => simp [intOf]; omega
                        · have y1 : ¬ ((q : Int) < (F : Int) + (N : Int)) := by omega
                          obtain rfl : q = F + N := by omega
                          go_wp2_with fail
                          go_meet
                          have hS := HS6.out
                          rw [show (((F + N : Nat) : Int) - F) = N by omega] at hS
                          exact ⟨s5, h', hEw.trans' hE6 (by simp) (fun y hy => .inr (by simp at hy; omega)), HR5.out.foreign hE6 hbg HG5.out, ⟨HI5.out, by rw [HT.out.back]; exact k0, HI.out.2.2.given HI.out.1 HT.out hS⟩, HG6, by rw [hS.1]; exact hl⟩
                  · have hall : hasB s.used (F, F + N) = false := by
                      cases h1 : hasB s.used (F, F + N) with
                      | false => rfl
                      | true => exact (hN.out (HIFF.out.1 h1)).elim
                    have HALL := Lib.hid hall
                    clear hall
                    by_cases hq : (q : Int) < (F : Int) + (N : Int)
                    · go_wp2_with fail
                      refine (give_c b s F N _ (HR.out.ext0 hE6) HI.out.1 (by omega) (by omega) (by omega) (by omega)).mono ?_
                      rintro e W5 ⟨s5, err, rfl, hr5, hi5, hE5, hrel⟩
                      obtain ⟨rfl, herr⟩ : s5 = s ∧ (err = 1 ∨ err = 7) := by
                        rcases hrel with ⟨_, h1, h2⟩ | ⟨_, _, h1, h2⟩ | ⟨h1, h2, _⟩
                        · exact ⟨h1, .inl h2⟩
                        · exact ⟨h1, .inr h2⟩
                        · first
                          | (rw [HIN.out] at h1; cases h1; done)
                          | (rw [HALL.out] at h2; cases h2; done)
                      have he0 : (err == 0) = false := by rcases herr with rfl | rfl <;> rfl
                      have hEw : Ext [] w W5 := ((hB.trans hE6)).trans' hE5 (by simp) (fun y hy => .inr (by simp at hy; subst hy; exact hbw))
                      have hG5 := hE5.blk (hE6.blk HG.out (by simp)) (by simp; omega)
                      have HR5 := Lib.hid hr5
                      have HG5 := Lib.hid hG5
                      clear hr5 hi5 hG5 hrel herr
                      go_wp2_with fail
                      go_loopw [16] (fun cv wr' => cv = .int .i64 F ∧ wr' = W5) (fun _ _ => 0)
                      case atStart => exact ⟨rfl, rfl⟩
                      case round =>
                        obtain ⟨rfl, rfl⟩ := hrel
                        go_wp2_with fail
                        go_meet
                        exact ⟨s5, h, hEw, HR5, HI, HG5, hl⟩
                    · go_wp2_with fail
                      refine (give_c b s F N _ (HR.out.ext0 hE6) HI.out.1 (by omega) (by omega) (by omega) (by omega)).mono ?_
                      rintro e W5 ⟨s5, err, rfl, hr5, hi5, hE5, hrel⟩
                      obtain ⟨rfl, herr⟩ : s5 = s ∧ (err = 1 ∨ err = 7) := by
                        rcases hrel with ⟨_, h1, h2⟩ | ⟨_, _, h1, h2⟩ | ⟨h1, h2, _⟩
                        · exact ⟨h1, .inl h2⟩
                        · exact ⟨h1, .inr h2⟩
                        · first
                          | (rw [HIN.out] at h1; cases h1; done)
                          | (rw [HALL.out] at h2; cases h2; done)
                      have he0 : (err == 0) = false := by rcases herr with rfl | rfl <;> rfl
                      have hEw : Ext [] w W5 := ((hB.trans hE6)).trans' hE5 (by simp) (fun y hy => .inr (by simp at hy; subst hy; exact hbw))
                      have hG5 := hE5.blk (hE6.blk HG.out (by simp)) (by simp; omega)
                      have HR5 := Lib.hid hr5
                      have HG5 := Lib.hid hG5
                      clear hr5 hi5 hG5 hrel herr
                      go_wp2_with fail
                      go_loopw [16] (fun cv wr' => cv = .int .i64 F ∧ wr' = W5) (fun _ _ => 0)
                      case atStart => exact ⟨rfl, rfl⟩
                      case round =>
                        obtain ⟨rfl, rfl⟩ := hrel
                        go_wp2_with fail
                        go_meet
                        exact ⟨s5, h, hEw, HR5, HI, HG5, hl⟩
              · have y0 : ¬ ((F : Int) ≤ (C : Int) - (N : Int)) := by omega
                have y0' : decide ((F : Int) ≤ (C : Int) - (N : Int)) = false := by simpa using y0
                have hin : inB s F N = false := by
                  cases h1 : inB s F N with
                  | false => rfl
                  | true => simp [inB, hce] at h1; omega
                have HIN := Lib.hid hin
                clear hin
                go_wp2_with fail
                go_loopw [14, 15] (fun av cv wr' => cv = .int .i64 F ∧ av = .bool false ∧ wr' = wr0) (fun _ _ _ => 0)
                case atStart => exact ⟨rfl, rfl, rfl⟩
                case round =>
                  obtain ⟨rfl, rfl, rfl⟩ := hrel
                  go_wp2_with fail
                  refine (give_c b s F N _ HR.out HI.out.1 (by omega) (by omega) (by omega) (by omega)).mono ?_
                  rintro e W5 ⟨s5, err, rfl, hr5, hi5, hE5, hrel⟩
                  obtain ⟨rfl, herr⟩ : s5 = s ∧ (err = 1 ∨ err = 7) := by
                    rcases hrel with ⟨_, h1, h2⟩ | ⟨_, _, h1, h2⟩ | ⟨h1, h2, _⟩
                    · exact ⟨h1, .inl h2⟩
                    · exact ⟨h1, .inr h2⟩
                    · first
                      | (rw [HIN.out] at h1; cases h1; done)
                      | (rw [HALL.out] at h2; cases h2; done)
                  have he0 : (err == 0) = false := by rcases herr with rfl | rfl <;> rfl
                  have hEw : Ext [] w W5 := (hB).trans' hE5 (by simp) (fun y hy => .inr (by simp at hy; subst hy; exact hbw))
                  have hG5 := hE5.blk HG.out (by simp; omega)
                  have HR5 := Lib.hid hr5
                  have HG5 := Lib.hid hG5
                  clear hr5 hi5 hG5 hrel herr
                  go_wp2_with fail
                  go_loopw [16] (fun cv wr' => cv = .int .i64 F ∧ wr' = W5) (fun _ _ => 0)
                  case atStart => exact ⟨rfl, rfl⟩
                  case round =>
                    obtain ⟨rfl, rfl⟩ := hrel
                    go_wp2_with fail
                    go_meet
                    exact ⟨s5, h, hEw, HR5, HI, HG5, hl⟩
            · by_cases g3 : kd = 3
              · subst g3
                go_wp2_with fail
                refine (settle_c b s _ HR.out HI.out.1).mono ?_
                rintro e W5 ⟨s5, rfl, hr5, hi5, hE5, ht⟩
                have hEw : Ext [] w W5 := hB.trans' hE5 (by simp) (fun y hy => .inr (by simp at hy; subst hy; exact hbw))
                have hG5 := hE5.blk HG.out (by simp; omega)
                have HR5 := Lib.hid hr5
                have HI5 := Lib.hid hi5
                have HG5 := Lib.hid hG5
                have HT := Lib.hid ht
                clear hr5 hi5 hG5 ht
                go_wp2_with fail
                go_loopw [17] (fun cv wr' => ∃ (q : Nat) (h' : List Int), q ≤ C ∧ cv = .int .i64 q ∧ Ext [g] W5 wr' ∧ Hid (wr'.heap[g]? = some (.cells (EI.flat h').toArray 3 (0, 0))) ∧ Hid (Loosed h h' q)) (fun cv _ => C - (intOf cv).toNat)
                case atStart => exact ⟨0, h, Nat.zero_le _, rfl, Ext.refl _ _, HG5, Loosed.zero _⟩
                case round =>
                  obtain ⟨q, h', q1, rfl, hE6, HG6, HS6⟩ := hrel
                  by_cases hq : q < C
                  · have y1 : (q : Int) < (C : Int) := by omega
                    have hlq : q < h'.length := by rw [HS6.out.1]; omega
                    have hcell := row_get HG6.out hlq
                    rw [HS6.out.2 q (by omega), if_neg (by omega)] at hcell
                    have hfz : ∀ j, wr.frozen? ⟨g, j, none⟩ = false := fun j => frozen_of_row _ _ _ _ _ HG6.out
                    by_cases hz : h.getD q 9 = 2
                    · have HZ := Lib.hid hz
                      rw [hz] at hcell
                      clear hz
                      go_wp2_with fail
                      go_roundw
                      case rel => exact ⟨q + 1, _, by omega, by go_num, hE6.setCell (.inl (by simp)) _, row_set HG6.out q 0, HS6.out.step HZ.out⟩
                      case measure => simp [intOf]; omega
                    · have HZ := Lib.hid hz
                      generalize h.getD q 9 = z at hz hcell
                      have hz' : (z == 2) = false := by simpa using hz
                      go_wp2_with fail
                      go_roundw
                      case rel => exact ⟨q + 1, h', by omega, by go_num, hE6, HG6, HS6.out.stay HZ.out⟩
                      case measure => simp [intOf]; omega
                  · obtain rfl : q = C := by omega
                    go_wp2_with fail
                    go_meet
                    have hS := HS6.out
                    rw [← hl] at hS
                    exact ⟨s5, h', hEw.trans' hE6 (by simp) (fun y hy => .inr (by simp at hy; omega)), HR5.out.foreign hE6 hbg HG5.out, ⟨HI5.out, by rw [HT.out.back]; exact k0, HI.out.2.2.settled HT.out hS⟩, HG6, by rw [hS.1]; exact hl⟩
              · go_wp2_with fail
                go_meet
                exact ⟨s, h, hB, HR, HI, HG, hl⟩
        case rest =>
          clear hB HR HI HG hl
          obtain ⟨s, h, hB, HR, HI, HG, hl⟩ := hcut
          have hcnt := HI.out.2.2.cntF HI.out.1
          have k0 := HI.out.2.1
          rw [hl] at hcnt
          go_wp2_with fail
          go_loopw [18, 19] (fun fv cv wr' => ∃ q : Nat, q ≤ C ∧ cv = .int .i64 q ∧ fv = .int .i64 (cntS h 0 q) ∧ Ext [] wc wr') (fun _ cv _ => C - (intOf cv).toNat)
          case atStart => exact ⟨0, Nat.zero_le _, rfl, rfl, Ext.refl _ _⟩
          case round =>
            obtain ⟨q, hq, rfl, rfl, hE6⟩ := hrel
            by_cases hlq : q < C
            · have hcell := row_get (hE6.blk HG.out (by simp)) (show q < h.length by omega)
              have hsc := cntS_succ (v := 0) (show q < h.length by omega)
              have hle : cntS h 0 q ≤ q := by
                have := List.countP_le_length (p := fun x => decide (x = 0)) (l := h.take q)
                simp only [List.length_take] at this
                show (h.take q).countP _ ≤ q
                omega
              have y1 : (q : Int) < (C : Int) := by omega
              by_cases hz : h.getD q 9 = 0
              · rw [if_pos hz] at hsc
                rw [hz] at hcell
                go_wp2_with fail
                go_roundw
                case rel => exact ⟨q + 1, by omega, by go_num, by rw [hsc]; go_num, hE6⟩
                case measure => simp [intOf]; omega
              · rw [if_neg hz] at hsc
                generalize h.getD q 9 = z at hz hcell
                have hz' : (z == 0) = false := by simpa using hz
                go_wp2_with fail
                go_roundw
                case rel => exact ⟨q + 1, by omega, by go_num, by rw [hsc]; rfl, hE6⟩
                case measure => simp [intOf]; omega
            · obtain rfl : q = C := by omega
              go_wp2_with fail
              refine (free_c b s _ (HR.out.ext0 hE6) HI.out.1).mono ?_
              rintro e W7 ⟨rfl, hE7⟩
              rw [k0, ← hcnt]
              go_wp2_with fail
              go_roundw
              case rel => exact ⟨k + 1, by omega, by omega, by go_num, s, h, (hB.trans hE6).trans hE7, (HR.out.ext0 hE6).ext0 hE7, HI, (hE6.trans hE7).blk HG.out (by simp), hl⟩
              case measure => simp [intOf]; omega
      · go_wp2
        go_ret
        exact ⟨rfl, hB⟩
    · go_wp2
      go_ret
      exact ⟨rfl, hB⟩

end Go.Proofs.Ytaknhoplgcnhkaa
