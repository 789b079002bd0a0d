
import Derived.Test.YtaknhoplgcnhkaaPl
import Derived.Deep.CutBlock
namespace Go.Proofs.Ytaknhoplgcnhkaa
open Go.RowKit

set_option maxRecDepth 100000 in
set_option maxHeartbeats 4000000 in
theorem plays_walk (a0 : Int) (w0 : -9223372036854775808 ≤ a0 ∧ a0 ≤ 9223372036854775807) (v1 : Value) (us : List Rng) (v2 : Value) (ops : List (Int × Int × Int)) (w : World) (hu : AR ER w v1 us) (hlen : us.length ≤ 1048576)
    (_hg1 : ∀ x ∈ us, (-9223372036854775808 ≤ x.1 ∧ x.1 ≤ 9223372036854775807) ∧ (-9223372036854775808 ≤ x.2 ∧ x.2 ≤ 9223372036854775807)) (ho : AR EO w v2 ops) (_hlen2 : ops.length ≤ 1048576)
    (hg2 : ∀ x ∈ ops, (-9223372036854775808 ≤ x.1 ∧ x.1 ≤ 9223372036854775807) ∧ (-9223372036854775808 ≤ x.2.1 ∧ x.2.1 ≤ 9223372036854775807) ∧ (-9223372036854775808 ≤ x.2.2 ∧ x.2.2 ≤ 9223372036854775807)) :
    Calls Try.prog 7 #[.int .i64 a0, v1, v2] w fun e w' => e = .returned (.bool true) ∧ Ext [] w w' := by
  obtain ⟨pu, cu, rfl, hu⟩ := hu
  obtain ⟨pl, cl, rfl, ho⟩ := ho
  have HU := Lib.hid hu
  have HL := Lib.hid ho
  have HGO := Lib.hid hg2
  clear hu ho hg2
  go_enter Try.func7, Try.ntmps7
  go_wp2_with fail
  refine (known_c _).mono ?_
  rintro e W1 ⟨rfl, hE1⟩
  go_wp2_with fail
  refine (nobody_c _).mono ?_
  rintro e W ⟨rfl, rfl⟩
  go_wp2_with fail
  refine (free_nil _).mono ?_
  rintro e W ⟨rfl, rfl⟩
  go_wp2_with fail
  refine (nobody_c _).mono ?_
  rintro e W ⟨rfl, rfl⟩
  go_wp2_with fail
  refine (give_nil _).mono ?_
  rintro e W ⟨rfl, rfl⟩
  go_wp2_with fail
  refine (nobody_c _).mono ?_
  rintro e W ⟨rfl, rfl⟩
  go_wp2_with fail
  refine (copy_nil _).mono ?_
  rintro e W ⟨rfl, rfl⟩
  go_wp2_with fail
  refine (nobody_c _).mono ?_
  rintro e W ⟨rfl, rfl⟩
  go_wp2_with fail
  refine (settle_nil _).mono ?_
  rintro e W ⟨rfl, rfl⟩
  go_wp2_with fail
  refine (few_c a0 _).mono ?_
  rintro e W1 ⟨rfl, rfl⟩
  have hcc : ∃ c : Int, c = (if 80 < a0 ∧ a0 ≤ 40000 then 80 else a0) ∧ -9223372036854775808 ≤ c ∧ c ≤ 9223372036854775807 := ⟨_, rfl, by split <;> omega, by split <;> omega⟩
  obtain ⟨c, hc, c1, c2⟩ := hcc
  rw [← hc]
  clear hc
  go_wp2_with fail
  go_loopw [7, 8] (fun v i wr => ∃ k : Nat, k ≤ us.length ∧ i = .int .i64 k ∧ Ext [] w wr ∧ Hid (ER.Ow 41 wr v (us.take k) ∧ ∀ g ∈ blkL v, w.heap.size ≤ g)) (fun _ i _ => us.length - (intOf i).toNat)
  case atStart => exact ⟨0, Nat.zero_le _, rfl, hE1, .inl ⟨rfl, by simp⟩, by simp [blkL]⟩
  case round =>
    obtain ⟨k, hk, rfl, hB, HV⟩ := hrel
    by_cases hlt : k < us.length
    · obtain ⟨g, o, rfl⟩ : ∃ g o, pu = some ⟨g, o, none⟩ := by
        rcases HU.out (by intro h; rw [h] at hlt; simp at hlt) with ⟨_, h⟩ | ⟨g, o, c, h, _⟩
        · rw [h] at hlt; simp at hlt
        · cases h; exact ⟨g, o, rfl⟩
      obtain ⟨hm1, hm2⟩ := ER_cells ((HU.out (by intro h; rw [h] at hlt; simp at hlt)).ext0 hB) k hlt
      have hts : us.take (k + 1) = us.take k ++ [us.getD k (0,0)] := take_step hlt
      obtain ⟨x, hx⟩ : ∃ x, x = us.getD k (0,0) := ⟨_, rfl⟩
      rw [← hx] at hm1 hm2 hts
      have HTS := Lib.hid hts
      clear hx hts
      have z1 : (k : Int) < ((us.length : Nat) : Int) := by omega
      have hd1 := (Ext.refl [] wr).drew.cell hm1 (by simp)
      have hd2 := (Ext.refl [] wr).drew.cell hm2 (by simp)
      go_wp2_with fail
      refine wp_region_u (fun W => W.cell? ⟨g, o + k * 2, none⟩ = some (.int .i64 x.1) ∧ W.cell? ⟨g, o + k * 2 + 1, none⟩ = some (.int .i64 x.2)) (fun i => decide (i < 12) && !(i == 0)) (by kernel_rfl) (⟨hd1, hd2⟩) (fun hS => ?_)
      (refine wpAnyU_pure (i := 0) rfl (by kernel_rfl) (by kernel_rfl) (by kernel_rfl) (by rfl) (by exact fun _ _ _ h => h) (Or.inl ⟨by rfl, fun W => by (go_simp; try rfl)⟩) ?_); (try go_frame)
      (refine wpAnyU_take (i := 1) rfl (by kernel_rfl) (by kernel_rfl) (by kernel_rfl) (by kernel_rfl) (by exact fun _ _ _ h => h) (by assumption) (Or.inl ⟨by rfl, fun W hW => by (have hWW := hW; clear hW; go_split_ands; go_simp; try rfl)⟩) ?_); (try go_frame)
      (refine wpAnyU_take (i := 2) rfl (by kernel_rfl) (by kernel_rfl) (by kernel_rfl) (by kernel_rfl) (by exact fun _ _ _ h => h) (by assumption) (Or.inl ⟨by rfl, fun W hW => by (have hWW := hW; clear hW; go_split_ands; go_simp; try rfl)⟩) ?_); (try go_frame)
      (refine wpAnyU_take (i := 3) rfl (by kernel_rfl) (by kernel_rfl) (by kernel_rfl) (by kernel_rfl) (by exact fun _ _ _ h => h) (by assumption) (Or.inl ⟨by rfl, fun W hW => by (have hWW := hW; clear hW; go_split_ands; go_simp; try rfl)⟩) ?_); (try go_frame)
      (refine wpAnyU_take (i := 4) rfl (by kernel_rfl) (by kernel_rfl) (by kernel_rfl) (by kernel_rfl) (by exact fun _ _ _ h => h) (by assumption) (Or.inl ⟨by rfl, fun W hW => by (have hWW := hW; clear hW; go_split_ands; go_simp; try rfl)⟩) ?_); (try go_frame)
      (refine wpAnyU_take (i := 5) rfl (by kernel_rfl) (by kernel_rfl) (by kernel_rfl) (by kernel_rfl) (by exact fun _ _ _ h => h) (by assumption) (Or.inl ⟨by rfl, fun W hW => by (have hWW := hW; clear hW; go_split_ands; go_simp; try rfl)⟩) ?_); (try go_frame)
      (refine wpAnyU_take (i := 6) rfl (by kernel_rfl) (by kernel_rfl) (by kernel_rfl) (by kernel_rfl) (by exact fun _ _ _ h => h) (by assumption) (Or.inl ⟨by rfl, fun W hW => by (have hWW := hW; clear hW; go_split_ands; go_simp; try rfl)⟩) ?_); (try go_frame)
      (refine wpAnyU_take (i := 7) rfl (by kernel_rfl) (by kernel_rfl) (by kernel_rfl) (by kernel_rfl) (by exact fun _ _ _ h => h) (by assumption) (Or.inl ⟨by rfl, fun W hW => by (have hWW := hW; clear hW; go_split_ands; go_simp; try rfl)⟩) ?_); (try go_frame)
      (refine wpAnyU_take (i := 8) rfl (by kernel_rfl) (by kernel_rfl) (by kernel_rfl) (by kernel_rfl) (by exact fun _ _ _ h => h) (by assumption) (Or.inl ⟨by rfl, fun W hW => by (have hWW := hW; clear hW; go_split_ands; go_simp; try rfl)⟩) ?_); (try go_frame)
      (refine wpAnyU_take (i := 9) rfl (by kernel_rfl) (by kernel_rfl) (by kernel_rfl) (by kernel_rfl) (by exact fun _ _ _ h => h) (by assumption) (Or.inl ⟨by rfl, fun W hW => by (have hWW := hW; clear hW; go_split_ands; go_simp; try rfl)⟩) ?_); (try go_frame)
      (refine wpAnyU_take (i := 10) rfl (by kernel_rfl) (by kernel_rfl) (by kernel_rfl) (by kernel_rfl) (by exact fun _ _ _ h => h) (by assumption) (Or.inl ⟨by rfl, fun W hW => by (have hWW := hW; clear hW; go_split_ands; go_simp; try rfl)⟩) ?_); (try go_frame)
      (refine wpAnyU_take (i := 11) rfl (by kernel_rfl) (by kernel_rfl) (by kernel_rfl) (by kernel_rfl) (by exact fun _ _ _ h => h) (by assumption) (Or.inl ⟨by rfl, fun W hW => by (have hWW := hW; clear hW; go_split_ands; go_simp; try rfl)⟩) ?_); (try go_frame)
      refine wpAnyU_one (i := 12) (by kernel_rfl) rfl (fun K hK => ?_)
      (try simp only [Act.put, List.getElem_toArray, List.getElem_cons_zero, List.getElem_cons_succ, List.setIfInBounds_toArray, List.set_cons_zero, List.set_cons_succ]); rw [if_pos (show Region.wanted _ _ = true from rfl)]
      go_simp
      refine hK.out _ _ (fun h => by cases h) (fun _ => ?_)
      clear hK
      refine wpAnyU_one (i := 13) (by kernel_rfl) rfl (fun K hK => ?_)
      (try simp only [Act.put, List.getElem_toArray, List.getElem_cons_zero, List.getElem_cons_succ, List.setIfInBounds_toArray, List.set_cons_zero, List.set_cons_succ]); rw [if_pos (show Region.wanted _ _ = true from rfl)]
      refine opw_append (s := .tmp 50) (x := .tmp 62) (E := ER) (T := 41) (zero := (0,0)) (bytes := 16) (v := u7) (xs := us.take k) (ys := [(x.1, x.2)]) tiR Try.underlying38 Try.underlying38 rfl rfl rfl (HV.out.1.ext0 ((Ext.refl [] wr).drew.alloc _)) ((one_rd rfl).rd) (by simp; omega) (by simp; omega) ?_
      intro v5 w5 how5 hE5 hnear5 _
      refine hK.out _ _ (fun h => by cases h) (fun _ => ?_)
      (refine wpAnyU_pure (i := 14) rfl (by kernel_rfl) (by kernel_rfl) (by kernel_rfl) (by rfl) (by exact fun _ _ _ h => h) (Or.inl ⟨by rfl, fun W => by (go_simp; try rfl)⟩) ?_); (try go_frame)
      refine wpAnyU_done (by kernel_rfl) ?_ _
      clear hK hS
      go_wp2
      go_roundw
      case rel =>
        have hEw : Ext [] w w5 := (hB.trans ((Ext.refl [] wr).drew.alloc _)).trans' hE5 (by simp) (fun x hx => .inr (HV.out.2 x hx))
        refine ⟨k + 1, by omega, by go_num, hEw, ?_⟩
        refine ⟨by rw [HTS.out]; exact how5, fun y hy => ?_⟩
        rcases hnear5 y hy with h | h
        · exact HV.out.2 y h
        · have h1 := hB.size
          have h2 : wr.heap.size + 1 ≤ y := by simpa using h
          omega
      case measure => simp [intOf]; omega
    · obtain rfl : k = us.length := by omega
      have hv0 := HV.out.1
      rw [List.take_length] at hv0
      have HV0 := Lib.hid hv0
      have hv1 := HV.out.2
      obtain ⟨p7, c7, rfl, _⟩ := hv0.rd.len_eq
      clear HV hv0
      go_wp2_with fail
      refine (new_n c _ us _ HV0.out.rd c1 c2 (by omega)).mono ?_
      rintro e W2 ⟨p2, err2, rfl, hE2, hrel2⟩
      have hB2 := hB.trans hE2
      go_wp2_with fail
      refine (rnew_c c _ us _ ⟨_, _, rfl, fun h => (HU.out h).ext0 hB2⟩ c1 c2 (by omega)).mono ?_
      rintro e W3 ⟨p3, err3, rfl, hE3, hrel3⟩
      have hB3 := hB2.trans hE3
      have hlt0 := HV0.out.lt
      obtain ⟨m, hm⟩ : ∃ m, m = us.length := ⟨_, rfl⟩
      have HO3 := Lib.hid ((HV0.out.ext0 hE2).ext0 hE3)
      rw [← hm] at HO3 hlt0 hv1
      rw [← hm]
      have HM := Lib.hid hm
      have hmb : m ≤ 1048576 := by rw [hm]; exact hlen
      clear hm
      rcases new_match hrel2 hrel3 with ⟨rfl, rfl, rfl⟩ | ⟨rfl, rfl, b, s, b2, g, h, rfl, rfl, hb1, hb2, hg2, hr, hi, hk0, hs, hr'⟩
      · clear hrel2 hrel3 HV0 HGO HL
        go_wp2_with fail
        go_loopw [13] (fun iv wr => ∃ (k : Nat) (ys : List Rng), k ≤ m ∧ iv = .int .i64 k ∧ Ext [] w wr ∧ ys.length = m ∧ Hid (ER.Ow 41 wr (.slice p7 m c7) ys)) (fun iv _ => m - (intOf iv).toNat)
        case atStart => exact ⟨0, us, Nat.zero_le _, rfl, hB3, HM.out.symm, HO3⟩
        case round =>
          obtain ⟨k, ys, hk, rfl, hE, hy, HY⟩ := hrel
          by_cases hlt : k < m
          · obtain ⟨ga, o, rfl⟩ : ∃ g o, p7 = some ⟨g, o, none⟩ := by
              rcases HY.out.rd with ⟨_, h⟩ | ⟨g, o, c, h, _⟩
              · rw [h] at hy; simp at hy; omega
              · simp only [Value.slice.injEq] at h; exact ⟨g, o, h.1⟩
            have hlt' : k < ys.length := by omega
            obtain ⟨hm1, hm2⟩ := ER_cells HY.out.rd k hlt'
            have hfz := (ER_setTo HY.out hlt').1
            have hset := ER_setBoth HY.out hlt'
            have HSET := Lib.hid hset
            have hga := hv1 ga (by simp [blkL])
            have z1 : (k : Int) < (m : Int) := by omega
            clear hset hlt'
            go_wp2_with fail
            go_roundw
            case rel => exact ⟨k + 1, _, by omega, by go_num, (hE.setCell (.inr hga) _).setCell (.inr hga) _, by rw [List.length_set]; exact hy, HSET.out _ _⟩
            case measure => simp [intOf]; omega
          · have z1 : ¬ ((k : Int) < (m : Int)) := by omega
            go_wp2
            go_ret
            exact ⟨rfl, hE⟩
      · have hbw : w.heap.size ≤ b := by have := hB.size; omega
        obtain ⟨B, hBe⟩ : ∃ B, B = wr.heap.size := ⟨_, rfl⟩
        have hBw : w.heap.size ≤ B := by rw [hBe]; exact hB.size
        have hBb : B ≤ b := by rw [hBe]; exact hb1
        have hBb2 : B ≤ b2 := by have := hE2.size; omega
        have hBg : B ≤ g := by have := hE2.size; omega
        rw [← hBe] at hr hlt0
        have HR3 := Lib.hid (hr.ext hBb hE3 (by simp))
        rw [← hk0] at hr'
        have HQ3 := Lib.hid hr'
        have HI := Lib.hid hi
        have HS := Lib.hid hs
        clear hrel2 hrel3 HV0 hr hr' hi hs hk0 hE2 hE3 hb1 hb2 hg2 hBe hB hB2 HU
        go_wp2_with fail
        go_loopw [13] (fun iv wr => ∃ (k : Nat) (ys : List Rng), k ≤ m ∧ iv = .int .i64 k ∧ Ext [] w wr ∧ ys.length = m ∧ Hid (ER.Ow 41 wr (.slice p7 m c7) ys) ∧ Hid (SpRn B wr b s) ∧ Hid (RfR wr b2 g h s.back)) (fun iv _ => m - (intOf iv).toNat)
        case atStart => exact ⟨0, us, Nat.zero_le _, rfl, hB3, HM.out.symm, HO3, HR3, HQ3⟩
        case round =>
          clear HR3 HQ3
          obtain ⟨k, ys, hk, rfl, hE, hy, HY, HR, HQ⟩ := hrel
          by_cases hlt : k < m
          · obtain ⟨ga, o, rfl⟩ : ∃ g o, p7 = some ⟨g, o, none⟩ := by
              rcases HY.out.rd with ⟨_, h⟩ | ⟨g, o, c, h, _⟩
              · rw [h] at hy; simp at hy; omega
              · simp only [Value.slice.injEq] at h; exact ⟨g, o, h.1⟩
            have hlt' : k < ys.length := by omega
            obtain ⟨hm1, hm2⟩ := ER_cells HY.out.rd k hlt'
            have hfz := (ER_setTo HY.out hlt').1
            have hset := ER_setBoth HY.out hlt'
            have HSET := Lib.hid hset
            have hga := hv1 ga (by simp [blkL])
            have hgl := hlt0 ga (by simp [blkL])
            have z1 : (k : Int) < (m : Int) := by omega
            clear hset hlt'
            go_wp2_with fail
            go_roundw
            case rel =>
              have hX : Ext [ga] wr ((wr.setCell ⟨ga, o + k * 2, none⟩ (.int .i64 0)).setCell ⟨ga, o + k * 2 + 1, none⟩ (.int .i64 0)) := ((Ext.refl [ga] wr).setCell (.inl (by simp)) _).setCell (.inl (by simp)) _
              exact ⟨k + 1, _, by omega, by go_num, (hE.setCell (.inr hga) _).setCell (.inr hga) _, by rw [List.length_set]; exact hy, HSET.out _ _, HR.out.ext hBb hX (by simpa using hgl), ⟨hX.blk HQ.out.1 (by simp; omega), hX.blk HQ.out.2 (by simp; omega)⟩⟩
            case measure => simp [intOf]; omega
          · have z1 : ¬ ((k : Int) < (m : Int)) := by omega
            have hPlay : PlayRel w b2 g wr b := ⟨s, h, hE, hbw, HR.out.r, HI, HS, HQ⟩
            have hgw : w.heap.size ≤ g := by omega
            have hb2w : w.heap.size ≤ b2 := by omega
            clear hy HY HO3 HM hlt0 hv1 HR HQ HI HS hE hB3 hbw hBw hBb hBb2 hBg hmb
            go_wp2_with fail
            go_loopw [9, 14, 15, 16, 17, 18, 19] (fun sv iv _ _ _ _ _ wr => ∃ k b : Nat, k ≤ ops.length ∧ k ≤ 100 ∧ iv = .int .i64 k ∧ sv = .pointer (some ⟨b, 0, none⟩) ∧ PlayRel w b2 g wr b) (fun _ iv _ _ _ _ _ _ => ops.length - (intOf iv).toNat)
            case atStart => exact ⟨0, b, Nat.zero_le _, by omega, rfl, rfl, hPlay⟩
            case round =>
              clear hPlay
              obtain ⟨k, b, hk, hk100, rfl, rfl, s, h, hB, hbw, HR, HI, HS, HQ⟩ := hrel
              by_cases hlt : k < ops.length
              · have z1 : (k : Int) < ((ops.length : Nat) : Int) := by omega
                by_cases hlt2 : k < 100
                · have z2 : (k : Int) < 100 := by omega
                  obtain ⟨ga, o, rfl⟩ : ∃ g o, pl = some ⟨g, o, none⟩ := by
                    rcases HL.out (by intro h; rw [h] at hlt; simp at hlt) with ⟨_, h⟩ | ⟨g, o, c, h, _⟩
                    · rw [h] at hlt; simp at hlt
                    · simp only [Value.slice.injEq] at h; exact ⟨g, o, h.1⟩
                  obtain ⟨hm1, hm2, hm3⟩ := EO_cells ((HL.out (by intro h; rw [h] at hlt; simp at hlt)).ext0 hB) k hlt
                  have hbd := HGO.out (ops.getD k (0,0,0)) (by rw [show ops.getD k (0,0,0) = ops[k] by simp [List.getD, hlt]]; exact List.getElem_mem hlt)
                  obtain ⟨x, hx⟩ : ∃ x, x = ops.getD k (0,0,0) := ⟨_, rfl⟩
                  rw [← hx] at hm1 hm2 hm3 hbd
                  obtain ⟨kd, xf, xn⟩ := x
                  simp only at hm1 hm2 hm3 hbd
                  obtain ⟨u1, u2, u3, u4⟩ := hbd
                  have HM1 := Lib.hid hm1
                  have HM2 := Lib.hid hm2
                  have HM3 := Lib.hid hm3
                  have hl0 : h.length ≤ 40000 := by have := HS.out.1; have := HI.out.c2; omega
                  clear hx
                  obtain ⟨wr0, hwr0⟩ : ∃ wr0, wr0 = wr := ⟨_, rfl⟩
                  rw [← hwr0] at hB HR HQ hm1 hm2 hm3 HM1 HM2 HM3
                  rw [← hwr0]
                  clear hwr0
                  go_upto_block 6 with fail
                  go_cut [9, 15, 16, 17, 18, 19] (fun sv _ _ _ _ _ W => ∃ b : Nat, sv = .pointer (some ⟨b, 0, none⟩) ∧ PlayRel w b2 g W b)
                  case first =>
                    have hgal : ga < w.heap.size := (HL.out (by intro h; rw [h] at hlt; simp at hlt)).lt ga (by simp [blkL])
                    have hgb : ga ≠ b := by omega
                    obtain ⟨cb, hcb⟩ := HR.out.blk
                    have HCB := Lib.hid hcb
                    obtain ⟨hbg, hbb2⟩ := play_ne HR.out HQ.out
                    have hk0 := HI.out.b0
                    have hk1 : s.back ≤ 40000 := by have := HI.out.b1; have := HI.out.okF.cnt; omega
                    clear hcb
                    by_cases g1 : kd = 1
                    · subst g1
                      go_wp2_with fail
                      refine (take_c b s xn _ HR.out HI.out (by omega) (by omega)).mono ?_
                      rintro e W5 ⟨s5, a, err, rfl, hr5, hi5, hE5, hrel⟩
                      have hm3' := hE5.cell hm3 (by simpa using hgb)
                      have hq5 := HQ.out.other hE5 HCB.out
                      go_wp2_with fail
                      refine (rtake_c b2 g h s.back xn _ hq5 hl0 hk0 hk1 (by omega) (by omega)).mono ?_
                      rintro e W6 ⟨rs, h', a', err', rfl, hrs, hr6, hE6, hrel'⟩
                      obtain ⟨rfl, rfl, hs6, hbk⟩ := take_match HI.out HS.out hrs hrel hrel'
                      have hsp6 := hr5.foreignT hE6 hbg (by decide) hq5.2
                      have hE5w : Ext [] w W5 := hB.trans' hE5 (by simp) (fun y hy => .inr (by simp at hy; omega))
                      have hE6w : Ext [] w W6 := hE5w.trans' hE6 (by simp) (fun y hy => .inr (by simp at hy; omega))
                      rw [← hbk] at hr6
                      have HSP := Lib.hid hsp6
                      have HI5 := Lib.hid hi5
                      have HS6 := Lib.hid hs6
                      have HQ6 := Lib.hid hr6
                      clear hr5 hi5 hrel hrel' hrs hs6 hr6 hsp6 hq5 hm3'
                      go_wp2_with fail
                      go_meet
                      exact ⟨b, rfl, s5, h', hE6w, hbw, HSP, HI5, HS6, HQ6⟩
                    · by_cases g2 : kd = 2
                      · subst g2
                        go_wp2_with fail
                        have hD0 : Ext [] wr0 wr0.drew := (Ext.refl [] _).drew
                        refine wp_region_u (fun W => W.cell? ⟨ga, o + k * 3 + 1, none⟩ = some (.int .i64 xf) ∧ W.cell? ⟨ga, o + k * 3 + 2, none⟩ = some (.int .i64 xn)) (fun i => decide (i < 23)) (by kernel_rfl) ⟨hD0.cell hm2 (by simp), hD0.cell hm3 (by simp)⟩ (fun hS => ?_)
                        (refine wpAnyU_take (i := 0) rfl (by kernel_rfl) (by kernel_rfl) (by kernel_rfl) (by kernel_rfl) (by exact fun _ _ _ h => h) (by assumption) (Or.inl ⟨by rfl, fun W hW => by (have hWW := hW; clear hW; go_split_ands; go_simp; try rfl)⟩) ?_); (try go_frame)
                        (refine wpAnyU_take (i := 1) rfl (by kernel_rfl) (by kernel_rfl) (by kernel_rfl) (by kernel_rfl) (by exact fun _ _ _ h => h) (by assumption) (Or.inl ⟨by rfl, fun W hW => by (have hWW := hW; clear hW; go_split_ands; go_simp; try rfl)⟩) ?_); (try go_frame)
                        (refine wpAnyU_take (i := 2) rfl (by kernel_rfl) (by kernel_rfl) (by kernel_rfl) (by kernel_rfl) (by exact fun _ _ _ h => h) (by assumption) (Or.inl ⟨by rfl, fun W hW => by (have hWW := hW; clear hW; go_split_ands; go_simp; try rfl)⟩) ?_); (try go_frame)
                        (refine wpAnyU_take (i := 3) rfl (by kernel_rfl) (by kernel_rfl) (by kernel_rfl) (by kernel_rfl) (by exact fun _ _ _ h => h) (by assumption) (Or.inl ⟨by rfl, fun W hW => by (have hWW := hW; clear hW; go_split_ands; go_simp; try rfl)⟩) ?_); (try go_frame)
                        (refine wpAnyU_take (i := 4) rfl (by kernel_rfl) (by kernel_rfl) (by kernel_rfl) (by kernel_rfl) (by exact fun _ _ _ h => h) (by assumption) (Or.inl ⟨by rfl, fun W hW => by (have hWW := hW; clear hW; go_split_ands; go_simp; try rfl)⟩) ?_); (try go_frame)
                        (refine wpAnyU_take (i := 5) rfl (by kernel_rfl) (by kernel_rfl) (by kernel_rfl) (by kernel_rfl) (by exact fun _ _ _ h => h) (by assumption) (Or.inl ⟨by rfl, fun W hW => by (have hWW := hW; clear hW; go_split_ands; go_simp; try rfl)⟩) ?_); (try go_frame)
                        (refine wpAnyU_take (i := 6) rfl (by kernel_rfl) (by kernel_rfl) (by kernel_rfl) (by kernel_rfl) (by exact fun _ _ _ h => h) (by assumption) (Or.inl ⟨by rfl, fun W hW => by (have hWW := hW; clear hW; go_split_ands; go_simp; try rfl)⟩) ?_); (try go_frame)
                        (refine wpAnyU_take (i := 7) rfl (by kernel_rfl) (by kernel_rfl) (by kernel_rfl) (by kernel_rfl) (by exact fun _ _ _ h => h) (by assumption) (Or.inl ⟨by rfl, fun W hW => by (have hWW := hW; clear hW; go_split_ands; go_simp; try rfl)⟩) ?_); (try go_frame)
                        (refine wpAnyU_take (i := 8) rfl (by kernel_rfl) (by kernel_rfl) (by kernel_rfl) (by kernel_rfl) (by exact fun _ _ _ h => h) (by assumption) (Or.inl ⟨by rfl, fun W hW => by (have hWW := hW; clear hW; go_split_ands; go_simp; try rfl)⟩) ?_); (try go_frame)
                        (refine wpAnyU_take (i := 9) rfl (by kernel_rfl) (by kernel_rfl) (by kernel_rfl) (by kernel_rfl) (by exact fun _ _ _ h => h) (by assumption) (Or.inl ⟨by rfl, fun W hW => by (have hWW := hW; clear hW; go_split_ands; go_simp; try rfl)⟩) ?_); (try go_frame)
                        (refine wpAnyU_take (i := 10) rfl (by kernel_rfl) (by kernel_rfl) (by kernel_rfl) (by kernel_rfl) (by exact fun _ _ _ h => h) (by assumption) (Or.inl ⟨by rfl, fun W hW => by (have hWW := hW; clear hW; go_split_ands; go_simp; try rfl)⟩) ?_); (try go_frame); (simp only [List.getElem_toArray, List.getElem_cons_zero, List.getElem_cons_succ, List.set_cons_zero, List.set_cons_succ])
                        (refine wpAnyU_take (i := 12) rfl (by kernel_rfl) (by kernel_rfl) (by kernel_rfl) (by kernel_rfl) (by exact fun _ _ _ h => h) (by assumption) (Or.inl ⟨by rfl, fun W hW => by (have hWW := hW; clear hW; go_split_ands; go_simp; try rfl)⟩) ?_); (try go_frame); (simp only [List.getElem_toArray, List.getElem_cons_zero, List.getElem_cons_succ, List.set_cons_zero, List.set_cons_succ])
                        (refine wpAnyU_take (i := 13) rfl (by kernel_rfl) (by kernel_rfl) (by kernel_rfl) (by kernel_rfl) (by exact fun _ _ _ h => h) (by assumption) (Or.inl ⟨by rfl, fun W hW => by (have hWW := hW; clear hW; go_split_ands; go_simp; try rfl)⟩) ?_); (try go_frame); (simp only [List.getElem_toArray, List.getElem_cons_zero, List.getElem_cons_succ, List.set_cons_zero, List.set_cons_succ])
                        (refine wpAnyU_take (i := 14) rfl (by kernel_rfl) (by kernel_rfl) (by kernel_rfl) (by kernel_rfl) (by exact fun _ _ _ h => h) (by assumption) (Or.inl ⟨by rfl, fun W hW => by (have hWW := hW; clear hW; go_split_ands; go_simp; try rfl)⟩) ?_); (try go_frame); (simp only [List.getElem_toArray, List.getElem_cons_zero, List.getElem_cons_succ, List.set_cons_zero, List.set_cons_succ])
                        (refine wpAnyU_take (i := 15) rfl (by kernel_rfl) (by kernel_rfl) (by kernel_rfl) (by kernel_rfl) (by exact fun _ _ _ h => h) (by assumption) (Or.inl ⟨by rfl, fun W hW => by (have hWW := hW; clear hW; go_split_ands; go_simp; try rfl)⟩) ?_); (try go_frame); (simp only [List.getElem_toArray, List.getElem_cons_zero, List.getElem_cons_succ, List.set_cons_zero, List.set_cons_succ])
                        (refine wpAnyU_take (i := 16) rfl (by kernel_rfl) (by kernel_rfl) (by kernel_rfl) (by kernel_rfl) (by exact fun _ _ _ h => h) (by assumption) (Or.inl ⟨by rfl, fun W hW => by (have hWW := hW; clear hW; go_split_ands; go_simp; try rfl)⟩) ?_); (try go_frame); (simp only [List.getElem_toArray, List.getElem_cons_zero, List.getElem_cons_succ, List.set_cons_zero, List.set_cons_succ])
                        (refine wpAnyU_take (i := 17) rfl (by kernel_rfl) (by kernel_rfl) (by kernel_rfl) (by kernel_rfl) (by exact fun _ _ _ h => h) (by assumption) (Or.inl ⟨by rfl, fun W hW => by (have hWW := hW; clear hW; go_split_ands; go_simp; try rfl)⟩) ?_); (try go_frame); (simp only [List.getElem_toArray, List.getElem_cons_zero, List.getElem_cons_succ, List.set_cons_zero, List.set_cons_succ])
                        (refine wpAnyU_take (i := 18) rfl (by kernel_rfl) (by kernel_rfl) (by kernel_rfl) (by kernel_rfl) (by exact fun _ _ _ h => h) (by assumption) (Or.inl ⟨by rfl, fun W hW => by (have hWW := hW; clear hW; go_split_ands; go_simp; try rfl)⟩) ?_); (try go_frame); (simp only [List.getElem_toArray, List.getElem_cons_zero, List.getElem_cons_succ, List.set_cons_zero, List.set_cons_succ])
                        (refine wpAnyU_take (i := 19) rfl (by kernel_rfl) (by kernel_rfl) (by kernel_rfl) (by kernel_rfl) (by exact fun _ _ _ h => h) (by assumption) (Or.inl ⟨by rfl, fun W hW => by (have hWW := hW; clear hW; go_split_ands; go_simp; try rfl)⟩) ?_); (try go_frame); (simp only [List.getElem_toArray, List.getElem_cons_zero, List.getElem_cons_succ, List.set_cons_zero, List.set_cons_succ])
                        (refine wpAnyU_take (i := 20) rfl (by kernel_rfl) (by kernel_rfl) (by kernel_rfl) (by kernel_rfl) (by exact fun _ _ _ h => h) (by assumption) (Or.inl ⟨by rfl, fun W hW => by (have hWW := hW; clear hW; go_split_ands; go_simp; try rfl)⟩) ?_); (try go_frame); (simp only [List.getElem_toArray, List.getElem_cons_zero, List.getElem_cons_succ, List.set_cons_zero, List.set_cons_succ])
                        (refine wpAnyU_take (i := 21) rfl (by kernel_rfl) (by kernel_rfl) (by kernel_rfl) (by kernel_rfl) (by exact fun _ _ _ h => h) (by assumption) (Or.inl ⟨by rfl, fun W hW => by (have hWW := hW; clear hW; go_split_ands; go_simp; try rfl)⟩) ?_); (try go_frame); (simp only [List.getElem_toArray, List.getElem_cons_zero, List.getElem_cons_succ, List.set_cons_zero, List.set_cons_succ])
                        (refine wpAnyU_take (i := 22) rfl (by kernel_rfl) (by kernel_rfl) (by kernel_rfl) (by kernel_rfl) (by exact fun _ _ _ h => h) (by assumption) (Or.inl ⟨by rfl, fun W hW => by (have hWW := hW; clear hW; go_split_ands; go_simp; try rfl)⟩) ?_); (try go_frame); (simp only [List.getElem_toArray, List.getElem_cons_zero, List.getElem_cons_succ, List.set_cons_zero, List.set_cons_succ])
                        refine wpAnyU_one (i := 11) (by kernel_rfl) rfl (fun K hK => ?_)
                        (try simp only [Act.put, List.getElem_toArray, List.getElem_cons_zero, List.getElem_cons_succ, List.setIfInBounds_toArray, List.set_cons_zero, List.set_cons_succ]); rw [if_pos (show Region.wanted _ _ = true from rfl)]
                        go_simp
                        refine (give_c b s xf xn _ (HR.out.ext0 hD0) HI.out (by omega) (by omega) (by omega) (by omega)).mono ?_
                        rintro e W5 ⟨s5, err, rfl, hr5, hi5, hE5, hrel⟩
                        refine hK.out _ _ (fun _ => ⟨hE5.cell hS.1 (by simpa using hgb), hE5.cell hS.2 (by simpa using hgb)⟩) (fun _ => ?_)
                        have hq5 := (HQ.out.ext0 hD0).other hE5 (hD0.blk HCB.out (by simp))
                        clear hK hS
                        refine wpAnyU_one (i := 23) (by kernel_rfl) rfl (fun K hK => ?_)
                        (try simp only [Act.put, List.getElem_toArray, List.getElem_cons_zero, List.getElem_cons_succ, List.setIfInBounds_toArray, List.set_cons_zero, List.set_cons_succ]); rw [if_pos (show Region.wanted _ _ = true from rfl)]
                        go_simp
                        refine (rgive_c b2 g h s.back xf xn _ hq5 hl0).mono ?_
                        rintro e W6 ⟨h', err', rfl, hr6, hE6, hrel'⟩
                        obtain ⟨rfl, hs6, hbk⟩ := give_match HI.out HS.out hrel hrel'
                        have hsp6 := hr5.foreignT hE6 hbg (by decide) hq5.2
                        have hE5w : Ext [] w W5 := (hB.trans hD0).trans' hE5 (by simp) (fun y hy => .inr (by simp at hy; omega))
                        have hE6w : Ext [] w W6 := hE5w.trans' hE6 (by simp) (fun y hy => .inr (by simp at hy; omega))
                        rw [← hbk] at hr6
                        have HSP := Lib.hid hsp6
                        have HI5 := Lib.hid hi5
                        have HS6 := Lib.hid hs6
                        have HQ6 := Lib.hid hr6
                        clear hr5 hi5 hrel hrel' hs6 hr6 hsp6 hq5
                        refine hK.out _ _ (fun h => by cases h) (fun _ => ?_)
                        clear hK
                        (refine wpAnyU_pure (i := 24) rfl (by kernel_rfl) (by kernel_rfl) (by kernel_rfl) (by rfl) (by exact fun _ _ _ h => h) (Or.inl ⟨by rfl, fun W => by (go_simp; try rfl)⟩) ?_); (try go_frame); (simp only [List.getElem_toArray, List.getElem_cons_zero, List.getElem_cons_succ, List.set_cons_zero, List.set_cons_succ])
                        refine wpAnyU_done (by kernel_rfl) ?_ _
                        go_wp2_with fail
                        go_meet
                        exact ⟨b, rfl, s5, h', hE6w, hbw, HSP, HI5, HS6, HQ6⟩
                      · by_cases g3 : kd = 3
                        · subst g3
                          go_wp2_with fail
                          refine (settle_c b s _ HR.out HI.out).mono ?_
                          rintro e W5 ⟨s5, rfl, hr5, hi5, hE5, ht⟩
                          have hq5 := HQ.out.other hE5 HCB.out
                          have hcv := HS.out.cntV HI.out
                          go_wp2_with fail
                          refine (rsettle_c b2 g h s.back _ hq5 hl0).mono ?_
                          rintro e W6 ⟨h', rfl, hr6, hE6, hlo⟩
                          rw [hcv]
                          have hs6 := HS.out.settled ht hlo
                          have hsp6 := hr5.foreignT hE6 hbg (by decide) hq5.2
                          have hE5w : Ext [] w W5 := hB.trans' hE5 (by simp) (fun y hy => .inr (by simp at hy; omega))
                          have hE6w : Ext [] w W6 := hE5w.trans' hE6 (by simp) (fun y hy => .inr (by simp at hy; omega))
                          have hbk := ht.back
                          rw [← hbk] at hr6
                          have HSP := Lib.hid hsp6
                          have HI5 := Lib.hid hi5
                          have HS6 := Lib.hid hs6
                          have HQ6 := Lib.hid hr6
                          clear hr5 hi5 ht hlo hs6 hr6 hsp6 hq5 hcv
                          go_wp2_with fail
                          go_meet
                          exact ⟨b, rfl, s5, h', hE6w, hbw, HSP, HI5, HS6, HQ6⟩
                        · by_cases g4 : kd = 4
                          · subst g4
                            go_wp2_with fail
                            have hD0 : Ext [] wr0 wr0.drew := (Ext.refl [] _).drew
                            refine wp_region_u (fun W => W.cell? ⟨ga, o + k * 3 + 2, none⟩ = some (.int .i64 xn)) (fun i => decide (i < 13)) (by kernel_rfl) (hD0.cell hm3 (by simp)) (fun hS => ?_)
                            (refine wpAnyU_take (i := 0) rfl (by kernel_rfl) (by kernel_rfl) (by kernel_rfl) (by kernel_rfl) (by exact fun _ _ _ h => h) (by assumption) (Or.inl ⟨by rfl, fun W hW => by (have hWW := hW; clear hW; go_split_ands; go_simp; try rfl)⟩) ?_); (try go_frame)
                            (refine wpAnyU_take (i := 1) rfl (by kernel_rfl) (by kernel_rfl) (by kernel_rfl) (by kernel_rfl) (by exact fun _ _ _ h => h) (by assumption) (Or.inl ⟨by rfl, fun W hW => by (have hWW := hW; clear hW; go_split_ands; go_simp; try rfl)⟩) ?_); (try go_frame)
                            (refine wpAnyU_take (i := 2) rfl (by kernel_rfl) (by kernel_rfl) (by kernel_rfl) (by kernel_rfl) (by exact fun _ _ _ h => h) (by assumption) (Or.inl ⟨by rfl, fun W hW => by (have hWW := hW; clear hW; go_split_ands; go_simp; try rfl)⟩) ?_); (try go_frame)
                            (refine wpAnyU_take (i := 3) rfl (by kernel_rfl) (by kernel_rfl) (by kernel_rfl) (by kernel_rfl) (by exact fun _ _ _ h => h) (by assumption) (Or.inl ⟨by rfl, fun W hW => by (have hWW := hW; clear hW; go_split_ands; go_simp; try rfl)⟩) ?_); (try go_frame)
                            (refine wpAnyU_take (i := 4) rfl (by kernel_rfl) (by kernel_rfl) (by kernel_rfl) (by kernel_rfl) (by exact fun _ _ _ h => h) (by assumption) (Or.inl ⟨by rfl, fun W hW => by (have hWW := hW; clear hW; go_split_ands; go_simp; try rfl)⟩) ?_); (try go_frame)
                            (refine wpAnyU_take (i := 5) rfl (by kernel_rfl) (by kernel_rfl) (by kernel_rfl) (by kernel_rfl) (by exact fun _ _ _ h => h) (by assumption) (Or.inl ⟨by rfl, fun W hW => by (have hWW := hW; clear hW; go_split_ands; go_simp; try rfl)⟩) ?_); (try go_frame)
                            (refine wpAnyU_take (i := 7) rfl (by kernel_rfl) (by kernel_rfl) (by kernel_rfl) (by kernel_rfl) (by exact fun _ _ _ h => h) (by assumption) (Or.inl ⟨by rfl, fun W hW => by (have hWW := hW; clear hW; go_split_ands; go_simp; try rfl)⟩) ?_); (try go_frame)
                            (refine wpAnyU_take (i := 8) rfl (by kernel_rfl) (by kernel_rfl) (by kernel_rfl) (by kernel_rfl) (by exact fun _ _ _ h => h) (by assumption) (Or.inl ⟨by rfl, fun W hW => by (have hWW := hW; clear hW; go_split_ands; go_simp; try rfl)⟩) ?_); (try go_frame)
                            (refine wpAnyU_take (i := 9) rfl (by kernel_rfl) (by kernel_rfl) (by kernel_rfl) (by kernel_rfl) (by exact fun _ _ _ h => h) (by assumption) (Or.inl ⟨by rfl, fun W hW => by (have hWW := hW; clear hW; go_split_ands; go_simp; try rfl)⟩) ?_); (try go_frame)
                            (refine wpAnyU_take (i := 10) rfl (by kernel_rfl) (by kernel_rfl) (by kernel_rfl) (by kernel_rfl) (by exact fun _ _ _ h => h) (by assumption) (Or.inl ⟨by rfl, fun W hW => by (have hWW := hW; clear hW; go_split_ands; go_simp; try rfl)⟩) ?_); (try go_frame); (simp only [List.getElem_toArray, List.getElem_cons_zero, List.getElem_cons_succ, List.set_cons_zero, List.set_cons_succ])
                            (refine wpAnyU_take (i := 11) rfl (by kernel_rfl) (by kernel_rfl) (by kernel_rfl) (by kernel_rfl) (by exact fun _ _ _ h => h) (by assumption) (Or.inl ⟨by rfl, fun W hW => by (have hWW := hW; clear hW; go_split_ands; go_simp; try rfl)⟩) ?_); (try go_frame); (simp only [List.getElem_toArray, List.getElem_cons_zero, List.getElem_cons_succ, List.set_cons_zero, List.set_cons_succ])
                            (refine wpAnyU_take (i := 12) rfl (by kernel_rfl) (by kernel_rfl) (by kernel_rfl) (by kernel_rfl) (by exact fun _ _ _ h => h) (by assumption) (Or.inl ⟨by rfl, fun W hW => by (have hWW := hW; clear hW; go_split_ands; go_simp; try rfl)⟩) ?_); (try go_frame); (simp only [List.getElem_toArray, List.getElem_cons_zero, List.getElem_cons_succ, List.set_cons_zero, List.set_cons_succ])
                            refine wpAnyU_one (i := 6) (by kernel_rfl) rfl (fun K hK => ?_)
                            (try simp only [Act.put, List.getElem_toArray, List.getElem_cons_zero, List.getElem_cons_succ, List.setIfInBounds_toArray, List.set_cons_zero, List.set_cons_succ]); rw [if_pos (show Region.wanted _ _ = true from rfl)]
                            go_simp
                            refine (reserve_c b s xn _ (HR.out.ext0 hD0) HI.out (by omega) (by omega)).mono ?_
                            rintro e W5 ⟨s5, err, rfl, hr5, hi5, hE5, hrel⟩
                            refine hK.out _ _ (fun _ => hE5.cell hS (by simpa using hgb)) (fun _ => ?_)
                            have hq5 := (HQ.out.ext0 hD0).other hE5 (hD0.blk HCB.out (by simp))
                            clear hK hS
                            refine wpAnyU_one (i := 13) (by kernel_rfl) rfl (fun K hK => ?_)
                            (try simp only [Act.put, List.getElem_toArray, List.getElem_cons_zero, List.getElem_cons_succ, List.setIfInBounds_toArray, List.set_cons_zero, List.set_cons_succ]); rw [if_pos (show Region.wanted _ _ = true from rfl)]
                            go_simp
                            refine (rreserve_c b2 g h s.back xn _ hq5 hl0 hk0 hk1 (by omega) (by omega)).mono ?_
                            rintro e W6 ⟨back', err', rfl, hr6, hE6, hrel'⟩
                            obtain ⟨rfl, hs6, hbk⟩ := reserve_match HI.out HS.out hrel hrel'
                            have hsp6 := hr5.foreignT hE6 hbb2 (by decide) hq5.1
                            have hE5w : Ext [] w W5 := (hB.trans hD0).trans' hE5 (by simp) (fun y hy => .inr (by simp at hy; omega))
                            have hE6w : Ext [] w W6 := hE5w.trans' hE6 (by simp) (fun y hy => .inr (by simp at hy; omega))
                            rw [← hbk] at hr6
                            have HSP := Lib.hid hsp6
                            have HI5 := Lib.hid hi5
                            have HS6 := Lib.hid hs6
                            have HQ6 := Lib.hid hr6
                            clear hr5 hi5 hrel hrel' hs6 hr6 hsp6 hq5
                            refine hK.out _ _ (fun h => by cases h) (fun _ => ?_)
                            clear hK
                            (refine wpAnyU_pure (i := 14) rfl (by kernel_rfl) (by kernel_rfl) (by kernel_rfl) (by rfl) (by exact fun _ _ _ h => h) (Or.inl ⟨by rfl, fun W => by (go_simp; try rfl)⟩) ?_); (try go_frame); (simp only [List.getElem_toArray, List.getElem_cons_zero, List.getElem_cons_succ, List.set_cons_zero, List.set_cons_succ])
                            refine wpAnyU_done (by kernel_rfl) ?_ _
                            go_wp2_with fail
                            go_meet
                            exact ⟨b, rfl, s5, h, hE6w, hbw, HSP, HI5, HS6, HQ6⟩
                          · by_cases g5 : kd = 5
                            · subst g5
                              go_wp2_with fail
                              refine (copy_c b s _ HR.out).mono ?_
                              rintro e W5 ⟨b3, rfl, hr5, hE5, hb3⟩
                              go_wp2_with fail
                              refine (take_c b s 1 _ (HR.out.ext0 hE5) HI.out (by omega) (by omega)).mono ?_
                              rintro e W6 ⟨s6, a, err, rfl, hr6, hi6, hE6, _⟩
                              have hbl := HR.out.lt
                              have hne3 : b3 ≠ b := by omega
                              have hr6' := hr5.other hE6 hne3 (hE5.blk HCB.out (by simp))
                              have hq6 := (HQ.out.ext0 hE5).other hE6 (hE5.blk HCB.out (by simp))
                              obtain ⟨cb6, hcb6⟩ := hr6.blk
                              go_wp2_with fail
                              refine (settle_c b s6 _ hr6 hi6).mono ?_
                              rintro e W7 ⟨s7, rfl, hr7, hi7, hE7, _⟩
                              have hr7' := hr6'.other hE7 hne3 hcb6
                              have hq7 := hq6.other hE7 hcb6
                              have hE5w : Ext [] w W5 := hB.trans hE5
                              have hE6w : Ext [] w W6 := hE5w.trans' hE6 (by simp) (fun y hy => .inr (by simp at hy; omega))
                              have hE7w : Ext [] w W7 := hE6w.trans' hE7 (by simp) (fun y hy => .inr (by simp at hy; omega))
                              have hb3w : w.heap.size ≤ b3 := by have := hB.size; omega
                              have HSP := Lib.hid hr7'
                              have HQ7 := Lib.hid hq7
                              clear hr5 hr6 hi6 hr6' hq6 hcb6 hr7 hi7 hr7' hq7
                              go_wp2_with fail
                              go_meet
                              exact ⟨b3, rfl, s, h, hE7w, hb3w, HSP, HI, HS, HQ7⟩
                            · go_wp2_with fail
                              go_meet
                              exact ⟨b, rfl, s, h, hB, hbw, HR, HI, HS, HQ⟩
                  case rest =>
                    clear HR HI HS HQ hB hm1 hm2 hm3 HM1 HM2 HM3 hbw
                    obtain ⟨b', rfl, s', h', hB', hbw', HR', HI', HS', HQ'⟩ := hcut
                    go_wp2_with fail
                    refine (alike_c b' b2 g s' h' _ HR'.out HI'.out HQ'.out HS'.out).mono ?_
                    rintro e W9 ⟨rfl, hE9⟩
                    go_wp2_with fail
                    go_roundw
                    case rel => exact ⟨k + 1, b', by omega, by omega, by go_num, rfl, s', h', hB'.trans hE9, hbw', HR'.out.ext0 hE9, HI', HS', HQ'.out.ext0 hE9⟩
                    case measure => simp [intOf]; omega
                · have z2 : ¬ ((k : Int) < 100) := by omega
                  have z2' : decide ((k : Int) < 100) = false := by simpa using z2
                  go_wp2
                  go_ret
                  exact ⟨rfl, hB⟩
              · have z1 : ¬ ((k : Int) < ((ops.length : Nat) : Int)) := by omega
                have z1' : decide ((k : Int) < ((ops.length : Nat) : Int)) = false := by simpa using z1
                go_wp2
                go_ret
                exact ⟨rfl, hB⟩

end Go.Proofs.Ytaknhoplgcnhkaa
