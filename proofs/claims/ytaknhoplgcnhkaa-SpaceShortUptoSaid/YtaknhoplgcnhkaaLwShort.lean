
import Derived.Test.YtaknhoplgcnhkaaSh
import Derived.Test.YtaknhoplgcnhkaaLwKeeps
namespace Go.Proofs.Ytaknhoplgcnhkaa
open Go.RowKit

theorem one_rdL {W0 : World} {t : Bool} {f k : Int} {n : Nat} (h : n = W0.heap.size) : EL.Rd (W0.alloc (.cells #[.bool t, .int .i64 f, .int .i64 k] 58)) (.slice (some ⟨n, 0, none⟩) 1 1) [(t, f, k)] := by
  subst h
  refine .inr ⟨W0.heap.size, 0, 1, rfl, Nat.le_refl _, by simp, fun j u hj => ?_⟩
  rw [cell_of_row _ W0.heap.size _ _ _ _ (heap_alloc_new _ _)]
  match j, hj with
  | 0, hj => exact hj
  | 1, hj => exact hj
  | 2, hj => exact hj
  | j + 3, hj => simp [EL, Enc.flat] at hj

set_option maxRecDepth 100000 in
set_option maxHeartbeats 2000000 in
theorem short_walk (a0 : Int) (w0 : -9223372036854775808 ≤ a0 ∧ a0 ≤ 9223372036854775807) (v1 : Value) (l : List Lin) (w : World) (hu : AR EL w v1 l) (hlen : l.length ≤ 1048576)
    (hg : ∀ x ∈ l, (-9223372036854775808 ≤ x.2.1 ∧ x.2.1 ≤ 9223372036854775807) ∧ (-9223372036854775808 ≤ x.2.2 ∧ x.2.2 ≤ 9223372036854775807)) :
    Calls Try.prog 8 #[.int .i64 a0, v1] w fun e w' => e = .returned (.bool true) ∧ Ext [] w w' := by
  obtain ⟨pu, cu, rfl, hu⟩ := hu
  have HU := Lib.hid hu
  have HG := Lib.hid hg
  clear hu hg
  go_enter Try.func8, Try.ntmps8
  go_wp2_with fail
  refine (known_c _).mono ?_
  rintro e W1 ⟨rfl, hE1⟩
  go_wp2_with fail
  refine (few_c a0 _).mono ?_
  rintro e W1 ⟨rfl, rfl⟩
  have hcc : ∃ c : Int, c = (if 80 < a0 ∧ a0 ≤ 40000 then 80 else a0) ∧ -9223372036854775808 ≤ c ∧ c ≤ 9223372036854775807 := ⟨_, rfl, by split <;> omega, by split <;> omega⟩
  obtain ⟨c, hc, c1, c2⟩ := hcc
  rw [← hc]
  clear hc
  go_wp2_with fail
  go_loopw [5, 6] (fun v i wr => ∃ k : Nat, k ≤ l.length ∧ i = .int .i64 k ∧ Ext [] w wr ∧ Hid (EL.Ow 58 wr v (l.take k) ∧ ∀ g ∈ blkL v, w.heap.size ≤ g)) (fun _ i _ => l.length - (intOf i).toNat)
  case atStart => exact ⟨0, Nat.zero_le _, rfl, hE1, .inl ⟨rfl, by simp⟩, by simp [blkL]⟩
  case round =>
    obtain ⟨k, hk, rfl, hB, HV⟩ := hrel
    by_cases hlt : k < l.length
    · obtain ⟨g, o, rfl⟩ : ∃ g o, pu = some ⟨g, o, none⟩ := by
        rcases HU.out (by intro h; rw [h] at hlt; simp at hlt) with ⟨_, h⟩ | ⟨g, o, c, h, _⟩
        · rw [h] at hlt; simp at hlt
        · cases h; exact ⟨g, o, rfl⟩
      obtain ⟨hm1, hm2, hm3⟩ := EL_cells ((HU.out (by intro h; rw [h] at hlt; simp at hlt)).ext0 hB) k hlt
      have hts : l.take (k + 1) = l.take k ++ [l.getD k (false,0,0)] := by
        have e : l.getD k (false,0,0) = l[k] := by simp [List.getD, hlt]
        rw [e, List.take_succ_eq_append_getElem hlt]
      obtain ⟨x, hx⟩ : ∃ x, x = l.getD k (false,0,0) := ⟨_, rfl⟩
      rw [← hx] at hm1 hm2 hm3 hts
      obtain ⟨xt, xf, xn⟩ := x
      simp only at hm1 hm2 hm3
      have HTS := Lib.hid hts
      clear hx hts
      have z1 : (k : Int) < ((l.length : Nat) : Int) := by omega
      have hd1 := (Ext.refl [] wr).drew.cell hm1 (by simp)
      have hd2 := (Ext.refl [] wr).drew.cell hm2 (by simp)
      have hd3 := (Ext.refl [] wr).drew.cell hm3 (by simp)
      go_wp2_with fail
      refine wp_region_u (fun W => W.cell? ⟨g, o + k * 3, none⟩ = some (.bool xt) ∧ W.cell? ⟨g, o + k * 3 + 1, none⟩ = some (.int .i64 xf) ∧ W.cell? ⟨g, o + k * 3 + 2, none⟩ = some (.int .i64 xn)) (fun i => decide (i < 17) && !(i == 0)) (by kernel_rfl) (⟨hd1, hd2, hd3⟩) (fun hS => ?_)
      (refine wpAnyU_pure (i := 0) rfl (by kernel_rfl) (by kernel_rfl) (by kernel_rfl) (by rfl) (by exact fun _ _ _ h => h) (Or.inl ⟨by rfl, fun W => by (go_simp; try rfl)⟩) ?_); (try go_frame)
      (refine wpAnyU_take (i := 1) rfl (by kernel_rfl) (by kernel_rfl) (by kernel_rfl) (by kernel_rfl) (by exact fun _ _ _ h => h) (by assumption) (Or.inl ⟨by rfl, fun W hW => by (have hWW := hW; clear hW; go_split_ands; go_simp; try rfl)⟩) ?_); (try go_frame)
      (refine wpAnyU_take (i := 2) rfl (by kernel_rfl) (by kernel_rfl) (by kernel_rfl) (by kernel_rfl) (by exact fun _ _ _ h => h) (by assumption) (Or.inl ⟨by rfl, fun W hW => by (have hWW := hW; clear hW; go_split_ands; go_simp; try rfl)⟩) ?_); (try go_frame)
      (refine wpAnyU_take (i := 3) rfl (by kernel_rfl) (by kernel_rfl) (by kernel_rfl) (by kernel_rfl) (by exact fun _ _ _ h => h) (by assumption) (Or.inl ⟨by rfl, fun W hW => by (have hWW := hW; clear hW; go_split_ands; go_simp; try rfl)⟩) ?_); (try go_frame)
      (refine wpAnyU_take (i := 4) rfl (by kernel_rfl) (by kernel_rfl) (by kernel_rfl) (by kernel_rfl) (by exact fun _ _ _ h => h) (by assumption) (Or.inl ⟨by rfl, fun W hW => by (have hWW := hW; clear hW; go_split_ands; go_simp; try rfl)⟩) ?_); (try go_frame)
      (refine wpAnyU_take (i := 5) rfl (by kernel_rfl) (by kernel_rfl) (by kernel_rfl) (by kernel_rfl) (by exact fun _ _ _ h => h) (by assumption) (Or.inl ⟨by rfl, fun W hW => by (have hWW := hW; clear hW; go_split_ands; go_simp; try rfl)⟩) ?_); (try go_frame)
      (refine wpAnyU_take (i := 6) rfl (by kernel_rfl) (by kernel_rfl) (by kernel_rfl) (by kernel_rfl) (by exact fun _ _ _ h => h) (by assumption) (Or.inl ⟨by rfl, fun W hW => by (have hWW := hW; clear hW; go_split_ands; go_simp; try rfl)⟩) ?_); (try go_frame)
      (refine wpAnyU_take (i := 7) rfl (by kernel_rfl) (by kernel_rfl) (by kernel_rfl) (by kernel_rfl) (by exact fun _ _ _ h => h) (by assumption) (Or.inl ⟨by rfl, fun W hW => by (have hWW := hW; clear hW; go_split_ands; go_simp; try rfl)⟩) ?_); (try go_frame)
      (refine wpAnyU_take (i := 8) rfl (by kernel_rfl) (by kernel_rfl) (by kernel_rfl) (by kernel_rfl) (by exact fun _ _ _ h => h) (by assumption) (Or.inl ⟨by rfl, fun W hW => by (have hWW := hW; clear hW; go_split_ands; go_simp; try rfl)⟩) ?_); (try go_frame)
      (refine wpAnyU_take (i := 9) rfl (by kernel_rfl) (by kernel_rfl) (by kernel_rfl) (by kernel_rfl) (by exact fun _ _ _ h => h) (by assumption) (Or.inl ⟨by rfl, fun W hW => by (have hWW := hW; clear hW; go_split_ands; go_simp; try rfl)⟩) ?_); (try go_frame)
      (refine wpAnyU_take (i := 10) rfl (by kernel_rfl) (by kernel_rfl) (by kernel_rfl) (by kernel_rfl) (by exact fun _ _ _ h => h) (by assumption) (Or.inl ⟨by rfl, fun W hW => by (have hWW := hW; clear hW; go_split_ands; go_simp; try rfl)⟩) ?_); (try go_frame)
      (refine wpAnyU_take (i := 11) rfl (by kernel_rfl) (by kernel_rfl) (by kernel_rfl) (by kernel_rfl) (by exact fun _ _ _ h => h) (by assumption) (Or.inl ⟨by rfl, fun W hW => by (have hWW := hW; clear hW; go_split_ands; go_simp; try rfl)⟩) ?_); (try go_frame)
      (refine wpAnyU_take (i := 12) rfl (by kernel_rfl) (by kernel_rfl) (by kernel_rfl) (by kernel_rfl) (by exact fun _ _ _ h => h) (by assumption) (Or.inl ⟨by rfl, fun W hW => by (have hWW := hW; clear hW; go_split_ands; go_simp; try rfl)⟩) ?_); (try go_frame)
      (refine wpAnyU_take (i := 13) rfl (by kernel_rfl) (by kernel_rfl) (by kernel_rfl) (by kernel_rfl) (by exact fun _ _ _ h => h) (by assumption) (Or.inl ⟨by rfl, fun W hW => by (have hWW := hW; clear hW; go_split_ands; go_simp; try rfl)⟩) ?_); (try go_frame)
      (refine wpAnyU_take (i := 14) rfl (by kernel_rfl) (by kernel_rfl) (by kernel_rfl) (by kernel_rfl) (by exact fun _ _ _ h => h) (by assumption) (Or.inl ⟨by rfl, fun W hW => by (have hWW := hW; clear hW; go_split_ands; go_simp; try rfl)⟩) ?_); (try go_frame)
      (refine wpAnyU_take (i := 15) rfl (by kernel_rfl) (by kernel_rfl) (by kernel_rfl) (by kernel_rfl) (by exact fun _ _ _ h => h) (by assumption) (Or.inl ⟨by rfl, fun W hW => by (have hWW := hW; clear hW; go_split_ands; go_simp; try rfl)⟩) ?_); (try go_frame)
      (refine wpAnyU_take (i := 16) rfl (by kernel_rfl) (by kernel_rfl) (by kernel_rfl) (by kernel_rfl) (by exact fun _ _ _ h => h) (by assumption) (Or.inl ⟨by rfl, fun W hW => by (have hWW := hW; clear hW; go_split_ands; go_simp; try rfl)⟩) ?_); (try go_frame)
      refine wpAnyU_one (i := 17) (by kernel_rfl) rfl (fun K hK => ?_)
      (try simp only [Act.put, List.getElem_toArray, List.getElem_cons_zero, List.getElem_cons_succ, List.setIfInBounds_toArray, List.set_cons_zero, List.set_cons_succ]); rw [if_pos (show Region.wanted _ _ = true from rfl)]
      go_simp
      refine hK.out _ _ (fun h => by cases h) (fun _ => ?_)
      clear hK
      refine wpAnyU_one (i := 18) (by kernel_rfl) rfl (fun K hK => ?_)
      (try simp only [Act.put, List.getElem_toArray, List.getElem_cons_zero, List.getElem_cons_succ, List.setIfInBounds_toArray, List.set_cons_zero, List.set_cons_succ]); rw [if_pos (show Region.wanted _ _ = true from rfl)]
      refine opw_append (s := .tmp 26) (x := .tmp 43) (E := EL) (T := 58) (zero := (false,0,0)) (bytes := 24) (v := u5) (xs := l.take k) (ys := [(xt, xf, xn)]) tiL Try.underlying55 Try.underlying55 rfl rfl rfl (HV.out.1.ext0 ((Ext.refl [] wr).drew.alloc _)) (one_rdL rfl) (by simp; omega) (by simp; omega) ?_
      intro v5 w5 how5 hE5 hnear5 _
      refine hK.out _ _ (fun h => by cases h) (fun _ => ?_)
      (refine wpAnyU_pure (i := 19) rfl (by kernel_rfl) (by kernel_rfl) (by kernel_rfl) (by rfl) (by exact fun _ _ _ h => h) (Or.inl ⟨by rfl, fun W => by (go_simp; try rfl)⟩) ?_); (try go_frame)
      refine wpAnyU_done (by kernel_rfl) ?_ _
      clear hK hS
      go_wp2
      go_roundw
      case rel =>
        have hEw : Ext [] w w5 := (hB.trans ((Ext.refl [] wr).drew.alloc _)).trans' hE5 (by simp) (fun x hx => .inr (HV.out.2 x hx))
        refine ⟨k + 1, by omega, by go_num, hEw, ?_⟩
        refine ⟨by rw [HTS.out]; exact how5, fun y hy => ?_⟩
        rcases hnear5 y hy with h | h
        · exact HV.out.2 y h
        · have h1 := hB.size
          have h2 : wr.heap.size + 1 ≤ y := by simpa using h
          omega
      case measure => simp [intOf]; omega
    · obtain rfl : k = l.length := by omega
      have hv0 := HV.out.1
      rw [List.take_length] at hv0
      have HV0 := Lib.hid hv0
      obtain ⟨p5, c5, rfl, _⟩ := hv0.rd.len_eq
      clear HV hv0
      go_wp2_with fail
      refine (condense_c c _ l _ HV0.out.rd c1 c2 (by omega) HG.out).mono ?_
      rintro e W2 ⟨v2, err, rfl, hE2, hrel⟩
      rcases hrel with ⟨h, rfl, rfl⟩ | ⟨_, _, _, rfl, rfl⟩ | ⟨h1, h2, rfl, s, h, hi, hbk, hlv, hst, hpl, how2, hnew2⟩
      · go_wp2
        go_ret
        exact ⟨rfl, hB.trans hE2⟩
      · go_wp2
        go_ret
        exact ⟨rfl, hB.trans hE2⟩
      · have hnc : s.cells = c := by have h3 := hst.1; have h4 := hpl.len; simp at h4; omega
        have HI := Lib.hid hi
        have HST := Lib.hid hst
        have HPL := Lib.hid hpl
        have HLV := Lib.hid hlv
        have HO2 := Lib.hid how2
        have hlgl : (lg s.used).length ≤ 40000 := by have := hi.okU.len; simp [lg]; omega
        have hgl : ∀ x ∈ lg s.used, (-9223372036854775808 ≤ x.2.1 ∧ x.2.1 ≤ 9223372036854775807) ∧ (-9223372036854775808 ≤ x.2.2 ∧ x.2.2 ≤ 9223372036854775807) := by
          intro x hx
          simp only [lg, List.mem_map] at hx
          obtain ⟨r, hr, rfl⟩ := hx
          have := hi.okU.2 r hr
          simp only
          omega
        have HGL := Lib.hid hgl
        have hlg : (lg s.used).length = s.used.length := by simp [lg]
        obtain ⟨p2, cc2, e2, _⟩ := how2.rd.len_eq
        rw [hlg] at e2
        subst e2
        clear hi hst hpl hlv how2 hnew2 hgl
        go_wp2_with fail
        refine (condense_c c _ (lg s.used) _ HO2.out.rd c1 c2 (by omega) HGL.out).mono ?_
        rintro e W3 ⟨v3, err, rfl, hE3, hrel⟩
        have hwU : Ext [] w W3 := (hB.trans hE2).trans hE3
        obtain ⟨rfl, hn3, how3⟩ : err = 0 ∧ True ∧ EL.Ow 58 W3 v3 (lg s.used) := by
          rcases hrel with ⟨h, _⟩ | ⟨_, _, ⟨k, h', q1, q2, q3⟩, _⟩ | ⟨_, _, rfl, s3, h3, hi3, hbk3, hlv3, hst3, hpl3, how3, _⟩
          · omega
          · rw [← hnc] at q1
            exact (lg_good HI.out q1 q2 q3).elim
          · rw [← hnc] at hpl3
            have e := lg_states HI.out HLV.out HST.out hpl3
            subst e
            have hu := (HST.out.used_eq HI.out hi3 hst3).1
            rw [← hu] at how3
            exact ⟨rfl, trivial, how3⟩
        have HO3 := Lib.hid how3
        obtain ⟨p3, cc3, e3, _⟩ := how3.rd.len_eq
        rw [hlg] at e3
        subst e3
        clear hrel how3 hn3
        go_wp2_with fail
        refine (replay_c c _ l _ ((HV0.out.ext0 hE2).ext0 hE3).rd c1 c2 (by omega) HG.out).mono ?_
        rintro e W4 ⟨p, err, rfl, hE4, hrel⟩
        obtain ⟨rfl, b4, s4, rfl, hr4, hi4, hbk4, hst4⟩ : err = 0 ∧ ∃ b4 s4, p = some ⟨b4, 0, none⟩ ∧ SpR W4 b4 s4 ∧ SpI s4 ∧ s4.back = 0 ∧ StRel s4 h := by
          rcases hrel with ⟨h, _⟩ | ⟨_, _, q, _⟩ | ⟨_, _, rfl, b, s', h', rfl, hb, hr, hi, hbk, hlv, hst, hpl⟩
          · omega
          · exact (played_one HPL.out q).elim
          · have e := HPL.out.same _ hpl
            subst e
            exact ⟨rfl, b, s', rfl, hr, hi, hbk, hst⟩
        have HR4 := Lib.hid hr4
        have HI4 := Lib.hid hi4
        have HST4 := Lib.hid hst4
        clear hrel hr4 hi4 hst4
        go_wp2_with fail
        refine (replay_c c _ (lg s.used) _ ((HO2.out.ext0 hE3).ext0 hE4).rd c1 c2 (by omega) HGL.out).mono ?_
        rintro e W5 ⟨p, err, rfl, hE5, hrel⟩
        obtain ⟨rfl, b5, s5, rfl, hr5, hi5, hbk5, hst5⟩ : err = 0 ∧ ∃ b4 s4, p = some ⟨b4, 0, none⟩ ∧ SpR W5 b4 s4 ∧ SpI s4 ∧ s4.back = 0 ∧ StRel s4 h := by
          rcases hrel with ⟨h, _⟩ | ⟨_, _, ⟨k, h', q1, q2, q3⟩, _⟩ | ⟨_, _, rfl, b, s', h', rfl, hb, hr, hi, hbk, hlv, hst, hpl⟩
          · omega
          · rw [← hnc] at q1
            exact (lg_good HI.out q1 q2 q3).elim
          · rw [← hnc] at hpl
            have e := lg_states HI.out HLV.out HST.out hpl
            subst e
            exact ⟨rfl, b, s', rfl, hr, hi, hbk, hst⟩
        have hfe := (HST4.out.used_eq HI4.out hi5 hst5).2
        have HR5 := Lib.hid hr5
        have HI5 := Lib.hid hi5
        have HFE := Lib.hid hfe
        clear hrel hr5 hi5 hst5 hfe
        have hzero : l.length = 0 → (lg s.used).length = 0 := by
          intro hz
          have h1 := HPL.out
          rw [hz] at h1
          have e : h = List.replicate c.toNat 0 := by cases h1; rfl
          have hu : s.used = [] := by
            refine HI.out.okU.ext Ok.nil (fun x => ⟨fun hm => ?_, fun hm => (Mem_nil hm).elim⟩)
            have hc := (HI.out.all x).2 (.inr (.inl hm))
            have h2 := HST.out.iff HI.out (i := x.toNat) (by have := HST.out.1; omega)
            rw [Int.toNat_of_nonneg hc.1] at h2
            have h3 := h2.2.1.2 hm
            rw [e] at h3
            have h4 : x.toNat < c.toNat := by omega
            simp [h4] at h3
          rw [hu]; rfl
        go_wp2_with fail
        refine (free_c b4 s4 _ (HR4.out.ext0 hE5) HI4.out).mono ?_
        rintro e W6 ⟨rfl, hE6⟩
        rw [hbk4, HFE.out]
        go_wp2_with fail
        refine (free_c b5 s5 _ (HR5.out.ext0 hE6) HI5.out).mono ?_
        rintro e W7 ⟨rfl, hE7⟩
        rw [hbk5]
        have hE27 : Ext [] W2 W7 := (((hE3.trans hE4).trans hE5).trans hE6).trans hE7
        have hE37 : Ext [] W3 W7 := ((hE4.trans hE5).trans hE6).trans hE7
        have hEw7 : Ext [] w W7 := (hB.trans hE2).trans hE27
        have HC7 := Lib.hid (HO2.out.ext0 hE27)
        have HD7 := Lib.hid (HO3.out.ext0 hE37)
        have hlU := HI.out.okU.len
        rw [hlg] at hzero
        obtain ⟨n, hn⟩ : ∃ n, n = l.length := ⟨_, rfl⟩
        obtain ⟨m, hm⟩ : ∃ m, m = s.used.length := ⟨_, rfl⟩
        rw [← hn, ← hm] at hzero
        rw [← hm] at hlU
        rw [← hn] at hlen
        rw [← hn, ← hm]
        have HM := Lib.hid hm
        have HLG := Lib.hid hlg
        clear hE2 hE3 hE4 hE5 hE6 hE7 hE27 hE37
        clear hlg hlgl HU HG HV0 HPL hm hn
        by_cases hbig : n < m
        · have hl0' : ((n : Int) == 0) = false := by
            have h0 : (n : Int) ≠ 0 := by omega
            simpa using h0
          have hbig' : (n : Int) < (m : Int) := by omega
          clear hzero
          go_wp2_with fail
          go_loopw [15] (fun iv wr => ∃ q : Nat, q ≤ m ∧ iv = .int .i64 q ∧ Ext [] W7 wr) (fun iv _ => m - (intOf iv).toNat)
          case atStart => exact ⟨0, Nat.zero_le _, rfl, Ext.refl _ _⟩
          case round =>
            obtain ⟨q, hq, rfl, hB7⟩ := hrel
            by_cases hqm : q < m
            · have hqU : q < s.used.length := by rw [← HM.out]; exact hqm
              have hqL : q < (lg s.used).length := by rw [HLG.out]; exact hqU
              obtain ⟨g2, o2, rfl⟩ : ∃ g o, p2 = some ⟨g, o, none⟩ := by
                rcases HC7.out.rd with ⟨_, h⟩ | ⟨g, o, c, h, _⟩
                · rw [h] at hqL; simp at hqL
                · simp only [Value.slice.injEq] at h; exact ⟨g, o, h.1⟩
              obtain ⟨g3, o3, rfl⟩ : ∃ g o, p3 = some ⟨g, o, none⟩ := by
                rcases HD7.out.rd with ⟨_, h⟩ | ⟨g, o, c, h, _⟩
                · rw [h] at hqL; simp at hqL
                · simp only [Value.slice.injEq] at h; exact ⟨g, o, h.1⟩
              have hc := EL_cells (HC7.out.ext0 hB7).rd q hqL
              have hd := EL_cells (HD7.out.ext0 hB7).rd q hqL
              rw [lg_getD hqU] at hc hd
              have hy0 := HI.out.okU.at hqU
              have hz1 : (q : Int) < (m : Int) := by omega
              have hprev : 0 < q → (s.used.getD (q - 1) (0,0)).2 < (s.used.getD q (0,0)).1 ∧ wr.cell? ⟨g2, o2 + (q - 1) * 3 + 1, none⟩ = some (.int .i64 (s.used.getD (q - 1) (0,0)).1) ∧ wr.cell? ⟨g2, o2 + (q - 1) * 3 + 2, none⟩ = some (.int .i64 ((s.used.getD (q - 1) (0,0)).2 - (s.used.getD (q - 1) (0,0)).1)) ∧ 0 ≤ (s.used.getD (q - 1) (0,0)).1 ∧ (s.used.getD (q - 1) (0,0)).1 < (s.used.getD (q - 1) (0,0)).2 := by
                intro h0
                have h1 := EL_cells (HC7.out.ext0 hB7).rd (q - 1) (by omega)
                rw [lg_getD (by omega)] at h1
                have h2 := HI.out.okU.at (i := q - 1) (by omega)
                exact ⟨HI.out.okU.lt (by omega) hqU, h1.2.1, h1.2.2, h2.1, h2.2.1⟩
              obtain ⟨y, hy⟩ : ∃ y, y = s.used.getD q (0,0) := ⟨_, rfl⟩
              rw [← hy] at hc hd hy0 hprev
              obtain ⟨hc1, hc2, hc3⟩ := hc
              obtain ⟨hd1, hd2, hd3⟩ := hd
              obtain ⟨y1, y2, y3⟩ := hy0
              clear hy hqU hqL
              have d0 : (0 : Int) ≤ (q : Int) := by omega
              have d1 : ((q : Nat) : Int).toNat = q := by omega
              obtain ⟨z, hz⟩ : ∃ z, z = y.2 - y.1 := ⟨_, rfl⟩
              simp only at hc3 hd3
              rw [← hz] at hc3 hd3
              have e0 : (1 : Int) ≤ z := by omega
              have e1 : ¬ (z < 1) := by omega
              have e1' : decide (z < 1) = false := by simpa using e1
              clear hz
              by_cases hq0 : 0 < q
              · obtain ⟨hp1, hp2, hp3, hp4, hp5⟩ := hprev hq0
                obtain ⟨x, hx⟩ : ∃ x, x = s.used.getD (q - 1) (0,0) := ⟨_, rfl⟩
                rw [← hx] at hp1 hp2 hp3 hp4 hp5
                clear hx hprev
                have z0 : (0 : Int) < (q : Int) := by omega
                have z1 : IntKind.i64.wrap ((q : Int) - 1) = (q : Int) - 1 := IntWalk.i64_in _ (by omega)
                have z2 : (1 : Int) ≤ (q : Int) := by omega
                have z3 : ((q : Int) - 1).toNat = q - 1 := by omega
                have z4 : (q : Int) - 1 < (m : Int) := by omega
                have z5 : (0 : Int) ≤ (q : Int) - 1 := by omega
                have z6 : IntKind.i64.wrap (x.1 + (x.2 - x.1)) = x.2 := by rw [show x.1 + (x.2 - x.1) = x.2 by omega]; exact IntWalk.i64_in _ (by omega)
                have z7 : ¬ (y.1 ≤ x.2) := by omega
                have z7' : decide (y.1 ≤ x.2) = false := by simpa using z7
                go_wp2_with fail
                go_big_quiet (fail)
                go_wp2
                go_roundw
                case rel => exact ⟨q + 1, by omega, by go_num, by first | exact hB7.drewN _ | exact hB7⟩
                case measure => simp [intOf]; omega
              · have z0 : ¬ ((0 : Int) < (q : Int)) := by omega
                have z0' : decide ((0 : Int) < (q : Int)) = false := by simpa using z0
                clear hprev
                go_wp2_with fail
                go_big_quiet (fail)
                go_wp2
                go_roundw
                case rel => exact ⟨q + 1, by omega, by go_num, by first | exact hB7.drewN _ | exact hB7⟩
                case measure => simp [intOf]; omega
            · go_wp2
              go_ret
              exact ⟨rfl, hEw7.trans hB7⟩
        · have hbig' : ¬ ((n : Int) < (m : Int)) := by omega
          clear hzero
          go_wp2_with fail
          go_loopw [15] (fun iv wr => ∃ q : Nat, q ≤ m ∧ iv = .int .i64 q ∧ Ext [] W7 wr) (fun iv _ => m - (intOf iv).toNat)
          case atStart => exact ⟨0, Nat.zero_le _, rfl, Ext.refl _ _⟩
          case round =>
            obtain ⟨q, hq, rfl, hB7⟩ := hrel
            by_cases hqm : q < m
            · have hqU : q < s.used.length := by rw [← HM.out]; exact hqm
              have hqL : q < (lg s.used).length := by rw [HLG.out]; exact hqU
              obtain ⟨g2, o2, rfl⟩ : ∃ g o, p2 = some ⟨g, o, none⟩ := by
                rcases HC7.out.rd with ⟨_, h⟩ | ⟨g, o, c, h, _⟩
                · rw [h] at hqL; simp at hqL
                · simp only [Value.slice.injEq] at h; exact ⟨g, o, h.1⟩
              obtain ⟨g3, o3, rfl⟩ : ∃ g o, p3 = some ⟨g, o, none⟩ := by
                rcases HD7.out.rd with ⟨_, h⟩ | ⟨g, o, c, h, _⟩
                · rw [h] at hqL; simp at hqL
                · simp only [Value.slice.injEq] at h; exact ⟨g, o, h.1⟩
              have hc := EL_cells (HC7.out.ext0 hB7).rd q hqL
              have hd := EL_cells (HD7.out.ext0 hB7).rd q hqL
              rw [lg_getD hqU] at hc hd
              have hy0 := HI.out.okU.at hqU
              have hz1 : (q : Int) < (m : Int) := by omega
              have hprev : 0 < q → (s.used.getD (q - 1) (0,0)).2 < (s.used.getD q (0,0)).1 ∧ wr.cell? ⟨g2, o2 + (q - 1) * 3 + 1, none⟩ = some (.int .i64 (s.used.getD (q - 1) (0,0)).1) ∧ wr.cell? ⟨g2, o2 + (q - 1) * 3 + 2, none⟩ = some (.int .i64 ((s.used.getD (q - 1) (0,0)).2 - (s.used.getD (q - 1) (0,0)).1)) ∧ 0 ≤ (s.used.getD (q - 1) (0,0)).1 ∧ (s.used.getD (q - 1) (0,0)).1 < (s.used.getD (q - 1) (0,0)).2 := by
                intro h0
                have h1 := EL_cells (HC7.out.ext0 hB7).rd (q - 1) (by omega)
                rw [lg_getD (by omega)] at h1
                have h2 := HI.out.okU.at (i := q - 1) (by omega)
                exact ⟨HI.out.okU.lt (by omega) hqU, h1.2.1, h1.2.2, h2.1, h2.2.1⟩
              obtain ⟨y, hy⟩ : ∃ y, y = s.used.getD q (0,0) := ⟨_, rfl⟩
              rw [← hy] at hc hd hy0 hprev
              obtain ⟨hc1, hc2, hc3⟩ := hc
              obtain ⟨hd1, hd2, hd3⟩ := hd
              obtain ⟨y1, y2, y3⟩ := hy0
              clear hy hqU hqL
              have d0 : (0 : Int) ≤ (q : Int) := by omega
              have d1 : ((q : Nat) : Int).toNat = q := by omega
              obtain ⟨z, hz⟩ : ∃ z, z = y.2 - y.1 := ⟨_, rfl⟩
              simp only at hc3 hd3
              rw [← hz] at hc3 hd3
              have e0 : (1 : Int) ≤ z := by omega
              have e1 : ¬ (z < 1) := by omega
              have e1' : decide (z < 1) = false := by simpa using e1
              clear hz
              by_cases hq0 : 0 < q
              · obtain ⟨hp1, hp2, hp3, hp4, hp5⟩ := hprev hq0
                obtain ⟨x, hx⟩ : ∃ x, x = s.used.getD (q - 1) (0,0) := ⟨_, rfl⟩
                rw [← hx] at hp1 hp2 hp3 hp4 hp5
                clear hx hprev
                have z0 : (0 : Int) < (q : Int) := by omega
                have z1 : IntKind.i64.wrap ((q : Int) - 1) = (q : Int) - 1 := IntWalk.i64_in _ (by omega)
                have z2 : (1 : Int) ≤ (q : Int) := by omega
                have z3 : ((q : Int) - 1).toNat = q - 1 := by omega
                have z4 : (q : Int) - 1 < (m : Int) := by omega
                have z5 : (0 : Int) ≤ (q : Int) - 1 := by omega
                have z6 : IntKind.i64.wrap (x.1 + (x.2 - x.1)) = x.2 := by rw [show x.1 + (x.2 - x.1) = x.2 by omega]; exact IntWalk.i64_in _ (by omega)
                have z7 : ¬ (y.1 ≤ x.2) := by omega
                have z7' : decide (y.1 ≤ x.2) = false := by simpa using z7
                go_wp2_with fail
                go_big_quiet (fail)
                go_wp2
                go_roundw
                case rel => exact ⟨q + 1, by omega, by go_num, by first | exact hB7.drewN _ | exact hB7⟩
                case measure => simp [intOf]; omega
              · have z0 : ¬ ((0 : Int) < (q : Int)) := by omega
                have z0' : decide ((0 : Int) < (q : Int)) = false := by simpa using z0
                clear hprev
                go_wp2_with fail
                go_big_quiet (fail)
                go_wp2
                go_roundw
                case rel => exact ⟨q + 1, by omega, by go_num, by first | exact hB7.drewN _ | exact hB7⟩
                case measure => simp [intOf]; omega
            · go_wp2
              go_ret
              exact ⟨rfl, hEw7.trans hB7⟩

end Go.Proofs.Ytaknhoplgcnhkaa
