
import Derived.Test.YtgfajlaibgbdoaaGreatArB
namespace Go.Proofs.YtgfajlaibgbdoaaGreat
open Go.RowKit

/-- a block's bytes and one sector of noughts. -/
def padB (bs : List UInt8) : List UInt8 := bs ++ List.replicate 128 0

set_option maxRecDepth 100000 in
set_option maxHeartbeats 1600000 in
theorem arlayout_c (a r k F : Nat) (v : Value) (bs : List UInt8) (w : World) (ha : ArrR w a r (k + 4) F) (hk : k ≤ 100) (hv : EB.Rd w v bs) (h1 : 1 ≤ bs.length) (h2 : bs.length ≤ 1024) :
    Calls Tryz.prog 49 #[.pointer (some ⟨a, 0, none⟩), v] w fun e w' => ∃ u zs, e = .returned (.tuple #[u, .int .i64 0]) ∧ ES.Ow 40 w' u (zs.map (·.1)) ∧ CellsOk w' w.heap.size zs ∧ LayOf k (padB bs) ((bs.length + 127) / 128) (zs.map (·.2)) ∧ Ext [] w w' := by
  have HA := Lib.hid ha
  obtain ⟨p, c, rfl, _⟩ := hv.len_eq
  obtain ⟨size, hsz⟩ : ∃ n, n = bs.length := ⟨_, rfl⟩
  rw [← hsz] at hv h1 h2 ⊢
  have HV := Lib.hid hv
  have HSZ := Lib.hid hsz
  clear ha hv hsz
  go_enter Tryz.func49, Tryz.ntmps49
  go_wp2_with fail
  refine (bclone_c _ bs _ (by rw [← HSZ.out]; omega) HV.out).mono ?_
  rintro e W1 ⟨v1, rfl, how1, hE1, hn1, -⟩
  go_wp2_with (with_reducible refine hold_at (d := 15) ?_)
  refine wpl_of rfl fun K hK => opw_append_make (E := EB) (T := 5) (zero := 0) (bytes := 1) (v := v1) (xs := bs) (n := 128) tiB Tryz.underlying40 Tryz.underlying3 rfl rfl rfl how1 (by rw [← HSZ.out]; omega) (by rw [← HSZ.out]; omega) ?_
  intro v2 W2 how2 hE2 hnear2 _
  refine hK _ _ ?_
  clear hK
  have hE02 : Ext [] w W2 := hE1.trans' hE2 (by simp) (fun y hy => .inr (hn1 y hy))
  obtain ⟨P, hP⟩ : ∃ P, P = padB bs := ⟨_, rfl⟩
  have how2 : EB.Ow 5 W2 v2 P := by rw [hP]; exact how2
  have hPl : P.length = size + 128 := by rw [hP, HSZ.out, padB]; simp
  obtain ⟨p2, c2, rfl, hc2⟩ := how2.rd.len_eq
  have hsec : Sec W2 w.heap.size (p2, P.length, c2) P := ⟨how2.rd, fun y hy => ⟨by
    rcases hnear2 y hy with h | h
    · exact hn1 y h
    · have := hE1.size; omega, by obtain ⟨x, hx⟩ := how2.tag y hy; exact tagOf_of hx⟩⟩
  have HP := Lib.hid hP
  have HSEC := Lib.hid hsec
  clear hsec how2 how1 hn1 hE1 hE2 hnear2 hP
  go_wp2_with fail
  have hr1 := arrows_c a r k F 0 size W2 (HA.out.ext0 hE02) hk (by omega) (by omega) h1 h2
  refine hr1.mono ?_
  clear hr1
  rintro e W3 ⟨v3, rfl, how3, hn3, hE3⟩
  obtain ⟨p3, c3, rfl, hc3⟩ := how3.rd.len_eq
  have hE03 := hE02.trans hE3
  have HSEC3 := Lib.hid (HSEC.out.ext0 hE3)
  have HR3 := Lib.hid how3.rd
  have hrl := rowsF_len k ((size + 127) / 128) 0
  obtain ⟨l0, hl0⟩ : ∃ l, l = (size + 127) / 128 := ⟨_, rfl⟩
  have hPl2 : 128 * l0 < P.length := by omega
  have hl8 : l0 ≤ 8 := by omega
  obtain ⟨rs, hrs⟩ : ∃ rs, rs = rowsF k 0 l0 := ⟨_, rfl⟩
  rw [← hl0, ← hrs] at HR3 hrl
  rw [← hl0, ← hrs]
  have HRS := Lib.hid hrs
  have HL0 := Lib.hid hl0
  obtain ⟨nr, hnr⟩ : ∃ n, n = rs.length := ⟨_, rfl⟩
  rw [← hnr] at HR3 hrl ⊢
  have HNR := Lib.hid hnr
  clear hrs hl0 how3 hn3 hc3 hnr HSEC hE3
  go_wp2_with fail
  obtain ⟨B, hB⟩ : ∃ B, B = w.heap.size := ⟨_, rfl⟩
  have HBB := Lib.hid hB
  rw [← hB] at HSEC3
  have hB3 : B ≤ W3.heap.size := by have := hE03.size; omega
  have hPle : P.length ≤ 1152 := by omega
  rw [← hPl]
  clear hPl hB
  go_loopw [6, 7, 9, 10, 11, 12, 21] (fun pv ov _ _ _ _ iv wr => ∃ (q l : Nat) (a' : Int) (P' : List UInt8) (x : Option Addr × Nat × Nat) (zs : List ((Option Addr × Nat × Nat) × List UInt8)), q ≤ nr ∧ iv = .int .i64 q ∧ pv = .slice x.1 x.2.1 x.2.2 ∧ l ≤ l0 ∧ 128 * l < P'.length ∧ P'.length ≤ 1152 ∧ zs.length ≤ 4 * (l0 - l) ∧ Ext [] W3 wr ∧ Hid (rs.drop q = rowsF k a' l) ∧ Hid (Sec wr B x P') ∧ Hid (ES.Ow 40 wr ov (zs.map (·.1)) ∧ CellsOk wr B zs ∧ ∀ y ∈ blkL ov, W3.heap.size ≤ y) ∧ Hid (∀ rest, LayOf k P' l rest → LayOf k P l0 (zs.map (·.2) ++ rest))) (fun _ _ _ _ _ _ iv _ => nr - (intOf iv).toNat)
  case atStart => exact ⟨0, l0, 0, P, (p2, P.length, c2), [], by omega, rfl, rfl, by omega, hPl2, hPle, by simp, Ext.refl _ _, HRS, HSEC3, Lib.hid ⟨.inl ⟨rfl, rfl⟩, (fun z hz => by cases hz), by simp [blkL]⟩, Lib.hid (fun rest h => h)⟩
  case round =>
    obtain ⟨q, l, a', P', x, zs, hq, rfl, rfl, hll, hPl', hPle', hzl, hE, HDR, HS, HO, HL⟩ := hrel
    by_cases hlt : q < nr
    · have z1 : (q : Int) < (nr : Int) := by omega
      obtain ⟨g3, o3, rfl⟩ : ∃ g o, p3 = some ⟨g, o, none⟩ := by
        rcases HR3.out with ⟨_, h⟩ | ⟨g, o, c, h, _⟩
        · have := HNR.out; rw [h] at this; simp at this; omega
        · simp only [Value.slice.injEq] at h; exact ⟨g, o, h.1⟩
      have hr3 : ER.Rd wr (.slice (some ⟨g3, o3, none⟩) nr c3) rs := HR3.out.ext0 hE
      obtain ⟨hm1, hm2⟩ := ER_cells hr3 q (by rw [← HNR.out]; exact hlt)
      have hdr : rs.drop q = rs.getD q (0, 0) :: rs.drop (q + 1) := by
        rw [List.drop_eq_getElem_cons (by rw [← HNR.out]; exact hlt)]
        congr 1
        have := HNR.out
        simp [List.getD, show q < rs.length by omega]
      have hl1 : l ≠ 0 := by
        rintro rfl
        have h := HDR.out
        rw [rowsF_zero, hdr] at h
        cases h
      have hrow := HDR.out
      rw [rowsF_pos k a' l hl1, hdr] at hrow
      simp only [List.cons.injEq] at hrow
      obtain ⟨hx1, hrest⟩ := hrow
      rw [hx1] at hm1 hm2
      simp only at hm1 hm2
      have M1 : 1 ≤ min l (k + 1) := by omega
      have M2 : min l (k + 1) ≤ l := by omega
      obtain ⟨M, hM⟩ : ∃ M, M = min l (k + 1) := ⟨_, rfl⟩
      have HLAY : Hid (∀ p1 p2 p3 rest, LayOf k (P'.drop (128 * M)) (l - M) rest → LayOf k P' l (p1 :: p2 :: p3 :: (secsOf P' M ++ rest))) := by
        rw [hM]; exact Lib.hid (fun p1 p2 p3 rest h => LayOf.row P' l p1 p2 p3 rest hl1 h)
      rw [← hM] at hm2 M1 M2 hrest
      have HREST := Lib.hid hrest
      clear hr3 hdr hx1 hM hrest
      go_wp2_with fail
      have hEa : Ext [] wr (wr.alloc (.cells #[.int .i64 a', .int .i64 M] 110)) := (Ext.refl [] wr).alloc _
      have hE1 := hE.trans hEa
      have HS1 := Lib.hid (HS.out.ext0 hEa)
      have HO1 := Lib.hid (And.intro (HO.out.1.ext0 hEa) (And.intro (HO.out.2.1.ext hEa (by simp)) HO.out.2.2))
      clear hEa hE HS HO hm1 hm2
      revert HO1 HS1 hE1
      generalize World.alloc _ _ = w1
      intro hE1 HS1 HO1
      go_loopw [6, 10, 27] (fun pv dv cv w2 => ∃ (c : Nat) (x : Option Addr × Nat × Nat) (ys : List ((Option Addr × Nat × Nat) × List UInt8)), c ≤ M ∧ cv = .int .i64 c ∧ pv = .slice x.1 x.2.1 x.2.2 ∧ ys.length = c ∧ Ext [] w1 w2 ∧ Hid (Sec w2 B x (P'.drop (128 * c))) ∧ Hid (ES.Ow 40 w2 dv (ys.map (·.1)) ∧ CellsOk w2 B ys ∧ ys.map (·.2) = secsOf P' c ∧ ∀ y ∈ blkL dv, w1.heap.size ≤ y)) (fun _ _ cv _ => M - (intOf cv).toNat)
      case atStart => exact ⟨0, x, [], by omega, rfl, rfl, rfl, Ext.refl _ _, HS1, Lib.hid ⟨.inl ⟨rfl, rfl⟩, (fun z hz => by cases hz), rfl, by simp [blkL]⟩⟩
      case round =>
        clear HS1
        obtain ⟨c, xi, ys, hc, rfl, rfl, hyl, hE2, HS2, HO2⟩ := hrel
        by_cases hcm : c < M
        · have z2 : (c : Int) < (M : Int) := by omega
          obtain ⟨px, nx, cx⟩ := xi
          have hdl : (P'.drop (128 * c)).length = P'.length - 128 * c := List.length_drop
          obtain ⟨p6, c6, e6, hn6⟩ := HS2.out.1.len_eq
          simp only [Value.slice.injEq] at e6
          obtain ⟨rfl, rfl, rfl⟩ := e6
          obtain ⟨gx, ox, rfl⟩ : ∃ g o, px = some ⟨g, o, none⟩ := by
            rcases HS2.out.1 with ⟨_, h⟩ | ⟨g, o, c, h, _⟩
            · rw [h] at hdl; simp at hdl; omega
            · simp only [Value.slice.injEq] at h; exact ⟨g, o, h.1⟩
          obtain ⟨n6, hn6'⟩ : ∃ n, n = (P'.drop (128 * c)).length := ⟨_, rfl⟩
          rw [← hn6'] at HS2 hn6 hdl ⊢
          have y1 : 128 < n6 := by omega
          have y2 : (128 : Int) ≤ (cx : Int) := by omega
          have y3 : (128 : Int) ≤ (n6 : Int) := by omega
          have y4 : 128 ≤ cx := by omega
          have y5 : ¬ (cx = 128) := by omega
          have htk := HS2.out.take (k := 128) (c' := 128) (by rw [← hn6']; omega) (by omega) (by omega)
          have hdp := HS2.out.drop 128 (by omega)
          rw [List.drop_drop, show 128 * c + 128 = 128 * (c + 1) by omega] at hdp
          have hzl : (List.take 128 (List.drop (128 * c) P')).length = 128 := by rw [List.length_take, ← hn6']; omega
          have HTK := Lib.hid htk
          have HDP := Lib.hid hdp
          have HZL := Lib.hid hzl
          obtain ⟨pv, cv, e7, _⟩ := HO2.out.1.rd.len_eq
          subst e7
          rw [List.length_map, hyl] at HO2 ⊢
          clear hn6' hdl htk hdp hn6 hzl
          dsimp only
          go_wp2_with (with_reducible refine hold_at (d := 33) ?_)
          refine wpl_of rfl fun K hK => opw_append (E := ES) (T := 40) (zero := (none, 0, 0)) (bytes := 24) (v := .slice pv c cv) (xs := ys.map (·.1)) (ys := [(some ⟨gx, ox, none⟩, 128, 128)]) tiS Tryz.underlying119 Tryz.underlying119 rfl rfl rfl (HO2.out.1.ext0 ((Ext.refl [] _).alloc _)) (one_rdS _ _) (by simp [hyl]; omega) (by simp [hyl]; omega) ?_
          intro v7 W7 how7 hE7 hnear7 _
          refine hK _ _ ?_
          clear hK
          have hEb : Ext [] wr _ := (Ext.refl [] wr).alloc (.cells #[.slice (some ⟨gx, ox, none⟩) 128 128] 40)
          have htags : ∀ y ∈ blkL (.slice pv c cv), tagOf (wr.alloc (.cells #[.slice (some ⟨gx, ox, none⟩) 128 128] 40)) y ≠ some 5 := fun y hy => by
            obtain ⟨z, hz⟩ := (HO2.out.1.ext0 hEb).tag y hy
            rw [tagOf_of hz]
            decide
          have hw7 : Ext [] w1 W7 := (hE2.trans hEb).trans' hE7 (by simp) (fun y hy => .inr (HO2.out.2.2.2 y hy))
          have hn7 : ∀ y ∈ blkL v7, w1.heap.size ≤ y := fun y hy => by
            rcases hnear7 y hy with h | h
            · exact HO2.out.2.2.2 y h
            · have := hE2.size; simp at h; omega
          have hs7 := (HDP.out.ext0 hEb).ext hE7 htags
          obtain ⟨zn, hznl, hzn1, hzn2, hzn3⟩ : ∃ zn : List ((Option Addr × Nat × Nat) × List UInt8), zn.length = c + 1 ∧ ES.Ow 40 W7 v7 (zn.map (·.1)) ∧ CellsOk W7 B zn ∧ zn.map (·.2) = secsOf P' (c + 1) := by
            refine ⟨ys ++ [((some ⟨gx, ox, none⟩, 128, 128), (P'.drop (128 * c)).take 128)], by simp [hyl], by simpa using how7, ((HO2.out.2.1.ext hEb (by simp)).ext hE7 htags).append (fun z hz => ?_), by rw [List.map_append, HO2.out.2.2.1, secsOf_succ]; rfl⟩
            simp at hz
            subst hz
            exact ⟨rfl, HZL.out, (HTK.out.ext0 hEb).ext hE7 htags⟩
          have HO7 := Lib.hid (And.intro hzn1 (And.intro hzn2 (And.intro hzn3 hn7)))
          have HS7 := Lib.hid hs7
          clear how7 hE7 hnear7 hEb htags hn7 hs7 hE2 hzn1 hzn2 hzn3
          go_wp2_with fail
          go_roundw
          case rel => exact ⟨c + 1, (some ⟨gx, ox + 128, none⟩, n6 - 128, cx - 128), zn, by omega, by go_num, rfl, hznl, hw7, HS7, HO7⟩
          case measure => simp [intOf]; omega
        · obtain rfl : c = M := by omega
          have z2 : ¬ ((c : Int) < (c : Int)) := by omega
          obtain ⟨pd, cd, e7, _⟩ := HO2.out.1.rd.len_eq
          subst e7
          rw [List.length_map, hyl] at HO2 ⊢
          go_wp2_with fail
          refine (pmake_c 128 _ (ys.map (·.1)) _ HO2.out.1.rd (by omega) (by omega) (fun h => by have := congrArg List.length h; simp [hyl] at this; omega) (by rw [List.length_map, hyl]; omega) (fun x hx => ?_)).mono ?_
          · obtain ⟨z, hz, rfl⟩ := List.mem_map.1 hx
            obtain ⟨h1, h2, h3⟩ := HO2.out.2.1 z hz
            refine ⟨h1, z.2, h2, ?_⟩
            have h4 := h3.1
            rw [h1] at h4
            exact h4
          rintro e W5 ⟨gt, gs, rfl, hgl, hgt, hgs, lgt, hE5⟩
          have hE15 := hE2.trans hE5
          have lwr := hE2.size
          have hB5 : B ≤ wr.heap.size := by have := hE1.size; omega
          obtain ⟨p1, p2', p3', zp, hzp1, hzp2, hzp3⟩ := par_cells (B := B) hgl (fun g hg => ⟨(hgs g hg).1, by have := (hgs g hg).2; omega⟩)
          have hrdp : ES.Rd W5 (.slice (some ⟨gt, 0, none⟩) 3 3) (zp.map (·.1)) := by
            rw [hzp1]
            exact .inr ⟨gt, 0, 3, by simp [hgl], by simp [hgl], lt_of_blk hgt, fun j u hj => by rw [cell_of_row _ gt _ _ _ _ hgt]; simp at hj ⊢; exact hj⟩
          have hzpl : zp.length = 3 := by have := congrArg List.length hzp2; simpa using this
          obtain ⟨po, co, e8, _⟩ := HO1.out.1.rd.len_eq
          subst e8
          obtain ⟨nz, hnz⟩ : ∃ n, n = (zs.map (·.1)).length := ⟨_, rfl⟩
          rw [← hnz] at HO1 ⊢
          have hnz2 : zs.length = nz := by rw [hnz]; simp
          have HO5 := Lib.hid (HO1.out.1.ext0 hE15)
          have HRD5 := Lib.hid hrdp
          have HE15 := Lib.hid hE15
          have HE5 := Lib.hid hE5
          have HZP := Lib.hid (And.intro hzp2 hzp3)
          clear hgt hgs hzp1 hzp2 hzp3 hrdp hE15 hE5 hnz hgl
          go_wp2_with (with_reducible refine hold_at (d := 47) ?_)
          refine wpl_of rfl fun K hK => opw_append (E := ES) (T := 40) (zero := (none, 0, 0)) (bytes := 24) (v := .slice po nz co) (u := .slice (some ⟨gt, 0, none⟩) 3 3) (xs := zs.map Prod.fst) (ys := zp.map Prod.fst) tiS Tryz.underlying119 Tryz.underlying119 rfl rfl rfl HO5.out HRD5.out (by simp [hzpl]; omega) (by simp [hzpl]; omega) ?_
          intro v6 W6 how6 hE6 hnear6 _
          refine hK _ _ ?_
          clear hK
          have ht6 : ∀ y ∈ blkL (.slice po nz co), tagOf W5 y ≠ some 5 := fun y hy => by
            obtain ⟨z, hz⟩ := HO5.out.tag y hy
            rw [tagOf_of hz]
            decide
          have hcz6 := (((HO1.out.2.1.ext HE15.out (by simp)).append HZP.out.2).ext hE6 ht6)
          have hcy6 := ((HO2.out.2.1.ext HE5.out (by simp)).ext hE6 ht6)
          have hs6 := (HS2.out.ext0 HE5.out).ext hE6 ht6
          have hd6 : ES.Rd W6 (.slice pd c cd) (ys.map (·.1)) := (HO2.out.1.rd.ext0 HE5.out).ext hE6 (fun y hy hy2 => by
            have h1 := HO2.out.2.2.2 y hy
            have h2 := HO1.out.1.lt y hy2
            omega)
          have hE16 : Ext [] W3 W6 := (hE1.trans HE15.out).trans' hE6 (by simp) (fun y hy => .inr (HO1.out.2.2 y hy))
          have hn6 : ∀ y ∈ blkL v6, W3.heap.size ≤ y := fun y hy => by
            rcases hnear6 y hy with h | h
            · exact HO1.out.2.2 y h
            · have h1 := hE1.size
              have h2 := HE15.out.size
              omega
          obtain ⟨p6, c6, rfl, _⟩ := how6.rd.len_eq
          obtain ⟨n6, hn6'⟩ : ∃ n, n = (zs.map Prod.fst ++ zp.map Prod.fst).length := ⟨_, rfl⟩
          rw [← hn6'] at how6 hn6 ⊢
          have HO6 := Lib.hid how6
          have HD6 := Lib.hid hd6
          have HN6 := Lib.hid hn6
          have HC6 := Lib.hid (And.intro hcz6 (And.intro hcy6 hs6))
          have HE16 := Lib.hid hE16
          clear how6 hE6 hnear6 ht6 hcz6 hcy6 hs6 hd6 hE16 hn6 hn6'
          go_wp2_with (with_reducible refine hold_at (d := 49) ?_)
          refine wpl_of rfl fun K hK => opw_append (E := ES) (T := 40) (zero := (none, 0, 0)) (bytes := 24) (v := .slice p6 n6 c6) (u := .slice pd c cd) (xs := zs.map Prod.fst ++ zp.map Prod.fst) (ys := ys.map Prod.fst) tiS Tryz.underlying119 Tryz.underlying119 rfl rfl rfl HO6.out HD6.out (by simp [hzpl, hyl]; omega) (by simp [hzpl, hyl]; omega) ?_
          intro v8 W8 how8 hE8 hnear8 _
          refine hK _ _ ?_
          clear hK
          have ht8 : ∀ y ∈ blkL (.slice p6 n6 c6), tagOf W6 y ≠ some 5 := fun y hy => by
            obtain ⟨z, hz⟩ := HO6.out.tag y hy
            rw [tagOf_of hz]
            decide
          have hE18 : Ext [] W3 W8 := HE16.out.trans' hE8 (by simp) (fun y hy => .inr (HN6.out y hy))
          have hn8 : ∀ y ∈ blkL v8, W3.heap.size ≤ y := fun y hy => by
            rcases hnear8 y hy with h | h
            · exact HN6.out y h
            · have h1 := HE16.out.size
              omega
          obtain ⟨zn, hznl, hzn1, hzn2, hzn3⟩ : ∃ zn : List ((Option Addr × Nat × Nat) × List UInt8), zn.length = nz + 3 + c ∧ ES.Ow 40 W8 v8 (zn.map (·.1)) ∧ CellsOk W8 B zn ∧ zn.map (·.2) = zs.map (·.2) ++ p1 :: p2' :: p3' :: secsOf P' c := by
            refine ⟨zs ++ zp ++ ys, by simp [hzpl, hyl]; omega, ?_, (HC6.out.1.append HC6.out.2.1).ext hE8 ht8, ?_⟩
            · rw [List.map_append, List.map_append]; exact how8
            · rw [List.map_append, List.map_append, HZP.out.1, HO2.out.2.2.1]; simp
          have HL8 : Hid (∀ rest, LayOf k (P'.drop (128 * c)) (l - c) rest → LayOf k P l0 (zn.map (·.2) ++ rest)) := Lib.hid (fun rest h => by
            have h1 := HL.out _ (HLAY.out p1 p2' p3' rest h)
            rw [hzn3, List.append_assoc]
            exact h1)
          have HO8 := Lib.hid (And.intro hzn1 (And.intro hzn2 hn8))
          have HS8 := Lib.hid (HC6.out.2.2.ext hE8 ht8)
          have hdl : (P'.drop (128 * c)).length = P'.length - 128 * c := List.length_drop
          clear how8 hE8 hnear8 ht8 hn8 hzn1 hzn2 hzn3 HO2 HO1 HS2
          go_wp2_with fail
          go_roundw
          case rel => exact ⟨q + 1, l - c, _, P'.drop (128 * c), xi, zn, by omega, by go_num, rfl, by omega, by omega, by omega, by omega, hE18, HREST, HS8, HO8, HL8⟩
          case measure => simp [intOf]; omega
    · have z1 : ¬ ((q : Int) < (nr : Int)) := by omega
      have hl1 : l = 0 := by
        have h := HDR.out
        rw [List.drop_eq_nil_of_le (by have := HNR.out; omega)] at h
        by_cases h0 : l = 0
        · exact h0
        · rw [rowsF_pos k a' l h0] at h; cases h
      have hlay := HL.out [] (by rw [hl1]; exact .nil _)
      rw [List.append_nil] at hlay
      have HLY := Lib.hid hlay
      clear hl1 hlay
      go_wp2
      go_ret2
      refine ⟨_, rfl, zs, HO.out.1, ?_, ?_, hE03.trans hE⟩
      · rw [← HBB.out]; exact HO.out.2.1
      · rw [← HP.out, ← HL0.out]; exact HLY.out

end Go.Proofs.YtgfajlaibgbdoaaGreat

namespace Go.Proofs.YtgfajlaibgbdoaaGreat
open Go.RowKit

theorem Sec.extT {w w' : World} {B : Nat} {x : Option Addr × Nat × Nat} {b : List UInt8} {bs : List Nat} {Ts : List TypeId} (h : Sec w B x b) (he : ExtT bs Ts w w') (hb : ∀ y ∈ bs, tagOf w y ≠ some 5) (hT : 5 ∉ Ts) : Sec w' B x b := by
  obtain ⟨S, hS, hs⟩ := he
  refine h.ext hS (fun y hy => ?_)
  rcases hs y hy with h1 | ⟨T, h1, h2, _⟩
  · exact hb y h1
  · rw [h2]; rintro h3; cases h3; exact hT h1
theorem CellsOk.extT {w w' : World} {B : Nat} {zs : List ((Option Addr × Nat × Nat) × List UInt8)} {bs : List Nat} {Ts : List TypeId} (h : CellsOk w B zs) (he : ExtT bs Ts w w') (hb : ∀ y ∈ bs, tagOf w y ≠ some 5) (hT : 5 ∉ Ts) : CellsOk w' B zs := fun z hz => ⟨(h z hz).1, (h z hz).2.1, (h z hz).2.2.extT he hb hT⟩

/-- the writes of cells one behind the other. -/
def wsOf (D F addr : Nat) (zs : List (List UInt8)) : List (Nat × Nat × List UInt8) := zs.zipIdx.map (fun z => ((addr + z.2) % D, F + (addr + z.2) / D, z.1))
theorem wsOf_len (D F addr : Nat) (zs : List (List UInt8)) : (wsOf D F addr zs).length = zs.length := by simp [wsOf]
theorem wsOf_take (D F addr : Nat) (zs : List (List UInt8)) (q : Nat) (h : q < zs.length) : wsOf D F addr (zs.take (q + 1)) = wsOf D F addr (zs.take q) ++ [((addr + q) % D, F + (addr + q) / D, zs[q])] := by
  rw [List.take_succ_eq_append_getElem h, wsOf, List.zipIdx_append, List.map_append, wsOf]
  simp [Nat.min_eq_left (Nat.le_of_lt h)]

theorem RackR.row {w : World} {b gg D S : Nat} {ws : List (Nat × Nat × List UInt8)} (h : RackR w b gg D S ws) : ∃ c, w.heap[b]? = some (.cells c 66 (0, 0)) := by
  obtain ⟨mv, pw, nw, cw, left, rs, h1, _⟩ := h
  exact ⟨_, h1⟩

set_option maxRecDepth 100000 in
set_option maxHeartbeats 1600000 in
theorem arwrite_c (a r gg k S F addr : Nat) (ws : List (Nat × Nat × List UInt8)) (v : Value) (bs : List UInt8) (w : World) (hr : RackR w r gg (k + 4) S ws) (ha : ArrR w a r (k + 4) F) (hk1 : 1 ≤ k) (hk : k ≤ 8) (hS : S ≤ 2000) (hF : F ≤ S) (hv : EB.Rd w v bs) (h1 : 1 ≤ bs.length) (h2 : bs.length ≤ 1024) (had : addr + costF k bs.length ≤ (k + 4) * (S - F)) (hwl : ws.length ≤ 900000) :
    Calls Tryz.prog 26 #[.pointer (some ⟨a, 0, none⟩), .int .i64 addr, v] w fun e w' => e = .returned (.int .i64 0) ∧ ∃ zs, LayOf k (padB bs) ((bs.length + 127) / 128) zs ∧ (∀ z ∈ zs, z.length = 128) ∧ RackR w' r gg (k + 4) S (ws ++ wsOf (k + 4) F addr zs) ∧ ExtT [r] [218] w w' := by
  have HR := Lib.hid hr
  have HA := Lib.hid ha
  have HAD := Lib.hid had
  obtain ⟨p, c, rfl, _⟩ := hv.len_eq
  have HV := Lib.hid hv
  have hm : (k + 4) * (S - F) ≤ 12 * 2000 := Nat.mul_le_mul (by omega) (by omega)
  have hra : a ≠ r := by
    obtain ⟨x, hx⟩ := hr.row
    rintro rfl
    rw [ArrR, hx] at ha
    simp only [Option.some.injEq, Obj.cells.injEq] at ha
    exact absurd ha.2.1 (by decide)
  have HM := Lib.hid hm
  clear hr ha hv hm had
  go_enter Tryz.func26, Tryz.ntmps26
  go_wp2_with fail
  refine (ardrives_c a r gg k S F addr bs.length ws _ HR.out HA.out hk1 hk hS hF h1 h2 HAD.out).mono ?_
  rintro e W1 ⟨v1, l1, rfl, hrd1, hl1, hd1, hn1, hE1⟩
  have HR1 := Lib.hid (HR.out.ext0 hE1)
  have HA1 := Lib.hid (HA.out.ext0 hE1)
  have HRD1 := Lib.hid hrd1
  have HD1 := Lib.hid hd1
  clear hrd1 hd1 hn1
  go_wp2_with fail
  refine (argone_c a r gg (k + 4) S F ws v1 l1 _ HR1.out HA1.out HRD1.out (by omega) HD1.out).mono ?_
  rintro e W2 ⟨rfl, rfl⟩
  go_wp2_with fail
  refine (arlayout_c a r k F _ bs _ HA1.out (by omega) (HV.out.ext0 hE1) h1 h2).mono ?_
  rintro e W3 ⟨v3, zs, rfl, how3, hc3, hlay, hE3⟩
  have hE03 := hE1.trans hE3
  have HR3 := Lib.hid (HR1.out.ext0 hE3)
  have HA3 := Lib.hid (HA1.out.ext0 hE3)
  have hzl : zs.length ≤ 32 ∧ addr + zs.length ≤ (k + 4) * (S - F) := by
    have h3 := hlay.len 0
    rw [← costF_eq] at h3
    have h4 := costF_bd k bs.length h1 h2
    have h5 := HAD.out
    simp at h3
    omega
  obtain ⟨p3, c3, rfl, _⟩ := how3.rd.len_eq
  obtain ⟨n, hn⟩ : ∃ n, n = zs.length := ⟨_, rfl⟩
  rw [List.length_map] at how3 ⊢
  rw [← hn] at how3 hzl ⊢
  have HN := Lib.hid hn
  have HO3 := Lib.hid how3
  have HC3 := Lib.hid hc3
  have HLY := Lib.hid hlay
  have hrow3 : ∃ c, W3.heap[r]? = some (.cells c 66 (0, 0)) := HR3.out.row
  obtain ⟨cr, hcr⟩ := hrow3
  have HCR := Lib.hid hcr
  obtain ⟨zb, hzb⟩ : ∃ zb, zb = zs.map Prod.snd := ⟨_, rfl⟩
  have HZB := Lib.hid hzb
  clear hn how3 hc3 hlay hcr hzb hE1 hE3 hl1
  go_wp2_with fail
  go_loopw [12, 13, 14, 46] (fun _ _ _ iv wr => ∃ q : Nat, q ≤ n ∧ iv = .int .i64 q ∧ ExtT [r] [218] W3 wr ∧ Hid (RackR wr r gg (k + 4) S (ws ++ wsOf (k + 4) F addr (zb.take q)))) (fun _ _ _ iv _ => n - (intOf iv).toNat)
  case atStart => exact ⟨0, by omega, rfl, ExtT.refl _ _ _, by simpa [wsOf] using HR3⟩
  case round =>
    obtain ⟨q, hq, rfl, hE, HRQ⟩ := hrel
    by_cases hlt : q < n
    · have z1 : (q : Int) < (n : Int) := by omega
      have ho : ES.Ow 40 wr (.slice p3 n c3) (zs.map (·.1)) := HO3.out.extT hE (fun y hy => by simpa using HO3.out.ne HCR.out (by decide) y hy) (by decide)
      have hcs := HC3.out.extT hE (fun y hy => by simp at hy; subst hy; rw [tagOf_of HCR.out]; decide) (by decide)
      have haq : ArrR wr a r (k + 4) F := HA3.out.extT hE (by simpa using hra) (by decide)
      obtain ⟨g3, o3, rfl⟩ : ∃ g o, p3 = some ⟨g, o, none⟩ := by
        rcases ho.rd with ⟨_, h⟩ | ⟨g, o, c, h, _⟩
        · have h3 := congrArg List.length h; simp at h3; have := HN.out; rw [h3] at this; simp at this; omega
        · simp only [Value.slice.injEq] at h; exact ⟨g, o, h.1⟩
      obtain ⟨z, hz⟩ : ∃ z, zs[q]? = some z := ⟨zs[q]'(by rw [← HN.out]; exact hlt), List.getElem?_eq_getElem _⟩
      have hcell := ES_cell ho.rd q z.1 (by simp [hz])
      obtain ⟨y1, y2, y3⟩ := hcs z (List.mem_of_getElem? hz)
      have y4 := y3.1
      obtain ⟨⟨px, nx, cx⟩, zbs⟩ := z
      simp only at y1 y2 y4 hcell
      subst y1
      have w1 : IntKind.i64.wrap ((addr : Int) + (q : Int)) = ((addr + q : Nat) : Int) := by rw [IntWalk.i64_in _ (by have := HM.out; omega)]; omega
      have hlen : (ws ++ wsOf (k + 4) F addr (zb.take q)).length ≤ 1000000 := by
        rw [List.length_append, wsOf_len, List.length_take]; omega
      have hput := arput_c a r gg (k + 4) S F (addr + q) _ _ zbs wr HRQ.out haq (by omega) hF hS (by have := hzl.2; omega) (by have := HM.out; have := hzl.2; omega) y4 y2 hlen
      have hzb : zb[q]? = some zbs := by rw [HZB.out, List.getElem?_map, hz]; rfl
      have hws := wsOf_take (k + 4) F addr zb q (List.getElem?_eq_some_iff.1 hzb).1
      rw [(List.getElem?_eq_some_iff.1 hzb).2] at hws
      obtain ⟨m, hm⟩ : ∃ m, m = addr + q := ⟨_, rfl⟩
      rw [← hm] at w1 hput hws
      have HPUT := Lib.hid hput
      have HWS := Lib.hid hws
      clear ho hcs haq hz y3 y4 hlen hput hzb hws y2 hm
      go_wp2_with fail
      refine HPUT.out.mono ?_
      rintro e W5 ⟨rfl, hr5, hE5⟩
      have HR5 := Lib.hid hr5
      clear hr5
      have hE' := hE.trans hE5
      clear hE5 w1
      go_wp2_with fail
      go_roundw
      case rel => exact ⟨q + 1, by omega, by go_num, hE', by rw [HWS.out, ← List.append_assoc]; exact HR5⟩
      case measure => simp [intOf]; omega
    · obtain rfl : q = n := by omega
      have z1 : ¬ ((q : Int) < (q : Int)) := by omega
      go_wp2
      go_ret
      refine ⟨rfl, zb, ?_, ?_, ?_, (ExtT.of0 hE03).trans hE⟩
      · rw [HZB.out]; exact HLY.out
      · intro z hz
        rw [HZB.out] at hz
        obtain ⟨x, hx, rfl⟩ := List.mem_map.1 hz
        exact (HC3.out x hx).2.1
      · have h := HRQ.out
        rw [List.take_of_length_le (by rw [HZB.out, List.length_map, ← HN.out]; exact Nat.le_refl _)] at h
        exact h

end Go.Proofs.YtgfajlaibgbdoaaGreat

