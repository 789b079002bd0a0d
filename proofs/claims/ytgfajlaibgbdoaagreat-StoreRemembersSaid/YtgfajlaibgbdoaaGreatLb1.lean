
import Derived.Test.YtgfajlaibgbdoaaGreatLf5
namespace Go.Proofs.YtgfajlaibgbdoaaGreat
open Go.RowKit

theorem modw9 (a m : Int) (hm : 0 < m) : 0 ≤ (IntKind.u64.wrap a).tmod m ∧ (IntKind.u64.wrap a).tmod m < m := by
  have h0 : 0 ≤ IntKind.u64.wrap a := by
    rw [IntKind.wrap_u64]; omega
  rw [Int.tmod_eq_emod_of_nonneg h0]
  exact ⟨Int.emod_nonneg _ (by omega), Int.emod_lt_of_pos _ hm⟩

theorem cost_one : costF 1 1 = 4 := by
  rw [costF, show (1 + 127) / 128 = 1 by omega, rowsF_pos 1 0 1 (by omega), show 1 - min 1 (1 + 1) = 0 by omega, rowsF_zero]
  rfl

theorem field_puts (a b c d e : Int) (W : World) : (Instr.field 42 (.agg #[.int .i64 a, .int .i64 b, .int .i64 c, .int .i64 d, .int .i64 e]) 4).run Tryz.prog W = .ok (.int .i64 e) W := by kernel_rfl

/-- a store on whose front so many blocks of four cells lie. -/
structure FrontR (v : Sv) (T : Int) (q : Nat) (C : Int) : Prop where
  txg : v.st.txg = T
  free : v.spc.free = [(4 * (q : Int), C)]
  back : v.spc.back = 0
  puts : v.st.puts = q
  ws : v.ws.length ≤ 32 * q

theorem byte1 (w : World) (a : UInt8) : EB.Rd (w.alloc (.cells #[.int .u8 a.toNat] 5)) (.slice (some ⟨w.heap.size, 0, none⟩) 1 1) [a] ∧ ∀ g ∈ blkL (.slice (some ⟨w.heap.size, 0, none⟩) 1 1), tagOf (w.alloc (.cells #[.int .u8 a.toNat] 5)) g = some 5 := by
  refine ⟨.inr ⟨w.heap.size, 0, 1, rfl, by simp, by simp, fun j u hj => ?_⟩, fun g hg => ?_⟩
  · rw [cell_of_row _ _ _ _ _ _ (heap_alloc_new w _)]
    match j, hj with
    | 0, hj => exact hj
    | j + 1, hj => simp [EB, Enc.flat] at hj
  · simp [blkL] at hg
    subst hg
    exact tagOf_of (heap_alloc_new w _)

set_option maxRecDepth 100000 in
set_option maxHeartbeats 1600000 in
theorem births_c (v0 : Value) (xs : List Int) (w : World) (hv : AR EI w v0 xs) : Calls Tryz.prog 4 #[v0] w fun e w' => e = .returned (.bool true) ∧ Ext [] w w' := by
  obtain ⟨p, cap, rfl, hrd⟩ := hv
  have HV := Lib.hid hrd
  obtain ⟨n, hn⟩ : ∃ n, n = xs.length := ⟨_, rfl⟩
  have HN := Lib.hid hn
  rw [← hn] at HV ⊢
  clear hrd hn
  go_enter Tryz.func4, Tryz.ntmps4
  go_wp2_with fail
  refine (known_c _).mono ?_
  rintro e W0 ⟨rfl, hE0⟩
  go_wp2_with fail
  refine (fresh_c 1 60 _ (by omega) (by omega) (by omega) (by omega) 5 rfl).mono ?_
  rintro e W1 ⟨x, y, v, rfl, hroom, hyk, hyS, hyF, hws, hnew, hlow, hE1⟩
  have hcl : v.spc.cells = 295 := by
    obtain ⟨rb, _, hs⟩ := hroom
    rw [hs.cells, hyk, hyS, hyF]; rfl
  have hfr : FrontR v 1 0 295 := ⟨by rw [hnew.st]; rfl, by rw [hnew.free, hcl]; rfl, hnew.back, by rw [hnew.st]; rfl, by rw [hws]; simp⟩
  have HR := Lib.hid hroom
  have HYK := Lib.hid hyk
  have HFR := Lib.hid hfr
  have HLOW := Lib.hid (fun b hb => Nat.le_trans hE0.size (hlow b hb) : ∀ b ∈ [y.b, y.r, y.sp], w.heap.size ≤ b)
  have HE1 := Lib.hid (hE0.trans hE1)
  clear hroom hnew hyk hyS hyF hws hE1 hlow hE0 hcl hfr
  go_wp2_with fail
  go_loopw [6, 7, 8, 9, 10, 11] (fun tv iv _ _ _ _ wr => ∃ (q : Nat) (T : Int) (v' : Sv), q ≤ n ∧ q ≤ 30 ∧ iv = .int .i64 q ∧ tv = .int .i64 T ∧ 1 ≤ T ∧ T ≤ 1 + 4 * q ∧ Hid (Ext [] w wr) ∧ Hid (RoomR wr x y v' ∧ FrontR v' T q 295)) (fun _ iv _ _ _ _ _ => 30 - (intOf iv).toNat)
  case atStart => exact ⟨0, 1, v, by omega, by omega, rfl, rfl, by omega, by omega, HE1, Lib.hid ⟨HR.out, HFR.out⟩⟩
  case round =>
    obtain ⟨q, T, v', hq, hq30, rfl, rfl, hT1, hT2, HE, HRF⟩ := hrel
    by_cases hlt : q < n
    · by_cases h30 : q < 30
      · have z1 : (q : Int) < (n : Int) := by omega
        have z2 : (q : Int) < 30 := by omega
        have hr := HV.out (by intro h; have := HN.out; rw [h] at this; simp at this; omega)
        obtain ⟨g, o, rfl⟩ : ∃ g o, p = some ⟨g, o, none⟩ := by
          rcases hr with ⟨_, h⟩ | ⟨g, o, c, h, _⟩
          · have := HN.out; rw [h] at this; simp at this; omega
          · simp only [Value.slice.injEq] at h; exact ⟨g, o, h.1⟩
        have hcell := EI_cell (hr.ext0 HE.out) q (by rw [← HN.out]; exact hlt)
        obtain ⟨a, ha⟩ : ∃ a, a = xs.getD q 0 := ⟨_, rfl⟩
        rw [← ha] at hcell
        obtain ⟨m1, m2⟩ := modw9 a 5 (by omega)
        clear hr ha
        have x1 := HRF.out.1.cell
        go_wp2_with fail
        obtain ⟨N, hN⟩ : ∃ N, N = T + (IntKind.u64.wrap a).tmod 5 - 1 := ⟨_, rfl⟩
        have hN1 : T - 1 ≤ N ∧ N ≤ T + 3 := by omega
        simp only [← hN]
        clear hN x1 hcell
        obtain ⟨rb, hxb, hsy⟩ := HRF.out.1
        refine (stbegin_c y v' N _ hsy).mono ?_
        rintro e W2 hpost
        obtain ⟨err, v1, T', rfl, hroom1, hfr1, hF1, hcase⟩ : ∃ err v1 T', e = .returned (.int .i64 err) ∧ RoomR W2 x y v1 ∧ FrontR v1 T' q 295 ∧ SyF y wr W2 ∧ ((err = 1 ∧ N < T ∧ T' = T) ∨ (err = 0 ∧ T ≤ N ∧ T' = N)) := by
          have hf := HRF.out.2
          rcases hpost with ⟨h1, rfl, h2, h3⟩ | ⟨h1, rfl, h2, h3⟩
          · rw [hf.txg] at h1
            exact ⟨1, v', T, rfl, HRF.out.1.step h2 h3, hf, h3, .inl ⟨rfl, h1, rfl⟩⟩
          · rw [hf.txg] at h1
            exact ⟨0, _, N, rfl, HRF.out.1.step h2 h3, ⟨rfl, hf.free, hf.back, hf.puts, hf.ws⟩, h3, .inr ⟨rfl, h1, rfl⟩⟩
        have HR1 := Lib.hid hroom1
        have HF1 := Lib.hid hfr1
        have HE2 := Lib.hid (hF1.above HE.out HLOW.out)
        have x1 := hroom1.cell
        have hmax : max T N = T' := by omega
        have hT' : 1 ≤ T' ∧ T' ≤ 1 + 4 * (q + 1) := by omega
        clear hpost hroom1 hfr1 hF1 hxb hsy HRF HE
        rcases hcase with ⟨rfl, hNT, hTT⟩ | ⟨rfl, hNT, hTT⟩
        all_goals
          have z3 : decide (T ≤ N) = decide (T ≤ N) := rfl
          clear z3 hTT
          go_wp2_with fail
          have hEb : Ext [] W2 (W2.alloc (.cells #[.int .u8 1] 5)) := (Ext.refl [] W2).alloc _
          have hby : EB.Rd (W2.alloc (.cells #[.int .u8 1] 5)) (.slice (some ⟨W2.heap.size, 0, none⟩) 1 1) [1] ∧ ∀ g ∈ blkL (.slice (some ⟨W2.heap.size, 0, none⟩) 1 1), tagOf (W2.alloc (.cells #[.int .u8 1] 5)) g = some 5 := byte1 W2 1
          obtain ⟨rb, hxb, hsy⟩ := HR1.out.ext0 hEb
          have hf := HF1.out
          refine (stput_c y v1 _ [1] _ hsy hby.1 hby.2 (by simp) (by simp) (by rw [hf.puts]; omega) (by rw [hf.puts]; omega) (by have := hf.ws; omega)).mono ?_
          rintro e W3 hpost
          have hc4 : costF y.k ([1] : List UInt8).length = 4 := by rw [HYK.out]; exact cost_one
          rcases hpost with ⟨rfl, _, _, hno⟩ | ⟨A, v3, rfl, hs3, hF3, hput⟩
          · exfalso
            rw [hf.free, hf.back, hc4] at hno
            rcases hno with h | h
            · simp [cntL] at h; omega
            · simp [fitsB] at h; omega
          · have htk := hput.take
            rw [hc4] at htk
            obtain ⟨hA, -, htk⟩ := htk.front (q := 4 * (q : Int)) hf.free hf.back (by omega) (by omega)
            rw [hA] at htk
            have hfree := htk.rest hs3.spi hf.free (by omega) (by omega) (by omega) (by omega)
            have hfr3 : FrontR v3 T' (q + 1) 295 := by
              refine ⟨by rw [hput.st]; exact hf.txg, by rw [hfree]; congr 2, by rw [htk.back]; exact hf.back, by rw [hput.st]; show v1.st.puts + 1 = _; rw [hf.puts]; omega, ?_⟩
              obtain ⟨zs, hlay, hws⟩ := hput.ws
              have hzl := hlay.len 0
              rw [← costF_eq, hc4] at hzl
              rw [hws, List.length_append, wsOf_len]
              have := hf.ws
              omega
            have hroom3 := (HR1.out.ext0 hEb).step hs3 hF3
            have HR3 := Lib.hid hroom3
            have HF3 := Lib.hid hfr3
            have HE3 := Lib.hid (hF3.above (HE2.out.trans hEb) HLOW.out)
            rw [hf.txg, pagg]
            simp only [List.length_singleton]
            obtain ⟨SH, hSH⟩ : ∃ S, S = shaF [1] := ⟨_, rfl⟩
            rw [← hSH]
            clear hEb hby hxb hsy hf hc4 hput hA htk hfree hfr3 hroom3 hs3 hF3 hSH x1
            have hEp : Ext [] W3 (W3.alloc (.cells #[.int .i64 A, .int .i64 1, .int .i64 T', .string ⟨SH.toArray⟩] 37)) := (Ext.refl [] W3).alloc _
            have x1 := (HR3.out.ext0 hEp).cell
            go_wp2_with fail
            obtain ⟨rb, hxb, hsy⟩ := HR3.out.ext0 hEp
            refine (sttxg_c y v3 _ hsy).mono ?_
            rintro e W4 ⟨rfl, rfl⟩
            rw [HF3.out.txg]
            have HR4 := Lib.hid (HR3.out.ext0 hEp)
            have HE4 := Lib.hid (HE3.out.trans hEp)
            clear hxb hsy hEp x1
            go_wp2_with fail
            go_roundw
            case rel => exact ⟨q + 1, T', v3, by omega, by omega, by go_num, by first | rfl | trivial, by omega, by omega, HE4, Lib.hid ⟨HR4.out, HF3.out⟩⟩
            case measure => simp [intOf]; omega
      · obtain rfl : q = 30 := by omega
        have z1 : ((30 : Nat) : Int) < (n : Int) := by omega
        have z3 : min (n : Int) 30 = 30 := by omega
        have x1 := HRF.out.1.cell
        go_wp2_with fail
        obtain ⟨rb, hxb, hsy⟩ := HRF.out.1
        refine (stcounts_c y v' _ hsy).mono ?_
        rintro e W4 ⟨rfl, hE4⟩
        rw [HRF.out.2.puts]
        have hfp := field_puts v'.st.gets v'.st.hits v'.st.reads v'.st.heals 30
        have HE4 := Lib.hid (HE.out.trans hE4)
        clear hxb hsy hE4 x1
        go_wp2_with fail
        go_ret
        exact ⟨rfl, HE4.out⟩
    · obtain rfl : q = n := by omega
      have z1 : ¬ ((q : Int) < (q : Int)) := by omega
      have z3 : min (q : Int) 30 = q := by omega
      have x1 := HRF.out.1.cell
      go_wp2_with fail
      obtain ⟨rb, hxb, hsy⟩ := HRF.out.1
      refine (stcounts_c y v' _ hsy).mono ?_
      rintro e W4 ⟨rfl, hE4⟩
      rw [HRF.out.2.puts]
      have hfp := field_puts v'.st.gets v'.st.hits v'.st.reads v'.st.heals (q : Int)
      have HE4 := Lib.hid (HE.out.trans hE4)
      clear hxb hsy hE4 x1
      go_wp2_with fail
      go_ret
      exact ⟨rfl, HE4.out⟩

end Go.Proofs.YtgfajlaibgbdoaaGreat
