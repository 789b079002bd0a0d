
import Derived.Test.YtgfajlaibgbdoaaGreatLmA
namespace Go.Proofs.YtgfajlaibgbdoaaGreat
open Go.RowKit

theorem byte2 (w : World) (a b : UInt8) : EB.Rd (w.alloc (.cells #[.int .u8 a.toNat, .int .u8 b.toNat] 5)) (.slice (some ⟨w.heap.size, 0, none⟩) 2 2) [a, b] ∧ ∀ g ∈ blkL (.slice (some ⟨w.heap.size, 0, none⟩) 2 2), tagOf (w.alloc (.cells #[.int .u8 a.toNat, .int .u8 b.toNat] 5)) g = some 5 := by
  refine ⟨.inr ⟨w.heap.size, 0, 2, rfl, by simp, by simp, fun j u hj => ?_⟩, fun g hg => ?_⟩
  · rw [cell_of_row _ _ _ _ _ _ (heap_alloc_new w _)]
    match j, hj with
    | 0, hj => exact hj
    | 1, hj => exact hj
    | j + 2, hj => simp [EB, Enc.flat] at hj
  · simp [blkL] at hg
    subst hg
    exact tagOf_of (heap_alloc_new w _)
theorem byte2q (w : World) (q : Nat) (h : q < 256) : EB.Rd (w.alloc (.cells #[.int .u8 (q : Int), .int .u8 1] 5)) (.slice (some ⟨w.heap.size, 0, none⟩) 2 2) (bI q) ∧ ∀ g ∈ blkL (.slice (some ⟨w.heap.size, 0, none⟩) 2 2), tagOf (w.alloc (.cells #[.int .u8 (q : Int), .int .u8 1] 5)) g = some 5 := by
  have e : (q : Int) = ((UInt8.ofNat q).toNat : Int) := by
    rw [UInt8.toNat_ofNat']
    omega
  rw [e]
  exact byte2 w (UInt8.ofNat q) 1
theorem nodup_inj {tr : List Nat} (h : tr.Nodup) {i j : Nat} (hi : i < tr.length) (hj : j < tr.length) (he : tr[i] = tr[j]) : i = j := by
  have hp := List.pairwise_iff_getElem.1 h
  rcases Nat.lt_trichotomy i j with h1 | h1 | h1
  · exact absurd he (hp i j hi hj h1)
  · exact h1
  · exact absurd he.symm (hp j i hj hi h1)
theorem one_owI3 (W0 : World) (x : Int) : EI.Ow 3 (W0.alloc (.cells #[.int .i64 x] 3)) (.slice (some ⟨W0.heap.size, 0, none⟩) 1 1) [x] := .inr ⟨W0.heap.size, 0, 1, [x], rfl, heap_alloc_new _ _, by simp, by simp, rfl⟩

def PS (q : Nat) : List Ptr4 := (List.range q).map ptrN
def YI (yg : List Nat) : List Int := yg.map (fun i : Nat => (i : Int))
theorem PS_succ (q : Nat) : PS (q + 1) = PS q ++ [ptrN q] := by simp [PS, List.range_succ]
theorem PS_len (q : Nat) : (PS q).length = q := by simp [PS]
theorem YI_len (yg : List Nat) : (YI yg).length = yg.length := by simp [YI]
theorem YI_cut (yg : List Nat) (a : Nat) : (YI yg).take a ++ (YI yg).drop (a + 1) = YI (yg.take a ++ yg.drop (a + 1)) := by simp [YI, List.map_take, List.map_drop]
theorem YI_add (yg : List Nat) (q : Nat) : YI (yg ++ [q]) = YI yg ++ [(q : Int)] := by simp [YI]


set_option maxRecDepth 100000 in
set_option maxHeartbeats 8000000 in
theorem remembers_c (count : Int) (v0 : Value) (xs : List Int) (w : World) (hv : AR EI w v0 xs) : Calls Tryz.prog 3 #[.int .i64 count, v0] w fun e w' => e = .returned (.bool true) ∧ Ext [] w w' := by
  obtain ⟨p, cap, rfl, hrd⟩ := hv
  have HV := Lib.hid hrd
  obtain ⟨n, hn⟩ : ∃ n, n = xs.length := ⟨_, rfl⟩
  have HN := Lib.hid hn
  rw [← hn] at HV ⊢
  obtain ⟨c1, c2⟩ := modw9 count 90 (by omega)
  obtain ⟨C, hC⟩ : ∃ C : Nat, (C : Int) = 1 + (IntKind.u64.wrap count).tmod 90 := ⟨(1 + (IntKind.u64.wrap count).tmod 90).toNat, by omega⟩
  have hC1 : 1 ≤ C ∧ C ≤ 90 := by omega
  have HC := Lib.hid hC
  clear hrd hn hC
  go_enter Tryz.func3, Tryz.ntmps3
  go_wp2_with fail
  refine (known_c _).mono ?_
  rintro e W0 ⟨rfl, hE0⟩
  go_wp2_with fail
  refine (rknew_c 5 400 _ (by omega) (by omega) (by omega) (by omega)).mono ?_
  rintro e W1 ⟨r, gg, rfl, hr, lr, -, hE1⟩
  have HR1 := Lib.hid hr
  have hE01 := hE0.trans hE1
  have lr0 := hE0.size
  clear hr hE0 hE1
  go_wp2_with fail
  refine (arnew_c r gg 5 400 1 [] _ HR1.out (by omega) (by omega)).mono ?_
  rintro e W2 ⟨a, rfl, ha, -, hE2⟩
  have HR2 := Lib.hid (HR1.out.ext0 hE2)
  have HA2 := Lib.hid ha
  have hE02 := hE01.trans hE2
  clear ha hE01 hE2 HR1
  go_wp2_with fail
  refine (stnew_c a r gg 1 400 1 [] _ HR2.out HA2.out (by omega) (by omega) (by omega) (by omega)).mono ?_
  rintro e W3 ⟨b, sp, v, rfl, hsy, hws, hnew, lb, lsp, hE3⟩
  have hs02 := hE02.size
  have hlow : ∀ z ∈ [b, r, sp], w.heap.size ≤ z := fun z hz => by
    simp at hz
    rcases hz with rfl | rfl | rfl <;> omega
  obtain ⟨y, hy⟩ : ∃ y : Sy, y = ⟨b, a, r, gg, sp, 1, 400, 1⟩ := ⟨_, rfl⟩
  have yb : b = y.b := by rw [hy]
  have yk : y.k = 1 ∧ y.F = 1 ∧ y.S = 400 := by rw [hy]; exact ⟨rfl, rfl, rfl⟩
  rw [← hy] at hsy hnew
  have hyl : ∀ z ∈ [y.b, y.r, y.sp], w.heap.size ≤ z := by rw [hy]; exact hlow
  have hcl : v.spc.cells = 1995 := by rw [hsy.cells, yk.1, yk.2.1, yk.2.2]; rfl
  have hm0 : RmM v (List.range 0) 0 0 := ⟨by rw [hnew.st]; rfl, by rw [hnew.st]; rfl, by simp, by simp, ⟨by rw [hws]; simp, by rw [hws]; simp, fun i hi => by omega⟩, by rw [hnew.st]; rfl, by rw [hnew.st]; rfl, by rw [hnew.st]; decide, by rw [hnew.st]; decide⟩
  have hf0 : RmF v 0 := ⟨by rw [hnew.free, hcl]; rfl, hnew.back, by rw [hnew.st]; rfl⟩
  have hw0 : RmW w W3 y (.slice none 0 0) (.slice none 0 0) v (PS 0) (YI (List.range 0)) := ⟨hE02.trans hE3, hsy, .inl ⟨rfl, rfl⟩, by simp [blkL], .inl ⟨rfl, rfl⟩, by simp [blkL]⟩
  rw [yb]
  have HYL := Lib.hid hyl
  have HYK := Lib.hid yk
  have HM0 := Lib.hid hm0
  have HF0 := Lib.hid hf0
  have HW0 := Lib.hid hw0
  clear hsy hnew hws hE02 hE3 HR2 HA2 hlow lb lsp hs02 lr0 lr yb yk hy hyl hcl hm0 hf0 hw0
  go_wp2_with fail
  rw [← HC.out]
  clear c1 c2
  go_loopw [11, 12, 13] (fun lv yv iv wr => ∃ (q : Nat) (v : Sv), q ≤ C ∧ iv = .int .i64 q ∧ (∃ p1 c1, lv = .slice p1 q c1) ∧ (∃ p2 c2, yv = .slice p2 q c2) ∧ Hid (RmW w wr y lv yv v (PS q) (YI (List.range q))) ∧ Hid (RmM v (List.range q) q 0 ∧ RmF v q)) (fun _ _ iv _ => C - (intOf iv).toNat)
  case atStart => exact ⟨0, v, by omega, rfl, ⟨none, 0, rfl⟩, ⟨none, 0, rfl⟩, HW0, Lib.hid ⟨HM0.out, HF0.out⟩⟩
  case round =>
    clear HM0 HF0 HW0
    obtain ⟨q, v1, hq, rfl, ⟨p1, c1, rfl⟩, ⟨p2, c2, rfl⟩, HW, HMF⟩ := hrel
    by_cases hlt : q < C
    · have z1 : (q : Int) < (C : Int) := by omega
      go_wp2_with fail
      have hEb : Ext [] wr (wr.alloc (.cells #[.int .u8 (q : Int), .int .u8 1] 5)) := (Ext.refl [] wr).alloc _
      have hby := byte2q wr q (by omega)
      refine (rput_c y v1 (List.range q) q _ _ (HW.out.ext0 hEb).sy HYK.out.1 HYK.out.2.1 HMF.out.1 HMF.out.2 (by omega) hby.1 hby.2).mono ?_
      rintro e W5 ⟨v5, rfl, hs5, hF5, hm5, hf5⟩
      have HW5 := Lib.hid ((HW.out.ext0 hEb).step HYL.out hs5 hF5)
      have HMF5 : Hid (RmM v5 (List.range (q + 1)) (q + 1) 0 ∧ RmF v5 (q + 1)) := Lib.hid ⟨by rw [List.range_succ]; exact hm5, hf5⟩
      clear hEb hby hs5 hF5 hm5 hf5 HW HMF
      rw [pagg]
      obtain ⟨SH, hSH⟩ : ∃ S, S = shaF (bI q) := ⟨_, rfl⟩
      rw [← hSH]
      have HSH := Lib.hid hSH
      clear hSH
      go_wp2_with (with_reducible refine hold_at (d := 73) ?_)
      refine wpl_of rfl fun K hK => ?_
      have hEc : Ext [] W5 ((W5.alloc (.cells #[.int .i64 ((4 * q : Nat) : Int), .int .i64 2, .int .i64 1, .string ⟨SH.toArray⟩] 37)).alloc (.cells #[.int .i64 ((4 * q : Nat) : Int), .int .i64 2, .int .i64 1, .string ⟨SH.toArray⟩] 37)) := ((Ext.refl [] W5).alloc _).alloc _
      have HW6 := Lib.hid (HW5.out.ext0 hEc)
      have h1p := one_rdP (T := 37) (W5.alloc (.cells #[.int .i64 ((4 * q : Nat) : Int), .int .i64 2, .int .i64 1, .string ⟨SH.toArray⟩] 37)) (4 * q, 2, 1, SH)
      have hsz : (W5.alloc (.cells #[.int .i64 ((4 * q : Nat) : Int), .int .i64 2, .int .i64 1, .string ⟨SH.toArray⟩] 37)).heap.size = W5.heap.size + 1 := by first | exact Array.size_push _ | simp
      rw [hsz] at h1p
      clear hsz
      refine opw_append (E := EP) (T := 37) (zero := P0) (bytes := 40) (v := .slice p1 q c1) (u := .slice (some ⟨W5.heap.size + 1, 0, none⟩) 1 1) (xs := PS q) (ys := [(4 * q, 2, 1, SH)]) tiP Tryz.underlying35 Tryz.underlying35 rfl rfl rfl HW6.out.lo h1p (by rw [PS_len]; simp; omega) (by rw [PS_len]; simp; omega) ?_
      intro v7 W7 how7 hE7 hnear7 _
      have HW7 := Lib.hid (HW6.out.setL how7 hE7 hnear7)
      rw [HSH.out, show ((4 * q, 2, 1, shaF (bI q)) : Ptr4) = ptrN q from rfl, ← PS_succ] at HW7 how7
      obtain ⟨p7, c7, rfl, _⟩ := how7.rd.len_eq
      rw [PS_len] at HW7 ⊢
      refine hK _ _ ?_
      clear hK how7 hE7 hnear7 h1p hEc HW6 HW5
      go_wp2_with (with_reducible refine hold_at (d := 77) ?_)
      refine wpl_of rfl fun K hK => ?_
      have hEd := (Ext.refl [] W7).alloc (.cells #[.int .i64 (q : Int)] 3)
      have HW8 := Lib.hid (HW7.out.ext0 hEd)
      refine opw_append (E := EI) (T := 3) (zero := 0) (bytes := 8) (v := .slice p2 q c2) (u := .slice (some ⟨W7.heap.size, 0, none⟩) 1 1) (xs := YI (List.range q)) (ys := [(q : Int)]) tiI Tryz.underlying22 Tryz.underlying22 rfl rfl rfl HW8.out.yo (one_owI3 W7 (q : Int)).rd (by rw [YI_len]; simp; omega) (by rw [YI_len]; simp; omega) ?_
      intro v9 W9 how9 hE9 hnear9 _
      have HW9 := Lib.hid (HW8.out.setY how9 hE9 hnear9)
      rw [← YI_add, ← List.range_succ] at HW9 how9
      obtain ⟨p9, c9, rfl, _⟩ := how9.rd.len_eq
      rw [YI_len, List.length_range] at HW9 ⊢
      refine hK _ _ ?_
      clear hK how9 hE9 hnear9 hEd HW8 HW7
      go_wp2_with fail
      go_roundw
      case rel => exact ⟨q + 1, v5, by omega, by go_num, ⟨p7, c7, rfl⟩, ⟨p9, c9, rfl⟩, HW9, HMF5⟩
      case measure => simp [intOf]; omega
    · have z1 : ¬ ((q : Int) < (C : Int)) := by omega
      obtain rfl : q = C := by omega
      have HM := Lib.hid HMF.out.1
      obtain ⟨g2, o2, rfl⟩ : ∃ g o, p2 = some ⟨g, o, none⟩ := by
        rcases HW.out.yo.rd with ⟨_, h⟩ | ⟨g, o, c, h, _⟩
        · have h2 := congrArg List.length h; rw [YI_len, List.length_range] at h2; simp at h2; omega
        · simp only [Value.slice.injEq] at h; exact ⟨g, o, h.1⟩
      obtain ⟨g1, o1, rfl⟩ : ∃ g o, p1 = some ⟨g, o, none⟩ := by
        rcases HW.out.lo.rd with ⟨_, h⟩ | ⟨g, o, c, h, _⟩
        · have h2 := congrArg List.length h; rw [PS_len] at h2; simp at h2; omega
        · simp only [Value.slice.injEq] at h; exact ⟨g, o, h.1⟩
      clear HMF z1 hlt hq
      go_wp2_with fail
      go_loopw [12, 16] (fun yv iv w2 => ∃ (j : Nat) (v : Sv) (yg : List Nat) (m : Nat), j ≤ n ∧ j ≤ 100 ∧ iv = .int .i64 j ∧ (∃ g2 o2 c2, yv = .slice (some ⟨g2, o2, none⟩) m c2 ∧ m ≤ c2) ∧ 1 ≤ m ∧ m ≤ 100 ∧ Hid (yg.length = m) ∧ Hid (RmW w w2 y (.slice (some ⟨g1, o1, none⟩) q c1) yv v (PS q) (YI yg)) ∧ Hid (RmM v yg q j)) (fun _ iv _ => 100 - (intOf iv).toNat)
      case atStart => exact ⟨0, v1, List.range q, q, by omega, by omega, rfl, ⟨g2, o2, c2, rfl, by
        obtain ⟨_, _, h, h2⟩ := HW.out.yo.rd.len_eq
        simp only [Value.slice.injEq] at h
        obtain ⟨-, h3, rfl⟩ := h
        omega⟩, by omega, by omega, Lib.hid (List.length_range), HW, HM⟩
      case round =>
        clear HW HM
        obtain ⟨j, v2, yg, m, hj, hj100, rfl, ⟨g2, o2, c2, rfl, hmc⟩, hm1, hm100, HYG, HW, HM⟩ := hrel
        by_cases hjn : j < n
        · by_cases h100 : j < 100
          · have x1 : (j : Int) < (n : Int) := by omega
            have x2 : (j : Int) < 100 := by omega
            obtain ⟨off, hoff⟩ : ∃ o, o = m - 64 := ⟨_, rfl⟩
            have x3 : max ((m : Int) - 64) 0 = (off : Int) := by omega
            have x4 : (0 : Int) ≤ (off : Int) := by omega
            have x5 : (off : Int) ≤ (m : Int) := by omega
            have x6 : (off : Int) ≤ (c2 : Int) := by omega
            have x7 : ¬ (c2 = off) := by omega
            have hr := HV.out (by intro h; have := HN.out; rw [h] at this; simp at this; omega)
            obtain ⟨gx, ox, rfl⟩ : ∃ g o, p = some ⟨g, o, none⟩ := by
              rcases hr with ⟨_, h⟩ | ⟨g, o, c, h, _⟩
              · have := HN.out; rw [h] at this; simp at this; omega
              · simp only [Value.slice.injEq] at h; exact ⟨g, o, h.1⟩
            have hcell := EI_cell (hr.ext0 HW.out.ext) j (by rw [← HN.out]; exact hjn)
            obtain ⟨x, hx⟩ : ∃ a, a = xs.getD j 0 := ⟨_, rfl⟩
            rw [← hx] at hcell
            obtain ⟨m1, m2⟩ := modw9 x (q : Int) (by omega)
            have x8 : IntKind.u64.wrap (q : Int) = (q : Int) := by rw [IntKind.wrap_u64]; omega
            have x9 : (0 : Int) < (q : Int) := by omega
            clear hr hx
            go_wp2_with fail
            obtain ⟨kn, hK⟩ : ∃ kn : Nat, (kn : Int) = (IntKind.u64.wrap x).tmod (q : Int) := ⟨((IntKind.u64.wrap x).tmod (q : Int)).toNat, by omega⟩
            have hKq : kn < q := by omega
            rw [← hK]
            obtain ⟨tr, htr⟩ : ∃ t, t = yg.drop off := ⟨_, rfl⟩
            have hofl : lastL yg = tr := by rw [lastL, HYG.out, ← hoff, htr]
            have hyo := EI_owDrop (k := off) HW.out.yo (by rw [YI_len, HYG.out]; omega)
            rw [show (YI yg).drop off = YI tr by rw [htr, YI, YI, List.map_drop]] at hyo
            have htl : tr.length = m - off := by rw [htr, List.length_drop, HYG.out]
            have hM3 : RmM v2 tr q j := by
              have h := HM.out
              have hl64 : tr.length ≤ 64 := by omega
              refine ⟨h.txg, ?_, ?_, fun i hi => h.lt i ?_, h.std, h.sum, h.gets, h.h0, h.r0⟩
              · rw [lastL_short tr hl64, h.mem, hofl]
              · rw [htr]; exact List.Nodup.sublist (List.drop_sublist _ _) h.nd
              · rw [htr] at hi; exact List.mem_of_mem_drop hi
            have hW3 : RmW w wr y (.slice (some ⟨g1, o1, none⟩) q c1) (.slice (some ⟨g2, o2 + off, none⟩) (m - off) (c2 - off)) v2 (PS q) (YI tr) := ⟨HW.out.ext, HW.out.sy, HW.out.lo, HW.out.ll, hyo, fun g hg => HW.out.yl g hg⟩
            have hMM : 1 ≤ m - off ∧ m - off ≤ 64 ∧ m - off ≤ c2 - off := by omega
            rw [hoff] at hW3 htl hMM
            obtain ⟨o3, ho3⟩ : ∃ o, o = o2 + (m - 64) := ⟨_, rfl⟩
            obtain ⟨M, hMe⟩ : ∃ o, o = m - (m - 64) := ⟨_, rfl⟩
            obtain ⟨c3, hc3⟩ : ∃ o, o = c2 - (m - 64) := ⟨_, rfl⟩
            rw [← ho3, ← hMe, ← hc3] at hW3
            rw [← hMe] at htl
            rw [← hMe, ← hc3] at hMM
            rw [← ho3, ← hMe, ← hc3]
            have HW3 := Lib.hid hW3
            have HM3 := Lib.hid hM3
            have HTL := Lib.hid htl
            obtain ⟨hM1, hM64, hMc⟩ := hMM
            clear hcell hK htr hofl hyo htl hM3 hW3 ho3 hMe hc3 HW HM HYG x3 x4 x5 x6 x7 x8 x9 m1 m2 hoff hmc hm1 hm100
            refine (stcounts_c y v2 _ HW3.out.sy).mono ?_
            rintro e W5 ⟨rfl, hE5⟩
            obtain ⟨G, hG⟩ : ∃ g, g = v2.st.gets := ⟨_, rfl⟩
            obtain ⟨H, hH⟩ : ∃ g, g = v2.st.hits := ⟨_, rfl⟩
            obtain ⟨R, hR⟩ : ∃ g, g = v2.st.reads := ⟨_, rfl⟩
            obtain ⟨L, hL⟩ : ∃ g, g = v2.st.heals := ⟨_, rfl⟩
            obtain ⟨U, hU⟩ : ∃ g, g = v2.st.puts := ⟨_, rfl⟩
            simp only [← hG, ← hH, ← hR, ← hL, ← hU]
            have hb1 : G = j ∧ H + R = G ∧ 0 ≤ H ∧ 0 ≤ R := by rw [hG, hH, hR]; exact ⟨HM3.out.gets, HM3.out.sum, HM3.out.h0, HM3.out.r0⟩
            obtain ⟨b1, b2, b3, b4⟩ := hb1
            have HCN := Lib.hid (And.intro hG (And.intro hH (And.intro hR (And.intro hL hU))))
            have hEa := (Ext.refl [] W5).alloc (.cells #[.int .i64 G, .int .i64 H, .int .i64 R, .int .i64 L, .int .i64 U] 42)
            have hba := heap_alloc_new W5 (.cells #[.int .i64 G, .int .i64 H, .int .i64 R, .int .i64 L, .int .i64 U] 42)
            have HW5 := Lib.hid ((HW3.out.ext0 hE5).ext0 hEa)
            obtain ⟨k0, k1, k2, k3⟩ := EP_cells HW5.out.lo.rd kn (by rw [PS_len]; exact hKq)
            have hpk : (PS q).getD kn P0 = ptrN kn := by simp [PS, List.getD, hKq]
            rw [hpk] at k0 k1 k2 k3
            simp only [ptrN] at k0 k1 k2 k3
            obtain ⟨SH, hSH⟩ : ∃ S, S = shaF (bI kn) := ⟨_, rfl⟩
            rw [← hSH] at k3
            have HSH := Lib.hid hSH
            have HBA := Lib.hid hba
            have z1 : (kn : Int) < (q : Int) := by omega
            clear hG hH hR hL hU hSH hba hE5 hEa hpk HW3 b1 b2
            go_wp2_with fail
            obtain ⟨hit, hhit⟩ : ∃ h : Bool, h = true ↔ kn ∈ tr := ⟨decide (kn ∈ tr), by simp⟩
            have hg := rget_c y v2 tr q j kn hit _ HW5.out.sy HYK.out.1 HYK.out.2.1 HYK.out.2.2 HM3.out (by rw [HTL.out]; omega) (by omega) (by omega) hKq hhit
            rw [pagg, ← HSH.out, show ((4 * kn : Nat) : Int) = 4 * (kn : Int) by omega] at hg
            refine hg.mono ?_
            clear hg
            rintro e W6 ⟨pu, cu, v6, rfl, hrd6, hs6, hF6, hws6, hst6⟩
            have hb6 := SyF.blk HW5.out.sy hF6 HBA.out (by decide)
            have hW6 := HW5.out.step HYL.out hs6 hF6
            have HW6 := Lib.hid hW6
            have HB6 := Lib.hid hb6
            have HRD6 := Lib.hid hrd6
            have HST6 := Lib.hid hst6
            have HWS6 := Lib.hid hws6
            clear hb6 hW6 hrd6 hs6 hF6 hws6 hst6 k0 k1 k2 k3 HW5 HBA
            go_wp2_with fail
            refine (stcounts_c y v6 _ HW6.out.sy).mono ?_
            rintro e W7 ⟨rfl, hE7⟩
            have hcn : v6.st.gets = G + 1 ∧ v6.st.hits = H + (if hit then 1 else 0) ∧ v6.st.reads = R + (if hit then 0 else 1) ∧ v6.st.heals = L ∧ v6.st.puts = U := by
              obtain ⟨e1, e2, e3, e4, e5⟩ := HCN.out
              rw [HST6.out, e1, e2, e3, e4, e5]
              exact ⟨rfl, rfl, rfl, rfl, rfl⟩
            obtain ⟨n1, n2, n3, n4, n5⟩ := hcn
            simp only [n1, n2, n3, n4, n5]
            clear n1 n2 n3 n4 n5
            obtain ⟨gu, ou, rfl⟩ : ∃ g o, pu = some ⟨g, o, none⟩ := by
              rcases HRD6.out with ⟨_, h⟩ | ⟨g, o, c, h, _⟩
              · simp [bI] at h
              · simp only [Value.slice.injEq] at h; exact ⟨g, o, h.1⟩
            have hMem : RmM v6 (tr ++ [kn]) q (j + 1) → True := fun _ => trivial
            clear hMem
            obtain ⟨H', hH'⟩ : ∃ h, h = H + (if hit then 1 else 0) := ⟨_, rfl⟩
            obtain ⟨R', hR'⟩ : ∃ h, h = R + (if hit then 0 else 1) := ⟨_, rfl⟩
            rw [← hH', ← hR']
            have hsum : H' + R' = G + 1 := by
              obtain ⟨e1, e2, e3, _⟩ := HCN.out
              have := HM3.out.sum
              rw [hH', hR', e1, ← this, e2, e3]
              cases hit <;> simp <;> omega
            have hgj : 0 ≤ G ∧ G ≤ 100 := by rw [HCN.out.1, HM3.out.gets]; omega
            obtain ⟨hgj1, hgj2⟩ := hgj
            have hHb : 0 ≤ H' ∧ H' ≤ G + 1 ∧ 0 ≤ R' ∧ R' ≤ G + 1 := by
              rw [hH', hR'] at hsum ⊢
              cases hit <;> simp at hsum ⊢ <;> omega
            obtain ⟨hb1, hb2, hb3, hb4⟩ := hHb
            have hEa := (Ext.refl [] W7).alloc (.cells #[.int .i64 (G + 1), .int .i64 H', .int .i64 R', .int .i64 L, .int .i64 U] 42)
            have hbb := heap_alloc_new W7 (.cells #[.int .i64 (G + 1), .int .i64 H', .int .i64 R', .int .i64 L, .int .i64 U] 42)
            have HB8 := Lib.hid ((hE7.trans hEa).blk HB6.out (by simp))
            have HW8 := Lib.hid ((HW6.out.ext0 hE7).ext0 hEa)
            have HR8 := Lib.hid ((HRD6.out.ext0 hE7).ext0 hEa)
            have HBB := Lib.hid hbb
            have HHR := Lib.hid (And.intro hH' hR')
            have hw5l : W5.heap.size < W6.heap.size := lt_of_blk HB6.out
            have hw6l := hE7.size
            clear hbb hE7 hEa HB6 HW6 HRD6 hH' hR'
            go_wp2_with fail
            obtain ⟨b8, hb8⟩ : ∃ b, b = W5.heap.size := ⟨_, rfl⟩
            obtain ⟨b9, hb9⟩ : ∃ b, b = W7.heap.size := ⟨_, rfl⟩
            rw [← hb8] at HB8
            rw [← hb9] at HBB
            simp only [← hb8, ← hb9]
            have hb89 : b8 ≠ b9 := by omega
            clear hb8 hb9 hw5l hw6l
            revert HB8 HW8 HR8 HBB
            generalize World.alloc _ _ = W8
            intro HW8 HR8 HB8 HBB
            rcases hit with _ | _
            · have hKt : kn ∉ tr := fun h => by have := hhit.2 h; cases this
              have HKT := Lib.hid hKt
              clear hKt hhit
              go_loopw [22, 23] (fun av iv w2 => ∃ i : Nat, i ≤ M ∧ iv = .int .i64 i ∧ av = .int .i64 (-1) ∧ w2 = W8) (fun _ iv _ => M - (intOf iv).toNat)
              case atStart => exact ⟨0, by omega, rfl, rfl, rfl⟩
              case round =>
                obtain ⟨i, hi, rfl, rfl, rfl⟩ := hrel
                by_cases hiM : i < M
                · have y1 : (i : Int) < (M : Int) := by omega
                  have hcell := EI_cell HW8.out.yo.rd i (by rw [YI_len, HTL.out]; exact hiM)
                  obtain ⟨T, hT⟩ : ∃ T, T = (YI tr).getD i 0 := ⟨_, rfl⟩
                  have hTK : ¬ (T = (kn : Int)) := fun h => HKT.out (by
                    have hil : i < tr.length := by rw [HTL.out]; exact hiM
                    have h3 : tr[i] = kn := by
                      rw [hT] at h
                      simp [YI, List.getD, hil] at h
                      omega
                    exact h3 ▸ List.getElem_mem hil)
                  rw [← hT] at hcell
                  clear hT
                  go_wp2_with fail
                  go_roundw
                  case rel => exact ⟨i + 1, by omega, by go_num, by first | rfl | trivial, by first | rfl | trivial⟩
                  case measure => simp [intOf]; omega
                · have hiM2 : i = M := by omega
                  have y1 : ¬ ((i : Int) < (M : Int)) := by omega
                  go_wp2_with fail
                  have cv1 : (convert 40 9 (.slice (some ⟨gu, ou, none⟩) 2 cu)).run Tryz.prog wr = .ok (.string ⟨(bI kn).toArray⟩) wr := conv_c (bs := bI kn) HR8.out
                  have cv2 : (convert 40 9 (.slice (some ⟨wr.heap.size, 0, none⟩) 2 2)).run Tryz.prog (wr.alloc (.cells #[.int .u8 (kn : Int), .int .u8 1] 5)) = .ok (.string ⟨(bI kn).toArray⟩) (wr.alloc (.cells #[.int .u8 (kn : Int), .int .u8 1] 5)) := conv_c (bs := bI kn) (byte2q wr kn (by omega)).1
                  obtain ⟨SB, hSB⟩ : ∃ s, s = (bI kn).toArray := ⟨_, rfl⟩
                  rw [← hSB] at cv1 cv2
                  have hEe : Ext [] wr (wr.alloc (.cells #[.int .u8 (kn : Int), .int .u8 1] 5)) := (Ext.refl [] wr).alloc _
                  have hr8 := hEe.blk HB8.out (by simp)
                  have hr9 := hEe.blk HBB.out (by simp)
                  have t0 : (wr.alloc (.cells #[.int .u8 (kn : Int), .int .u8 1] 5)).cell? ⟨b8, 0, none⟩ = some (.int .i64 G) := by rw [cell_of_row _ _ 0 _ _ _ hr8]; rfl
                  have t1 : (wr.alloc (.cells #[.int .u8 (kn : Int), .int .u8 1] 5)).cell? ⟨b8, 1, none⟩ = some (.int .i64 H) := by rw [cell_of_row _ _ 1 _ _ _ hr8]; rfl
                  have u0 : (wr.alloc (.cells #[.int .u8 (kn : Int), .int .u8 1] 5)).cell? ⟨b9, 0, none⟩ = some (.int .i64 (G + 1)) := by rw [cell_of_row _ _ 0 _ _ _ hr9]; rfl
                  have u1 : (wr.alloc (.cells #[.int .u8 (kn : Int), .int .u8 1] 5)).cell? ⟨b9, 1, none⟩ = some (.int .i64 H') := by rw [cell_of_row _ _ 1 _ _ _ hr9]; rfl
                  have u2 : (wr.alloc (.cells #[.int .u8 (kn : Int), .int .u8 1] 5)).cell? ⟨b9, 2, none⟩ = some (.int .i64 R') := by rw [cell_of_row _ _ 2 _ _ _ hr9]; rfl
                  have y2 : ¬ (H < H') := by have := HHR.out.1; simp at this; omega
                  have HWA := Lib.hid (HW8.out.ext0 hEe)
                  clear hr8 hr9 hSB hEe HW8 HR8 HB8 HBB
                  go_wp2_with (with_reducible refine hold_at (d := 183) ?_)
                  clear t0 t1 u0 u1 u2 cv1 cv2
                  obtain ⟨WA, hWA⟩ : ∃ W, W = wr.alloc (.cells #[.int .u8 (kn : Int), .int .u8 1] 5) := ⟨_, rfl⟩
                  rw [← hWA] at HWA
                  simp only [← hWA]
                  have hszA : WA.heap.size = wr.heap.size + 1 := by rw [hWA]; first | exact Array.size_push _ | simp
                  try simp only [← hszA]
                  clear hWA hszA
                  have HM6 : Hid (RmM v6 (tr ++ [kn]) q (j + 1)) := Lib.hid (HM3.out.miss HKT.out hKq HST6.out HWS6.out)
                  refine wpl_of rfl fun K0 hK0 => ?_
                  have hEd := (Ext.refl [] WA).alloc (.cells #[.int .i64 (kn : Int)] 3)
                  have HW9 := Lib.hid ((HWA).out.ext0 hEd)
                  refine opw_append (E := EI) (T := 3) (zero := 0) (bytes := 8) (v := .slice (some ⟨g2, o3, none⟩) M c3) (u := .slice (some ⟨(WA).heap.size, 0, none⟩) 1 1) (xs := YI (tr)) (ys := [(kn : Int)]) tiI Tryz.underlying22 Tryz.underlying22 rfl rfl rfl HW9.out.yo (one_owI3 WA (kn : Int)).rd (by rw [YI_len, (HTL).out]; simp; omega) (by rw [YI_len, (HTL).out]; simp; omega) ?_
                  intro v9 W9 how9 hE9 hnear9 _
                  have HW10 := Lib.hid (HW9.out.setY how9 hE9 hnear9)
                  rw [← YI_add] at HW10 how9
                  obtain ⟨p9, c9, rfl, hmc9⟩ := how9.rd.len_eq
                  have hl9 : (YI (tr ++ [kn])).length = M + 1 := by rw [YI_len, List.length_append, (HTL).out]; rfl
                  rw [hl9] at HW10 hmc9 ⊢
                  obtain ⟨g9, o9, rfl⟩ : ∃ g o, p9 = some ⟨g, o, none⟩ := by
                    rcases HW10.out.yo.rd with ⟨_, h⟩ | ⟨g, o, c, h, _⟩
                    · simp [YI] at h
                    · simp only [Value.slice.injEq] at h; exact ⟨g, o, h.1⟩
                  refine hK0 _ _ ?_
                  clear hK0 how9 hE9 hnear9 hEd HW9
                  go_wp2_with fail
                  go_roundw
                  case rel => exact ⟨j + 1, v6, tr ++ [kn], M + 1, by omega, by omega, by go_num, ⟨g9, o9, c9, rfl, hmc9⟩, by omega, by omega, Lib.hid (by rw [List.length_append, (HTL).out]; rfl), HW10, HM6⟩
                  case measure => simp [intOf]; omega
            · obtain ⟨a0, ha0⟩ := List.getElem?_of_mem (hhit.1 rfl)
              have HA0 := Lib.hid ha0
              have haM : a0 < M := by rw [← HTL.out]; exact (List.getElem?_eq_some_iff.1 ha0).1
              clear ha0 hhit
              go_loopw [22, 23] (fun av iv w2 => ∃ i : Nat, i ≤ M ∧ iv = .int .i64 i ∧ av = .int .i64 (if a0 < i then (a0 : Int) else -1) ∧ w2 = W8) (fun _ iv _ => M - (intOf iv).toNat)
              case atStart => exact ⟨0, by omega, rfl, rfl, rfl⟩
              case round =>
                obtain ⟨i, hi, rfl, rfl, rfl⟩ := hrel
                by_cases hiM : i < M
                · have y1 : (i : Int) < (M : Int) := by omega
                  have hcell := EI_cell HW8.out.yo.rd i (by rw [YI_len, HTL.out]; exact hiM)
                  by_cases hia : i = a0
                  · subst hia
                    have hT : (YI tr).getD i 0 = (kn : Int) := by
                      have h := HA0.out
                      simp [YI, List.getD, h]
                    rw [hT] at hcell
                    clear hT
                    go_wp2_with fail
                    go_roundw
                    case rel => exact ⟨i + 1, by omega, by go_num, by rw [if_pos (by omega)], by first | rfl | trivial⟩
                    case measure => simp [intOf]; omega
                  · obtain ⟨T, hT⟩ : ∃ T, T = (YI tr).getD i 0 := ⟨_, rfl⟩
                    have hTK : ¬ (T = (kn : Int)) := fun h => hia (by
                      obtain ⟨h1, h2⟩ := List.getElem?_eq_some_iff.1 HA0.out
                      have hil : i < tr.length := by rw [HTL.out]; exact hiM
                      have h3 : tr[i] = kn := by
                        rw [hT] at h
                        simp [YI, List.getD, hil] at h
                        omega
                      exact nodup_inj HM3.out.nd hil h1 (h3.trans h2.symm))
                    rw [← hT] at hcell
                    clear hT
                    have hif : (if a0 < i + 1 then (a0 : Int) else -1) = if a0 < i then (a0 : Int) else -1 := by
                      by_cases h : a0 < i
                      · rw [if_pos h, if_pos (by omega)]
                      · rw [if_neg h, if_neg (by omega)]
                    go_wp2_with fail
                    go_roundw
                    case rel => exact ⟨i + 1, by omega, by go_num, by rw [hif], by first | rfl | trivial⟩
                    case measure => simp [intOf]; omega
                · have hiM2 : i = M := by omega
                  have y1 : ¬ ((i : Int) < (M : Int)) := by omega
                  rw [if_pos (by omega)]
                  have cv1 : (convert 40 9 (.slice (some ⟨gu, ou, none⟩) 2 cu)).run Tryz.prog wr = .ok (.string ⟨(bI kn).toArray⟩) wr := conv_c (bs := bI kn) HR8.out
                  have cv2 : (convert 40 9 (.slice (some ⟨wr.heap.size, 0, none⟩) 2 2)).run Tryz.prog (wr.alloc (.cells #[.int .u8 (kn : Int), .int .u8 1] 5)) = .ok (.string ⟨(bI kn).toArray⟩) (wr.alloc (.cells #[.int .u8 (kn : Int), .int .u8 1] 5)) := conv_c (bs := bI kn) (byte2q wr kn (by omega)).1
                  obtain ⟨SB, hSB⟩ : ∃ s, s = (bI kn).toArray := ⟨_, rfl⟩
                  rw [← hSB] at cv1 cv2
                  have hEe : Ext [] wr (wr.alloc (.cells #[.int .u8 (kn : Int), .int .u8 1] 5)) := (Ext.refl [] wr).alloc _
                  have hr8 := hEe.blk HB8.out (by simp)
                  have hr9 := hEe.blk HBB.out (by simp)
                  have t0 : (wr.alloc (.cells #[.int .u8 (kn : Int), .int .u8 1] 5)).cell? ⟨b8, 0, none⟩ = some (.int .i64 G) := by rw [cell_of_row _ _ 0 _ _ _ hr8]; rfl
                  have t1 : (wr.alloc (.cells #[.int .u8 (kn : Int), .int .u8 1] 5)).cell? ⟨b8, 1, none⟩ = some (.int .i64 H) := by rw [cell_of_row _ _ 1 _ _ _ hr8]; rfl
                  have u0 : (wr.alloc (.cells #[.int .u8 (kn : Int), .int .u8 1] 5)).cell? ⟨b9, 0, none⟩ = some (.int .i64 (G + 1)) := by rw [cell_of_row _ _ 0 _ _ _ hr9]; rfl
                  have u1 : (wr.alloc (.cells #[.int .u8 (kn : Int), .int .u8 1] 5)).cell? ⟨b9, 1, none⟩ = some (.int .i64 H') := by rw [cell_of_row _ _ 1 _ _ _ hr9]; rfl
                  have u2 : (wr.alloc (.cells #[.int .u8 (kn : Int), .int .u8 1] 5)).cell? ⟨b9, 2, none⟩ = some (.int .i64 R') := by rw [cell_of_row _ _ 2 _ _ _ hr9]; rfl
                  have y2 : H < H' := by have := HHR.out.1; simp at this; omega
                  have HWA := Lib.hid (HW8.out.ext0 hEe)
                  clear hr8 hr9 hSB hEe HW8 HR8 HB8 HBB
                  go_wp2_with fail
                  clear t0 t1 u0 u1 u2 cv1 cv2
                  obtain ⟨WA, hWA⟩ : ∃ W, W = wr.alloc (.cells #[.int .u8 (kn : Int), .int .u8 1] 5) := ⟨_, rfl⟩
                  rw [← hWA] at HWA
                  simp only [← hWA]
                  have hszA : WA.heap.size = wr.heap.size + 1 := by rw [hWA]; first | exact Array.size_push _ | simp
                  try simp only [← hszA]
                  clear hWA hszA
                  have y3 : (0 : Int) ≤ (a0 : Int) := by omega
                  have y4 : (a0 : Int) ≤ (c3 : Int) := by omega
                  have y5 : (0 : Int) ≤ (a0 : Int) + 1 := by omega
                  have y6 : (a0 : Int) + 1 ≤ (M : Int) := by omega
                  have y7 : ((a0 : Int) + 1).toNat = a0 + 1 := by omega
                  have y8 : (M : Int) ≤ (c3 : Int) := by omega
                  have y9 : IntKind.i64.wrap ((a0 : Int) + 1) = (a0 : Int) + 1 := IntWalk.i64_in _ (by omega)
                  have HYO := Lib.hid HWA.out.yo
                  refine wp_region_u (fun _ => True) (fun _ => false) (by kernel_rfl) trivial (fun hS => ?_)
                  clear hS
                  (refine wpAnyU_pure (i := 1) rfl (by kernel_rfl) (by kernel_rfl) (by kernel_rfl) (by rfl) (by exact fun _ _ _ h => h) (Or.inl ⟨by rfl, fun W => by (go_simp; try rfl)⟩) ?_); (try go_frame)
                  (refine wpAnyU_pure (i := 2) rfl (by kernel_rfl) (by kernel_rfl) (by kernel_rfl) (by rfl) (by exact fun _ _ _ h => h) (Or.inl ⟨by rfl, fun W => by (go_simp; try rfl)⟩) ?_); (try go_frame)
                  (refine wpAnyU_pure (i := 3) rfl (by kernel_rfl) (by kernel_rfl) (by kernel_rfl) (by rfl) (by exact fun _ _ _ h => h) (Or.inl ⟨by rfl, fun W => by (go_simp; try rfl)⟩) ?_); (try go_frame)
                  (refine wpAnyU_pure (i := 5) rfl (by kernel_rfl) (by kernel_rfl) (by kernel_rfl) (by rfl) (by exact fun _ _ _ h => h) (Or.inl ⟨by rfl, fun W => by (go_simp; try rfl)⟩) ?_); (try go_frame)
                  (refine wpAnyU_pure (i := 6) rfl (by kernel_rfl) (by kernel_rfl) (by kernel_rfl) (by rfl) (by exact fun _ _ _ h => h) (Or.inl ⟨by rfl, fun W => by (go_simp; try rfl)⟩) ?_); (try go_frame)
                  (refine wpAnyU_pure (i := 7) rfl (by kernel_rfl) (by kernel_rfl) (by kernel_rfl) (by rfl) (by exact fun _ _ _ h => h) (Or.inl ⟨by rfl, fun W => by (go_simp; try rfl)⟩) ?_); (try go_frame)
                  (refine wpAnyU_pure (i := 8) rfl (by kernel_rfl) (by kernel_rfl) (by kernel_rfl) (by rfl) (by exact fun _ _ _ h => h) (Or.inl ⟨by rfl, fun W => by (go_simp; try rfl)⟩) ?_); (try go_frame)
                  refine wpAnyU_one (i := 0) (by kernel_rfl) rfl (fun K hK => ?_)
                  (try simp only [Act.put, List.getElem_toArray, List.getElem_cons_zero, List.getElem_cons_succ, List.setIfInBounds_toArray, List.set_cons_zero, List.set_cons_succ]); rw [if_pos (show Region.wanted _ _ = true from rfl)]
                  go_simp
                  refine hK.out _ _ (fun h => by cases h) (fun _ => ?_)
                  clear hK
                  refine wpAnyU_one (i := 4) (by kernel_rfl) rfl (fun K hK => ?_)
                  (try simp only [Act.put, List.getElem_toArray, List.getElem_cons_zero, List.getElem_cons_succ, List.setIfInBounds_toArray, List.set_cons_zero, List.set_cons_succ]); rw [if_pos (show Region.wanted _ _ = true from rfl)]
                  have hglt : g2 < (WA).heap.size := (HYO).out.lt g2 (by simp [blkL])
                  refine opw_append (s := .tmp 170) (x := .tmp 173) (E := EI) (T := 3) (zero := 0) (bytes := 8) (v := .slice (some ⟨(WA).heap.size, 0, none⟩) 0 0) (xs := []) (ys := (YI tr).take a0) tiI Tryz.underlying22 Tryz.underlying22 rfl rfl rfl (empty_intm _ rfl) (EIm_take (((HYO).out.rd.ext0 ((Ext.refl [] _).alloc _)).ext0 (Ext.refl [] _).drew) (by rw [YI_len, HTL.out]; omega)) (by simp [YI_len, HTL.out]; omega) (by simp [YI_len, HTL.out]; omega) ?_
                  intro v7 W7 how7 hE7 hnear7 _
                  refine hK.out _ _ (fun h => by cases h) (fun _ => ?_)
                  clear hK
                  have hrd7 : EI.Rd W7 (.slice (if c3 = a0 + 1 then some ⟨g2, o3, none⟩ else some ⟨g2, o3 + (a0 + 1), none⟩) (M - (a0 + 1)) (c3 - (a0 + 1))) ((YI tr).drop (a0 + 1)) := EIm_drop2 ((((HYO).out.rd.ext0 ((Ext.refl [] _).alloc _)).ext0 (Ext.refl [] _).drew).ext hE7 (fun y hy hy' => by simp [blkL] at hy hy'; omega))
                  have HRD := Lib.hid hrd7
                  have HW7 := Lib.hid how7
                  have HE7 := Lib.hid hE7
                  have HN7 := Lib.hid hnear7
                  clear hrd7 how7 hE7 hnear7
                  refine wpAnyU_one (i := 9) (by kernel_rfl) rfl (fun K hK => ?_)
                  (try simp only [Act.put, List.getElem_toArray, List.getElem_cons_zero, List.getElem_cons_succ, List.setIfInBounds_toArray, List.set_cons_zero, List.set_cons_succ]); rw [if_pos (show Region.wanted _ _ = true from rfl)]
                  refine opw_append (s := .tmp 174) (x := .tmp 178) (E := EI) (T := 3) (zero := 0) (bytes := 8) (v := v7) (xs := (YI tr).take a0) (ys := (YI tr).drop (a0 + 1)) tiI Tryz.underlying22 Tryz.underlying22 rfl rfl rfl (by simpa using HW7.out) HRD.out (by simp [YI_len, HTL.out]; omega) (by simp [YI_len, HTL.out]; omega) ?_
                  intro vf Wf how8 hE8 hnear8 _
                  have hnw := near_newm rfl HE7.out HN7.out hE8 hnear8
                  have HOvf := Lib.hid how8
                  have HNvf := Lib.hid hnw
                  clear HE7 HN7 hE8 hnear8 how8 hnw HRD HW7 hglt
                  refine hK.out _ _ (fun h => by cases h) (fun _ => ?_)
                  clear hK
                  (refine wpAnyU_pure (i := 10) rfl (by kernel_rfl) (by kernel_rfl) (by kernel_rfl) (by rfl) (by exact fun _ _ _ h => h) (Or.inl ⟨by rfl, fun W => by (go_simp; try rfl)⟩) ?_); (try go_frame); (simp only [List.getElem_toArray, List.getElem_cons_zero, List.getElem_cons_succ, List.set_cons_zero, List.set_cons_succ])
                  refine wpAnyU_done (by kernel_rfl) ?_ _
                  generalize (if c3 = a0 + 1 then some (⟨g2, o3, none⟩ : Addr) else some ⟨g2, o3 + (a0 + 1), none⟩) = pz
                  clear y3 y4 y5 y6 y7 y8 y9 y2
                  obtain ⟨T1, hT1⟩ : ∃ t, t = tr.take a0 ++ tr.drop (a0 + 1) := ⟨_, rfl⟩
                  obtain ⟨N1, hN1⟩ : ∃ n, n = M - 1 := ⟨_, rfl⟩
                  have hT1l : T1.length = N1 := by rw [hT1, List.length_append, List.length_take, List.length_drop, HTL.out]; omega
                  have hN1b : N1 + 1 ≤ 64 := by omega
                  rw [YI_cut, ← hT1] at HOvf
                  have HM6 : Hid (RmM v6 (T1 ++ [kn]) q (j + 1)) := Lib.hid (by rw [hT1]; exact HM3.out.hit (by rw [HTL.out]; exact hM64) HA0.out HST6.out HWS6.out)
                  have HWF : Hid (RmW w Wf y (.slice (some ⟨g1, o1, none⟩) q c1) vf v6 (PS q) (YI T1)) := Lib.hid ⟨HWA.out.ext.trans HNvf.out.1, HWA.out.sy.ext0 HNvf.out.1, HWA.out.lo.ext0 HNvf.out.1, HWA.out.ll, HOvf.out, fun g hg => Nat.le_trans HWA.out.ext.size (HNvf.out.2 g hg)⟩
                  obtain ⟨pf, cf, rfl, _⟩ := HOvf.out.rd.len_eq
                  rw [YI_len, hT1l] at HWF ⊢
                  have HT1 := Lib.hid hT1l
                  clear hT1 hT1l hN1 HOvf HNvf HWA HYO
                  go_wp2_with (with_reducible refine hold_at (d := 183) ?_)
                  refine wpl_of rfl fun K0 hK0 => ?_
                  have hEd := (Ext.refl [] Wf).alloc (.cells #[.int .i64 (kn : Int)] 3)
                  have HW9 := Lib.hid ((HWF).out.ext0 hEd)
                  refine opw_append (E := EI) (T := 3) (zero := 0) (bytes := 8) (v := .slice pf N1 cf) (u := .slice (some ⟨(Wf).heap.size, 0, none⟩) 1 1) (xs := YI (T1)) (ys := [(kn : Int)]) tiI Tryz.underlying22 Tryz.underlying22 rfl rfl rfl HW9.out.yo (one_owI3 Wf (kn : Int)).rd (by rw [YI_len, (HT1).out]; simp; omega) (by rw [YI_len, (HT1).out]; simp; omega) ?_
                  intro v9 W9 how9 hE9 hnear9 _
                  have HW10 := Lib.hid (HW9.out.setY how9 hE9 hnear9)
                  rw [← YI_add] at HW10 how9
                  obtain ⟨p9, c9, rfl, hmc9⟩ := how9.rd.len_eq
                  have hl9 : (YI (T1 ++ [kn])).length = N1 + 1 := by rw [YI_len, List.length_append, (HT1).out]; rfl
                  rw [hl9] at HW10 hmc9 ⊢
                  obtain ⟨g9, o9, rfl⟩ : ∃ g o, p9 = some ⟨g, o, none⟩ := by
                    rcases HW10.out.yo.rd with ⟨_, h⟩ | ⟨g, o, c, h, _⟩
                    · simp [YI] at h
                    · simp only [Value.slice.injEq] at h; exact ⟨g, o, h.1⟩
                  refine hK0 _ _ ?_
                  clear hK0 how9 hE9 hnear9 hEd HW9
                  go_wp2_with fail
                  go_roundw
                  case rel => exact ⟨j + 1, v6, T1 ++ [kn], N1 + 1, by omega, by omega, by go_num, ⟨g9, o9, c9, rfl, hmc9⟩, by omega, by omega, Lib.hid (by rw [List.length_append, (HT1).out]; rfl), HW10, HM6⟩
                  case measure => simp [intOf]; omega
          · have x1 : (j : Int) < (n : Int) := by omega
            have x2 : ¬ ((j : Int) < 100) := by omega
            go_wp2
            go_ret
            exact ⟨rfl, HW.out.ext⟩
        · have x1 : ¬ ((j : Int) < (n : Int)) := by omega
          go_wp2
          go_ret
          exact ⟨rfl, HW.out.ext⟩

end Go.Proofs.YtgfajlaibgbdoaaGreat
