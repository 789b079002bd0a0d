
import Derived.Test.YtgfajlaibgbdoaaGreatShA
namespace Go.Proofs.YtgfajlaibgbdoaaGreat
open Go.RowKit

theorem rowU_size {L : List Int} {n : Nat} (h : L.length = n) : (EU.flat L).toArray.size = n := by rw [List.size_toArray, EU.length_flat, h]; exact Nat.mul_one n
theorem rowU_one (L : List Int) : (EU.flat L).toArray.all (·.oneCell') = true := Array.all_eq_true_iff_forall_mem.2 (fun v hv => EU.one_flat L v (by simpa using hv))
theorem infoS : (Tryz.prog.info? 128).map (·.size) = some 8 := by kernel_rfl
theorem infoW : (Tryz.prog.info? 130).map (·.size) = some 64 := by kernel_rfl
theorem rowU_agg (L : List Int) : (L.map (Value.int .u32)).toArray = (EU.flat L).toArray := by rw [flatU]

theorem zeros8 : (#[.int .u32 0, .int .u32 0, .int .u32 0, .int .u32 0, .int .u32 0, .int .u32 0, .int .u32 0, .int .u32 0] : Array Value) = (EU.flat (List.replicate 8 0)).toArray := by rfl

theorem row8_set {w : World} {g : Nat} {T : TypeId} {L : List Int} (hg : w.heap[g]? = some (.cells (EU.flat L).toArray T (0, 0))) (hl : L.length = 8) (a0 a1 a2 a3 a4 a5 a6 a7 : Int) :
    ((((((((w.setCell ⟨g, 0, none⟩ (.int .u32 a0)).setCell ⟨g, 1, none⟩ (.int .u32 a1)).setCell ⟨g, 2, none⟩ (.int .u32 a2)).setCell ⟨g, 3, none⟩ (.int .u32 a3)).setCell ⟨g, 4, none⟩ (.int .u32 a4)).setCell ⟨g, 5, none⟩ (.int .u32 a5)).setCell ⟨g, 6, none⟩ (.int .u32 a6)).setCell ⟨g, 7, none⟩ (.int .u32 a7)).heap[g]? = some (.cells (EU.flat [a0, a1, a2, a3, a4, a5, a6, a7]).toArray T (0, 0)) := by
  have h := rowU_set (rowU_set (rowU_set (rowU_set (rowU_set (rowU_set (rowU_set (rowU_set hg 0 a0) 1 a1) 2 a2) 3 a3) 4 a4) 5 a5) 6 a6) 7 a7
  have e : (((((((L.set 0 a0).set 1 a1).set 2 a2).set 3 a3).set 4 a4).set 5 a5).set 6 a6).set 7 a7 = [a0, a1, a2, a3, a4, a5, a6, a7] := by
    match L, hl with
    | [_, _, _, _, _, _, _, _], _ => rfl
  rw [e] at h
  exact h

def rorN (n : Int) (x : Int) : Int :=
  if n = 7 then rorF 33554432 128 x else if n = 18 then rorF 16384 262144 x else if n = 17 then rorF 32768 131072 x else if n = 19 then rorF 8192 524288 x else if n = 6 then rorF 67108864 64 x else if n = 11 then rorF 2097152 2048 x else if n = 25 then rorF 128 33554432 x else if n = 2 then rorF 1073741824 4 x else if n = 13 then rorF 524288 8192 x else if n = 22 then rorF 1024 4194304 x else 0
theorem ror_c (x n : Int) (hn : n = 7 ∨ n = 18 ∨ n = 17 ∨ n = 19 ∨ n = 6 ∨ n = 11 ∨ n = 25 ∨ n = 2 ∨ n = 13 ∨ n = 22) (w : World) : Calls Tryz.prog 89 #[.int .u32 x, .int .i64 n] w fun e w' => e = .returned (.int .u32 (rorN n x)) ∧ w' = w := by
  rcases hn with rfl | rfl | rfl | rfl | rfl | rfl | rfl | rfl | rfl | rfl
  · exact ror7_c x w
  · exact ror18_c x w
  · exact ror17_c x w
  · exact ror19_c x w
  · exact ror6_c x w
  · exact ror11_c x w
  · exact ror25_c x w
  · exact ror2_c x w
  · exact ror13_c x w
  · exact ror22_c x w

def t1F (a4 a5 a6 a7 kq xq : Int) : Int := (a7 + bits .xor .u32 (bits .xor .u32 (rorN 6 a4) (rorN 11 a4)) (rorN 25 a4) + bits .xor .u32 (bits .and .u32 a4 a5) (bits .and .u32 (bits .xor .u32 IntKind.u32.max a4) a6) + kq + xq) % 4294967296
def t2F (a0 a1 a2 : Int) : Int := (bits .xor .u32 (bits .xor .u32 (rorN 2 a0) (rorN 13 a0)) (rorN 22 a0) + bits .xor .u32 (bits .xor .u32 (bits .and .u32 a0 a1) (bits .and .u32 a0 a2)) (bits .and .u32 a1 a2)) % 4294967296
/-- one round. -/
def roundF (L : List Int) (k x : Int) : List Int :=
  [(t1F (L.getD 4 9) (L.getD 5 9) (L.getD 6 9) (L.getD 7 9) k x + t2F (L.getD 0 9) (L.getD 1 9) (L.getD 2 9)) % 4294967296, L.getD 0 9, L.getD 1 9, L.getD 2 9, (L.getD 3 9 + t1F (L.getD 4 9) (L.getD 5 9) (L.getD 6 9) (L.getD 7 9) k x) % 4294967296, L.getD 4 9, L.getD 5 9, L.getD 6 9]
/-- the state behind a block, the first i numbers of it. -/
def sumF (S V : List Int) : Nat → List Int
  | 0 => S
  | i + 1 => (sumF S V i).set i (((sumF S V i).getD i 9 + V.getD i 9) % 4294967296)
theorem sumF_len (S V : List Int) : ∀ i, (sumF S V i).length = S.length
  | 0 => rfl
  | i + 1 => by rw [sumF, List.length_set]; exact sumF_len S V i
def roundsF (S K Sc : List Int) : Nat → List Int
  | 0 => S
  | q + 1 => roundF (roundsF S K Sc q) (K.getD q 9) (Sc.getD q 9)

def mixF8 (S kl : List Int) (bs : List UInt8) : List Int := sumF S (roundsF S kl (schedF bs 64) 64) 8
theorem mixF8_len (S kl : List Int) (bs : List UInt8) (h : S.length = 8) : (mixF8 S kl bs).length = 8 := by rw [mixF8, sumF_len, h]

set_option maxRecDepth 100000 in
set_option maxHeartbeats 2000000 in
theorem mix_c (gs gk : Nat) (v : Value) (S kl : List Int) (bs : List UInt8) (w : World) (hs : w.heap[gs]? = some (.cells (EU.flat S).toArray 128 (0, 0))) (hS : S.length = 8)
    (hk : w.heap[gk]? = some (.cells (EU.flat kl).toArray 130 (0, 0))) (hkl : kl.length = 64) (hv : EB.Rd w v bs) (hl : bs.length = 64) :
    Calls Tryz.prog 57 #[.pointer (some ⟨gs, 0, none⟩), v, .pointer (some ⟨gk, 0, none⟩)] w fun e w' => e = .returned (.tuple #[]) ∧ Ext [gs] w w' ∧ w'.heap[gs]? = some (.cells (EU.flat (mixF8 S kl bs)).toArray 128 (0, 0)) := by
  have HS := Lib.hid hs
  have HK := Lib.hid hk
  have HV := Lib.hid hv
  have hgs := lt_of_blk hs
  have hgk := lt_of_blk hk
  have iS : (Tryz.prog.info? 128).map (·.size) = some (EU.flat S).toArray.size := by rw [rowU_size hS]; exact infoS
  have IS := Lib.hid iS
  clear hs hk hv iS
  go_enter Tryz.func57, Tryz.ntmps57
  go_wp2_with fail
  refine (sched_c v bs _ HV.out hl).mono ?_
  rintro e W1 ⟨rfl, hE1⟩
  rw [rowU_agg]
  obtain ⟨Sc, hSc⟩ : ∃ L, L = schedF bs 64 := ⟨_, rfl⟩
  rw [← hSc]
  have hScl : Sc.length = 64 := by rw [hSc]; exact schedF_len bs 64
  have HSC := Lib.hid hSc
  clear hSc
  go_wp2_with (with_reducible refine hold_at (d := 6) ?_)
  refine wpl_of rfl fun K hK => ?_
  go_simp
  rw [zeros64]
  refine hK _ _ ?_
  clear hK
  refine wpList_store_row rfl 130 (.tmp 6) (.tmp 15) rfl W1.heap.size _ rfl rfl 130 _ (heap_alloc_new W1 _) (by rw [rowU_size hScl]; exact infoW) (by rw [rowU_size hScl]; rfl) (rowU_one _) ?_
  have hgw := setRow_heap (W1.alloc (.cells (EU.flat (List.replicate 64 0)).toArray 130)) W1.heap.size _ (EU.flat Sc).toArray 130 _ (heap_alloc_new W1 _)
  have hE2 : Ext [] w ((W1.alloc (.cells (EU.flat (List.replicate 64 0)).toArray 130)).setRow W1.heap.size (EU.flat Sc).toArray) := (hE1.alloc _).setRow (.inr hE1.size) _
  have lw := hE1.size
  obtain ⟨gw, hgwe⟩ : ∃ g, g = W1.heap.size := ⟨_, rfl⟩
  simp only [← hgwe] at hgw hE2 lw ⊢
  have HGW := Lib.hid hgw
  clear hgw hgwe hE1
  revert hE2 HGW
  generalize World.setRow _ _ _ = W2
  intro hE2 HGW
  go_wp2_with (with_reducible refine hold_at (d := 18) ?_)
  unfold Hold
  refine wpList_load_row rfl 128 (.tmp 17) rfl gs rfl 128 _ (0, 0) _ (hE2.blk HS.out (by simp)) Tryz.underlying128 rfl IS.out ?_
  go_wp2_with (with_reducible refine hold_at (d := 7) ?_)
  refine wpl_of rfl fun K hK => ?_
  go_simp
  rw [zeros8]
  refine hK _ _ ?_
  clear hK
  refine wpList_store_row rfl 128 (.tmp 7) (.tmp 18) rfl W2.heap.size _ rfl rfl 128 _ (heap_alloc_new W2 _) IS.out (by rw [rowU_size hS]; rfl) (rowU_one _) ?_
  have hgv := setRow_heap (W2.alloc (.cells (EU.flat (List.replicate 8 0)).toArray 128)) W2.heap.size _ (EU.flat S).toArray 128 _ (heap_alloc_new W2 _)
  have hE23 : Ext [] W2 ((W2.alloc (.cells (EU.flat (List.replicate 8 0)).toArray 128)).setRow W2.heap.size (EU.flat S).toArray) := ((Ext.refl [] W2).alloc _).setRow (.inr (Nat.le_refl _)) _
  have lv := hE2.size
  have lwv := lt_of_blk HGW.out
  obtain ⟨gv, hgve⟩ : ∃ g, g = W2.heap.size := ⟨_, rfl⟩
  simp only [← hgve] at hgv hE23 lv lwv ⊢
  have HGV := Lib.hid hgv
  have hgw3 := hE23.blk HGW.out (by simp)
  have HGW3 := Lib.hid hgw3
  have hE3 := hE2.trans hE23
  clear hgv hgw3 hgve hE2 HGW
  revert hE3 hE23 HGW3 HGV
  generalize World.setRow _ _ _ = W3
  intro hE23 HGV HGW3 hE3
  clear hE23
  have nsv : gs ≠ gv := by omega
  have nkv : gk ≠ gv := by omega
  have nwv : gw ≠ gv := by omega
  have nsw : gs ≠ gw := by omega
  have lS : w.heap.size ≤ gv := lv
  clear lv lwv lw
  go_wp2_with fail
  go_loopw [8, 9, 10, 11, 12, 19] (fun _ _ _ _ _ c wr => ∃ (q : Nat) (L : List Int), q ≤ 64 ∧ c = .int .i64 q ∧ Ext [gv] W3 wr ∧ L.length = 8 ∧ Hid (L = roundsF S kl Sc q) ∧ Hid (wr.heap[gv]? = some (.cells (EU.flat L).toArray 128 (0, 0)))) (fun _ _ _ _ _ c _ => 64 - (intOf c).toNat)
  case atStart => exact ⟨0, S, by omega, rfl, Ext.refl _ _, hS, rfl, HGV⟩
  case round =>
    obtain ⟨q, L, hq, rfl, hE, hL, HL, HG⟩ := hrel
    by_cases hlt : q < 64
    · obtain ⟨a0, a1, a2, a3, a4, a5, a6, a7, hLe⟩ : ∃ a0 a1 a2 a3 a4 a5 a6 a7, L = [a0, a1, a2, a3, a4, a5, a6, a7] := by
        match L, hL with
        | [a0, a1, a2, a3, a4, a5, a6, a7], _ => exact ⟨a0, a1, a2, a3, a4, a5, a6, a7, rfl⟩
      have HG2 := HG.out
      rw [hLe] at HG2
      have c0 : wr.cell? ⟨gv, 0, none⟩ = some (.int .u32 a0) := rowU_get HG2 (j := 0) (by simp)
      have c1 : wr.cell? ⟨gv, 1, none⟩ = some (.int .u32 a1) := rowU_get HG2 (j := 1) (by simp)
      have c2 : wr.cell? ⟨gv, 2, none⟩ = some (.int .u32 a2) := rowU_get HG2 (j := 2) (by simp)
      have c3 : wr.cell? ⟨gv, 3, none⟩ = some (.int .u32 a3) := rowU_get HG2 (j := 3) (by simp)
      have c4 : wr.cell? ⟨gv, 4, none⟩ = some (.int .u32 a4) := rowU_get HG2 (j := 4) (by simp)
      have c5 : wr.cell? ⟨gv, 5, none⟩ = some (.int .u32 a5) := rowU_get HG2 (j := 5) (by simp)
      have c6 : wr.cell? ⟨gv, 6, none⟩ = some (.int .u32 a6) := rowU_get HG2 (j := 6) (by simp)
      have c7 : wr.cell? ⟨gv, 7, none⟩ = some (.int .u32 a7) := rowU_get HG2 (j := 7) (by simp)
      have ck := rowU_get (hE.blk (hE3.blk HK.out (by simp)) (by simpa using nkv)) (j := q) (by omega)
      have cw := rowU_get (hE.blk HGW3.out (by simpa using nwv)) (j := q) (by omega)
      have hfz : ∀ j, wr.frozen? ⟨gv, j, none⟩ = false := fun j => frozen_of_row _ _ _ _ _ HG2
      obtain ⟨kq, hkq⟩ : ∃ x, x = kl.getD q 9 := ⟨_, rfl⟩
      obtain ⟨xq, hxq⟩ : ∃ x, x = Sc.getD q 9 := ⟨_, rfl⟩
      rw [← hkq] at ck
      rw [← hxq] at cw
      have HLE := Lib.hid hLe
      have HKQ := Lib.hid hkq
      have HXQ := Lib.hid hxq
      have HG8 := Lib.hid HG2
      have z1 : (q : Int) < 64 := by omega
      have d0 : (0 : Int) ≤ (q : Int) := by omega
      have d1 : ((q : Nat) : Int).toNat = q := by omega
      clear hLe hkq hxq HG2
      go_wp2_with fail
      go_big_quiet (fail)
      go_wp2_with fail
      go_big_quiet ((go_at_call 89; refine (ror_c _ _ ?_ _).mono (fun _ _ h => ⟨h.1, _, h.2⟩); decide))
      go_wp2_with fail
      go_big_quiet ((go_at_call 89; refine (ror_c _ _ ?_ _).mono (fun _ _ h => ⟨h.1, _, h.2⟩); decide))
      generalize hT1 : (a7 + bits .xor .u32 (bits .xor .u32 (rorN 6 a4) (rorN 11 a4)) (rorN 25 a4) + bits .xor .u32 (bits .and .u32 a4 a5) (bits .and .u32 (bits .xor .u32 IntKind.u32.max a4) a6) + kq + xq) % 4294967296 = T1
      generalize hT2 : (bits .xor .u32 (bits .xor .u32 (rorN 2 a0) (rorN 13 a0)) (rorN 22 a0) + bits .xor .u32 (bits .xor .u32 (bits .and .u32 a0 a1) (bits .and .u32 a0 a2)) (bits .and .u32 a1 a2)) % 4294967296 = T2
      have HT1 := Lib.hid hT1
      have HT2 := Lib.hid hT2
      clear hT1 hT2 ck cw
      go_wp2_with fail
      go_roundw
      case rel =>
        refine ⟨q + 1, _, by omega, by go_num, ?_, ?_, ?_, row8_set ?_ hL _ _ _ _ _ _ _ _⟩
        · exact ((((((((hE.drewN _).setCell (.inl (by simp)) _).setCell (.inl (by simp)) _).setCell (.inl (by simp)) _).setCell (.inl (by simp)) _).setCell (.inl (by simp)) _).setCell (.inl (by simp)) _).setCell (.inl (by simp)) _).setCell (.inl (by simp)) _
        · rfl
        · show _ = roundF (roundsF S kl Sc q) _ _
          rw [← HL.out, HLE.out, ← HKQ.out, ← HXQ.out, ← HT1.out, ← HT2.out]
          rfl
        · exact HG.out
      case measure => simp [intOf]; omega
    · obtain rfl : q = 64 := by omega
      have z1 : ¬ (((64 : Nat) : Int) < 64) := by omega
      have hE3' : Ext [] w wr := hE3.trans' hE (by simp) (fun y hy => .inr (by simp at hy; omega))
      have HSr := Lib.hid (hE3'.blk HS.out (by simp))
      clear hE
      go_wp2_with fail
      go_loopw [13, 103] (fun _ c w2 => ∃ (i : Nat) (M : List Int), i ≤ 8 ∧ c = .int .i64 i ∧ Ext [gs] wr w2 ∧ M.length = 8 ∧ Hid (M = sumF S L i) ∧ Hid (w2.heap[gs]? = some (.cells (EU.flat M).toArray 128 (0, 0)))) (fun _ c _ => 8 - (intOf c).toNat)
      case atStart => exact ⟨0, S, by omega, rfl, Ext.refl _ _, hS, rfl, HSr⟩
      case round =>
        obtain ⟨i, M, hi, rfl, hE4, hM, HM, HGS⟩ := hrel
        by_cases hlt : i < 8
        · have z1 : (i : Int) < 8 := by omega
          have d0 : (0 : Int) ≤ (i : Int) := by omega
          have d1 : ((i : Nat) : Int).toNat = i := by omega
          have cs := rowU_get HGS.out (j := i) (by omega)
          have cv := rowU_get (hE4.blk HG.out (by simpa using nsv.symm)) (j := i) (by omega)
          have hfz : ∀ j, wr.frozen? ⟨gs, j, none⟩ = false := fun j => frozen_of_row _ _ _ _ _ HGS.out
          obtain ⟨x, hx⟩ : ∃ x, x = M.getD i 9 := ⟨_, rfl⟩
          obtain ⟨y, hy⟩ : ∃ x, x = L.getD i 9 := ⟨_, rfl⟩
          rw [← hx] at cs
          rw [← hy] at cv
          have HX := Lib.hid hx
          have HY := Lib.hid hy
          clear hx hy
          go_wp2_with fail
          go_still_tail 11, (by kernel_rfl)
          change wpList _ _ _ _ _ wr.drew
          go_wp2_with fail
          go_roundw
          case rel =>
            refine ⟨i + 1, _, by omega, by go_num, (hE4.setCell (.inl (by simp)) _).drew, ?_, ?_, rowU_set HGS.out i _⟩
            · rw [List.length_set]; exact hM
            · show _ = sumF S L (i + 1)
              rw [sumF, ← HM.out, ← HX.out, ← HY.out]
          case measure => simp [intOf]; omega
        · obtain rfl : i = 8 := by omega
          have z1 : ¬ (((8 : Nat) : Int) < 8) := by omega
          have hfin : M = mixF8 S kl bs := by rw [HM.out, HL.out, HSC.out]; rfl
          have HFIN := Lib.hid hfin
          clear hfin
          go_wp2
          go_end0
          refine ⟨rfl, (hE3'.nil).trans hE4, ?_⟩
          rw [← HFIN.out]
          exact HGS.out

end Go.Proofs.YtgfajlaibgbdoaaGreat

namespace Go.Proofs.YtgfajlaibgbdoaaGreat
open Go.RowKit

theorem empty_bytes (W : World) : EB.Ow 5 (W.alloc (.cells #[] 5)) (.slice (some ⟨W.heap.size, 0, none⟩) 0 0) [] := .inr ⟨W.heap.size, 0, 0, [], rfl, heap_alloc_new _ _, by simp, by simp, rfl⟩

theorem one_byte (W : World) (z : Int) (b : UInt8) (hz : z = b.toNat) : EB.Rd (W.alloc (.cells #[.int .u8 z] 5)) (.slice (some ⟨W.heap.size, 0, none⟩) 1 1) [b] := by
  subst hz
  refine .inr ⟨W.heap.size, 0, 1, rfl, Nat.le_refl _, by simp, fun j u hj => ?_⟩
  rw [cell_of_row _ W.heap.size _ _ _ _ (heap_alloc_new _ _)]
  match j, hj with
  | 0, hj => exact hj
  | j + 1, hj => simp [EB, Enc.flat] at hj

theorem bclone_c (v : Value) (s : List UInt8) (w : World) (hl : s.length ≤ 1000000) (hv : EB.Rd w v s) :
    Calls Tryz.prog 85 #[v] w (ClonePost EB 5 v s w) := by
  rcases hv with ⟨rfl, rfl⟩ | ⟨g, o, cap, rfl, h1, hg, hc⟩
  · have hn := fun w => Lib.run_eql_slice_nil (P := Tryz.prog) w 40 5 none 0 0 0 0 Tryz.underlying40
    go_enter Tryz.func85, Tryz.ntmps85
    go_wp2
    go_ret
    exact ⟨_, rfl, .inl ⟨rfl, rfl⟩, Ext.refl _ _, by simp [blkL], by simp⟩
  · have hn := fun w => Lib.run_eql_slice_nil (P := Tryz.prog) w 40 5 (some ⟨g, o, none⟩) s.length cap 0 0 Tryz.underlying40
    have hv0 : EB.Rd w (.slice (some ⟨g, o, none⟩) s.length cap) s := .inr ⟨g, o, cap, rfl, h1, hg, hc⟩
    have HV := Lib.hid hv0
    clear hv0 hc
    go_enter Tryz.func85, Tryz.ntmps85
    go_wp2_with (with_reducible refine hold_at (d := 7) ?_)
    refine wpl_of rfl fun K hK => opw_append (E := EB) (T := 5) (zero := 0) (bytes := 1) (v := .slice (some ⟨w.heap.size, 0, none⟩) 0 0) (xs := []) (ys := s) tiB Tryz.underlying40 Tryz.underlying40 rfl rfl rfl (empty_bytes _) (HV.out.ext0 ((Ext.refl _ _).alloc _)) (by simp; omega) (by simp; omega) ?_
    intro v' w' how hext hnear hnn
    refine hK _ _ ?_
    clear hK
    go_wp2
    go_ret
    refine ⟨v', rfl, how, ((Ext.refl [] w).alloc _).trans' hext (by simp) (by simp [blkL]), ?_, ?_⟩
    · intro x hx
      rcases hnear x hx with h | h
      · simp [blkL] at h; omega
      · simp at h; omega
    · exact ⟨(fun h => by cases h), (fun h => by cases (hnn.2 h).1)⟩

/-- how many noughts a message gets. -/
def padZ (n : Nat) : Nat := (119 - n % 64) % 64
def lenB (n i : Nat) : UInt8 := UInt8.ofNat (n * 8 / 2 ^ (56 - 8 * i) % 256)
theorem lenB_val (n i : Nat) : (n : Int) * 8 / 2 ^ (56 - 8 * i) % 256 = ((lenB n i).toNat : Int) := by
  have e : (lenB n i).toNat = n * 8 / 2 ^ (56 - 8 * i) % 256 := by simp only [lenB, UInt8.toNat_ofNat', Nat.reducePow, Nat.mod_mod]
  rw [e, Int.natCast_emod, Int.natCast_ediv, Int.natCast_mul, Int.natCast_pow]
  rfl
def padF (bs : List UInt8) : List UInt8 := bs ++ [128] ++ List.replicate (padZ bs.length) 0 ++ (List.range 8).map (lenB bs.length)
theorem padF_len (bs : List UInt8) : (padF bs).length = bs.length + 9 + padZ bs.length := by simp [padF]; omega
theorem padF_mod (bs : List UInt8) : (padF bs).length % 64 = 0 := by rw [padF_len, padZ]; omega

def lenV : Value → Nat
  | .slice _ n _ => n
  | _ => 0

set_option maxRecDepth 100000 in
set_option maxHeartbeats 1000000 in
theorem pad_c (v : Value) (bs : List UInt8) (w : World) (hv : EB.Rd w v bs) (hl : bs.length ≤ 100000) :
    Calls Tryz.prog 56 #[v] w fun e w' => ∃ v', e = .returned v' ∧ EB.Ow 5 w' v' (padF bs) ∧ Ext [] w w' ∧ ∀ y ∈ blkL v', w.heap.size ≤ y := by
  obtain ⟨p, cap, rfl, _⟩ := hv.len_eq
  have HV := Lib.hid hv
  clear hv
  go_enter Tryz.func56, Tryz.ntmps56
  go_wp2_with fail
  refine (bclone_c _ bs _ (by omega) HV.out).mono ?_
  rintro e W1 ⟨v1, rfl, how1, hE1, hn1, _⟩
  go_wp2_with (with_reducible refine hold_at (d := 9) ?_)
  refine wpl_of rfl fun K hK => opw_append (E := EB) (T := 5) (zero := 0) (bytes := 1) (v := v1) (xs := bs) (ys := [128]) tiB Tryz.underlying40 Tryz.underlying40 rfl rfl rfl ((how1).ext0 ((Ext.refl [] _).alloc _)) (one_byte _ _ _ rfl) (by simp; omega) (by simp; omega) ?_
  intro v2 W2 how2 hE2 hnear2 _
  refine hK _ _ ?_
  clear hK
  have hE12 : Ext [] w W2 := (hE1.alloc _).trans' hE2 (by simp) (fun y hy => .inr (hn1 y hy))
  have hn2 : ∀ y ∈ blkL v2, w.heap.size ≤ y := fun y hy => by
    rcases hnear2 y hy with h | h
    · exact hn1 y h
    · have := hE1.size; simp at h; omega
  have HO2 := Lib.hid how2
  clear how1 hE1 hn1 how2 hE2 hnear2
  obtain ⟨n, hn⟩ : ∃ n, n = bs.length := ⟨_, rfl⟩
  have HN := Lib.hid hn
  obtain ⟨Z, hZ⟩ : ∃ Z, Z = padZ n := ⟨_, rfl⟩
  have hZ1 : Z < 64 := by rw [hZ, padZ]; omega
  have hZ2 : (n + 1 + Z) % 64 = 56 := by rw [hZ, padZ]; omega
  have hZ3 : ∀ j, j < Z → (n + 1 + j) % 64 ≠ 56 := fun j hj => by rw [hZ, padZ] at hj; omega
  have HZ := Lib.hid hZ
  have HZ3 := Lib.hid hZ3
  have hbl := hl
  rw [← hn] at hl
  clear hZ hZ3
  rw [← hn]
  clear hn
  go_wp2_with fail
  go_loopw [3] (fun m wr => ∃ j : Nat, j ≤ Z ∧ Ext [] w wr ∧ Hid (EB.Ow 5 wr m (bs ++ [128] ++ List.replicate j 0) ∧ ∀ y ∈ blkL m, w.heap.size ≤ y)) (fun m _ => Z + n + 1 - lenV m)
  case atStart => exact ⟨0, Nat.zero_le _, hE12, by simpa using HO2.out, hn2⟩
  case round =>
    obtain ⟨j, hj, hE, HV3⟩ := hrel
    obtain ⟨p3, c3, e3, _⟩ := HV3.out.1.rd.len_eq
    have hlen : (bs ++ [128] ++ List.replicate j (0 : UInt8)).length = n + 1 + j := by simp [← HN.out]; omega
    rw [hlen] at e3
    obtain ⟨l, hle⟩ : ∃ l, l = n + 1 + j := ⟨_, rfl⟩
    rw [← hle] at e3
    subst e3
    have HLE := Lib.hid hle
    have hll : l ≤ 200000 := by omega
    clear hle
    by_cases hjz : j < Z
    · have hm := HZ3.out j hjz
      rw [← HLE.out] at hm
      have zt : ((l : Nat) : Int).tmod 64 = ((l % 64 : Nat) : Int) := by rw [Int.tmod_eq_emod_of_nonneg (by omega)]; omega
      have zt2 : ((l : Nat) : Int) % 64 = ((l % 64 : Nat) : Int) := by omega
      obtain ⟨r, hr⟩ : ∃ r, r = l % 64 := ⟨_, rfl⟩
      rw [← hr] at hm zt zt2
      have hr1 : ¬ ((r : Int) = 56) := by omega
      have hr2 : ((r : Int) == 56) = false := by simpa using hr1
      have hr3 : ((r : Int) != 56) = true := by simpa using hr1
      clear hr hm
      go_wp2_with (with_reducible refine hold_at (d := 16) ?_)
      refine wpl_of rfl fun K hK => opw_append (E := EB) (T := 5) (zero := 0) (bytes := 1) (v := .slice p3 l c3) (xs := bs ++ [128] ++ List.replicate j 0) (ys := [0]) tiB Tryz.underlying40 Tryz.underlying40 rfl rfl rfl ((HV3.out.1).ext0 ((Ext.refl [] _).alloc _)) (one_byte _ _ _ rfl) (by simp; omega) (by simp; omega) ?_
      intro v4 W4 how4 hE4 hnear4 _
      refine hK _ _ ?_
      clear hK
      have hw4 : Ext [] w W4 := (hE.alloc _).trans' hE4 (by simp) (fun y hy => .inr (HV3.out.2 y hy))
      have hn4 : ∀ y ∈ blkL v4, w.heap.size ≤ y := fun y hy => by
        rcases hnear4 y hy with h | h
        · exact HV3.out.2 y h
        · have := hE.size; simp at h; omega
      have hl4 := how4.rd.len_eq
      have HO4 := Lib.hid how4
      have HN4 := Lib.hid hn4
      clear how4 hE4 hnear4 hn4
      go_wp2_with fail
      go_roundw
      case rel => exact ⟨j + 1, by omega, hw4, by rw [List.replicate_succ', ← List.append_assoc]; exact HO4.out, HN4.out⟩
      case measure =>
        obtain ⟨p4, c4, e4, _⟩ := hl4
        rw [e4]
        have e5 : (bs ++ [128] ++ List.replicate j (0 : UInt8) ++ [0]).length = l + 1 := by rw [List.length_append, hlen, ← HLE.out]; rfl
        rw [e5]
        simp only [lenV]
        have := HLE.out
        omega
    · obtain rfl : j = Z := by omega
      rw [← HLE.out] at hZ2
      have zt : ((l : Nat) : Int).tmod 64 = 56 := by rw [Int.tmod_eq_emod_of_nonneg (by omega)]; omega
      have hr2 : ((56 : Int) != 56) = false := rfl
      have e8 : IntKind.u64.wrap (n : Int) = n := IntWalk.u64_in _ (by omega)
      have e9 : IntKind.u64.wrap ((n : Int) * 8) = (n : Int) * 8 := IntWalk.u64_in _ (by omega)
      have e9' : ((n : Int) * 8) % 18446744073709551616 = (n : Int) * 8 := by omega
      go_wp2_with fail
      go_loopw [3, 5] (fun m c wr => ∃ i : Nat, i ≤ 8 ∧ c = .int .i64 (56 - 8 * (i : Int)) ∧ Ext [] w wr ∧ Hid (EB.Ow 5 wr m (bs ++ [128] ++ List.replicate j 0 ++ (List.range i).map (lenB n)) ∧ ∀ y ∈ blkL m, w.heap.size ≤ y)) (fun _ c _ => (intOf c + 8).toNat)
      case atStart => exact ⟨0, by omega, rfl, hE, by simpa using HV3.out.1, HV3.out.2⟩
      case round =>
        obtain ⟨i, hi, rfl, hE5, HV5⟩ := hrel
        by_cases hlt : i < 8
        · obtain ⟨p5, c5, e5, _⟩ := HV5.out.1.rd.len_eq
          obtain ⟨l5, hl5⟩ : ∃ l, l = (bs ++ [128] ++ List.replicate j (0 : UInt8) ++ (List.range i).map (lenB n)).length := ⟨_, rfl⟩
          rw [← hl5] at e5
          subst e5
          have hl5' : l5 ≤ 200000 := by rw [hl5]; simp; omega
          have z1 : (0 : Int) ≤ 56 - 8 * (i : Int) := by omega
          have z2 : ¬ (56 - 8 * (i : Int) < 0) := by omega
          have z3 : 56 - 8 * (i : Int) < 64 := by omega
          have z4 : (56 - 8 * (i : Int)).toNat = 56 - 8 * i := by omega
          have HL5 := Lib.hid hl5
          clear hl5
          go_wp2_with (with_reducible refine hold_at (d := 31) ?_)
          refine wpl_of rfl fun K hK => opw_append (E := EB) (T := 5) (zero := 0) (bytes := 1) (v := .slice p5 l5 c5) (xs := bs ++ [128] ++ List.replicate j 0 ++ (List.range i).map (lenB n)) (ys := [lenB n i]) tiB Tryz.underlying40 Tryz.underlying40 rfl rfl rfl ((HV5.out.1).ext0 ((Ext.refl [] _).alloc _)) (one_byte _ _ _ (lenB_val n i)) (by simp; omega) (by simp; omega) ?_
          intro v6 W6 how6 hE6 hnear6 _
          refine hK _ _ ?_
          clear hK
          have hw6 : Ext [] w W6 := (hE5.alloc _).trans' hE6 (by simp) (fun y hy => .inr (HV5.out.2 y hy))
          have hn6 : ∀ y ∈ blkL v6, w.heap.size ≤ y := fun y hy => by
            rcases hnear6 y hy with h | h
            · exact HV5.out.2 y h
            · have := hE5.size; simp at h; omega
          have HO6 := Lib.hid how6
          have HN6 := Lib.hid hn6
          clear how6 hE6 hnear6 hn6
          go_wp2_with fail
          go_roundw
          case rel => exact ⟨i + 1, by omega, by go_num, hw6, by rw [List.range_succ, List.map_append, ← List.append_assoc]; exact HO6.out, HN6.out⟩
          case measure => simp [intOf]; omega
        · obtain rfl : i = 8 := by omega
          have hfin : bs ++ [128] ++ List.replicate j (0 : UInt8) ++ (List.range 8).map (lenB n) = padF bs := by rw [HZ.out, HN.out]; rfl
          have HFIN := Lib.hid hfin
          clear hfin
          go_wp2
          go_ret
          exact ⟨_, rfl, by rw [← HFIN.out]; exact HV5.out.1, hE5, HV5.out.2⟩

end Go.Proofs.YtgfajlaibgbdoaaGreat

