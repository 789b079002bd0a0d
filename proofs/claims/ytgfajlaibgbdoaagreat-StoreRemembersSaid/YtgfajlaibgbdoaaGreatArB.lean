
import Derived.Test.YtgfajlaibgbdoaaGreatAr
import Derived.Test.YtgfajlaibgbdoaaGreatSo
namespace Go.Proofs.YtgfajlaibgbdoaaGreat
open Go.RowKit

theorem one_rdI {T : TypeId} (W0 : World) (x : Int) : EI.Rd (W0.alloc (.cells #[.int .i64 x] T)) (.slice (some ⟨W0.heap.size, 0, none⟩) 1 1) [x] := by
  refine .inr ⟨W0.heap.size, 0, 1, rfl, Nat.le_refl _, by simp, fun j u hj => ?_⟩
  rw [cell_of_row _ W0.heap.size _ _ _ _ (heap_alloc_new _ _)]
  match j, hj with
  | 0, hj => exact hj
  | j + 1, hj => simp [EI, Enc.flat] at hj

theorem tmodD (a D : Nat) : ((a : Nat) : Int).tmod (D : Int) = ((a % D : Nat) : Int) := by
  rw [Int.tmod_eq_emod_of_nonneg (by omega)]; omega
theorem tdivD (a D : Nat) : ((a : Nat) : Int).tdiv (D : Int) = ((a / D : Nat) : Int) := by
  rw [Int.tdiv_eq_ediv_of_nonneg (by omega)]; omega

set_option maxRecDepth 100000 in
set_option maxHeartbeats 1000000 in
theorem ardrives_c (a r gg k S F addr size : Nat) (ws : List (Nat × Nat × List UInt8)) (w : World) (hr : RackR w r gg (k + 4) S ws) (ha : ArrR w a r (k + 4) F) (hk1 : 1 ≤ k) (hk : k ≤ 8) (hS : S ≤ 2000) (hF : F ≤ S) (hs1 : 1 ≤ size) (hs : size ≤ 1024) (had : addr + costF k size ≤ (k + 4) * (S - F)) :
    Calls Tryz.prog 47 #[.pointer (some ⟨a, 0, none⟩), .int .i64 addr, .int .i64 size] w fun e w' => ∃ v l, e = .returned (.tuple #[v, .int .i64 0]) ∧ EI.Rd w' v l ∧ l.length ≤ 12 ∧ (∀ x ∈ l, 0 ≤ x ∧ x < ((k + 4 : Nat) : Int)) ∧ (∀ y ∈ blkL v, w.heap.size ≤ y) ∧ Ext [] w w' := by
  have HA := Lib.hid ha
  have HR := Lib.hid hr
  have hcb := costF_bd k size hs1 hs
  obtain ⟨C, hC⟩ : ∃ C, C = costF k size := ⟨_, rfl⟩
  obtain ⟨A, hA⟩ : ∃ C, C = (k + 4) * (S - F) := ⟨_, rfl⟩
  have hA2 : (k + 4) * (S - F) ≤ 12 * 2000 := Nat.mul_le_mul (by omega) (by omega)
  rw [← hC] at hcb had
  rw [← hA] at hA2 had
  have m1 : ¬ ((addr : Int) < 0) := by omega
  have m2 : IntKind.i64.wrap ((A : Int) - (C : Int)) = (A : Int) - (C : Int) := IntWalk.i64_in _ (by omega)
  have m3 : ¬ ((A : Int) - (C : Int) < (addr : Int)) := by omega
  have HC := Lib.hid hC
  have HAA := Lib.hid hA
  obtain ⟨D, hD⟩ : ∃ D, D = k + 4 := ⟨_, rfl⟩
  have hD5 : 5 ≤ D ∧ D ≤ 12 := by omega
  rw [← hD] at ha hr ⊢
  clear hC hA hD
  go_enter Tryz.func47, Tryz.ntmps47
  go_wp2_with fail
  refine (arcost_c a r k F size _ HA.out (by omega) hs1 hs).mono ?_
  rintro e W1 ⟨rfl, hE1⟩
  rw [← HC.out]
  go_wp2_with fail
  refine (arcells_c a r gg (k + 4) S F ws _ (HR.out.ext0 hE1) (HA.out.ext0 hE1) (by omega) hS hF).mono ?_
  rintro e W2 ⟨rfl, hE2⟩
  rw [← HAA.out]
  have hE02 := hE1.trans hE2
  have c0 : w.cell? ⟨a, 1, none⟩ = some (.int .i64 D) := by rw [cell_of_row w a 1 _ _ _ ha]; rfl
  have c1 := hE02.cell c0 (by simp)
  have HC0 := Lib.hid c0
  obtain ⟨M, hM⟩ : ∃ M, M = min C D := ⟨_, rfl⟩
  have hmin : min (C : Int) (D : Int) = (M : Int) := by omega
  have hM12 : 1 ≤ M ∧ M ≤ 12 := by omega
  clear ha hr hE1 hE2 hM c0
  go_wp2_with fail
  go_loopw [10, 11, 38] (fun ov _ cv wr => ∃ (c : Nat) (l : List Int), c ≤ M ∧ cv = .int .i64 c ∧ l.length = c ∧ Ext [] w wr ∧ Hid (EI.Ow 3 wr ov l ∧ (∀ x ∈ l, 0 ≤ x ∧ x < (D : Int)) ∧ ∀ y ∈ blkL ov, w.heap.size ≤ y)) (fun _ _ cv _ => M - (intOf cv).toNat)
  case atStart => exact ⟨0, [], by omega, rfl, rfl, hE02, .inl ⟨rfl, rfl⟩, by simp, by simp [blkL]⟩
  case round =>
    obtain ⟨c, l, hc, rfl, hlc, hE, HO⟩ := hrel
    clear c1
    by_cases hlt : c < M
    · have z1 : (c : Int) < (M : Int) := by omega
      have c1' := hE.cell HC0.out (by simp)
      have w1 : IntKind.i64.wrap ((addr : Int) + (c : Int)) = ((addr + c : Nat) : Int) := by rw [IntWalk.i64_in _ (by omega)]; omega
      have w2 := tmodD (addr + c) D
      have hmod : (addr + c) % D < D := Nat.mod_lt _ (by omega)
      obtain ⟨q, hq⟩ : ∃ q, q = addr + c := ⟨_, rfl⟩
      rw [← hq] at w1 w2 hmod
      obtain ⟨x, hx⟩ : ∃ x, x = q % D := ⟨_, rfl⟩
      rw [← hx] at w2 hmod
      have w3 : ¬ ((D : Int) = 0) := by omega
      have w4 : ((D : Int) == 0) = false := by simp; omega
      obtain ⟨pv, cv, rfl, _⟩ := HO.out.1.rd.len_eq
      obtain ⟨nl, hnl⟩ : ∃ n, n = l.length := ⟨_, rfl⟩
      rw [← hnl] at HO hlc ⊢
      have HNL := Lib.hid hnl
      clear hnl hq hx
      go_wp2_with (with_reducible refine hold_at (d := 51) ?_)
      refine wpl_of rfl fun K hK => opw_append (E := EI) (T := 3) (zero := 0) (bytes := 8) (v := .slice pv nl cv) (xs := l) (ys := [(x : Int)]) tiI Tryz.underlying22 Tryz.underlying22 rfl rfl rfl (HO.out.1.ext0 ((Ext.refl [] _).alloc _)) (one_rdI _ _) (by rw [← HNL.out]; simp; omega) (by rw [← HNL.out]; simp; omega) ?_
      intro v7 W7 how7 hE7 hnear7 _
      refine hK _ _ ?_
      clear hK
      have hw7 : Ext [] w W7 := (hE.alloc _).trans' hE7 (by simp) (fun y hy => .inr (HO.out.2.2 y hy))
      have hn7 : ∀ y ∈ blkL v7, w.heap.size ≤ y := fun y hy => by
        rcases hnear7 y hy with h | h
        · exact HO.out.2.2 y h
        · have := hE.size; simp at h; omega
      have HO7 := Lib.hid how7
      have HN7 := Lib.hid hn7
      clear how7 hE7 hnear7 hn7 c1'
      go_wp2_with fail
      go_roundw
      case rel => exact ⟨c + 1, l ++ [(x : Int)], by omega, by go_num, by rw [List.length_append, ← HNL.out, hlc]; rfl, hw7, HO7.out, fun y hy => by
        rcases List.mem_append.1 hy with h | h
        · exact HO.out.2.1 y h
        · simp at h; omega, HN7.out⟩
      case measure => simp [intOf]; omega
    · obtain rfl : c = M := by omega
      have z1 : ¬ ((c : Int) < (c : Int)) := by omega
      go_wp2_with fail
      obtain ⟨ho, hgood, hnew⟩ := HO.out
      rcases ho with ⟨rfl, h⟩ | ⟨g, i, cap, L, rfl, hg, h1, h2, h3⟩
      · rw [h] at hlc; simp at hlc; omega
      simp only [EI, Nat.mul_one] at hnew ⊢
      have hgd : Good (fun x => 0 ≤ x ∧ x < (D : Int)) L i l.length := fun q hq => by
        have e : L.getD (i + q) 0 = l.getD q 0 := by
          have h4 : ((L.drop i).take l.length)[q]? = l[q]? := by rw [h3]
          rw [List.getElem?_take, if_pos hq, List.getElem?_drop] at h4
          rw [List.getD_eq_getElem?_getD, List.getD_eq_getElem?_getD, h4]
        rw [e]
        exact hgood _ (by simp [List.getD, hq])
      have hEg := hnew g (by simp [blkL])
      refine (sort_c (fun x => 0 ≤ x ∧ x < (D : Int)) g i l.length cap L wr hg (by omega) (by omega) hgd).mono ?_
      rintro e W5 ⟨rfl, L', hg5, hl5, hgd5, hE5⟩
      have hw5 : Ext [] w W5 := hE.trans' hE5 (by simp) (fun y hy => .inr (by simp at hy; omega))
      have hlt5 := lt_of_blk hg5
      have hl6 : l.length ≤ 12 := by omega
      have hl7 : i + l.length ≤ L'.length := by omega
      obtain ⟨n, hn⟩ : ∃ n, n = l.length := ⟨_, rfl⟩
      rw [← hn] at h1 hgd5 hl6 hl7 ⊢
      have HG5 := Lib.hid hg5
      have HGD5 := Lib.hid hgd5
      clear hg hg5 hgd5 hgd hgood h3 hn hE5 hl5
      go_wp2
      go_ret2
      refine ⟨_, (L'.drop i).take n, rfl, .inr ⟨g, i, cap, ?_, ?_, hlt5, fun j u hj => ?_⟩, ?_, fun x hx => ?_, fun y hy => by simp [blkL] at hy; subst hy; exact hEg, hw5⟩
      · simp; omega
      · simp; omega
      · rw [cell_of_row _ g _ _ _ _ HG5.out]
        rw [flatI, List.getElem?_map, List.getElem?_take] at hj
        split at hj
        · rw [List.getElem?_drop] at hj
          simpa [flatI] using hj
        · cases hj
      · simp; omega
      · obtain ⟨q, hq, he⟩ := List.getElem_of_mem hx
        simp at hq
        have h := HGD5.out q (by omega)
        rw [List.getElem_take, List.getElem_drop] at he
        rw [List.getD_eq_getElem?_getD, List.getElem?_eq_getElem (by omega), he] at h
        exact h

end Go.Proofs.YtgfajlaibgbdoaaGreat

namespace Go.Proofs.YtgfajlaibgbdoaaGreat
open Go.RowKit

set_option maxRecDepth 100000 in
set_option maxHeartbeats 1000000 in
theorem argone_c (a r gg D S F : Nat) (ws : List (Nat × Nat × List UInt8)) (v : Value) (l : List Int) (w : World) (hr : RackR w r gg D S ws) (ha : ArrR w a r D F) (hv : EI.Rd w v l) (hl : l.length ≤ 100) (hd : ∀ x ∈ l, 0 ≤ x ∧ x < (D : Int)) :
    Calls Tryz.prog 48 #[.pointer (some ⟨a, 0, none⟩), v] w fun e w' => e = .returned (.tuple #[.slice none 0 0, .int .i64 0]) ∧ w' = w := by
  have HR := Lib.hid hr
  have HD := Lib.hid hd
  have c0 : w.cell? ⟨a, 0, none⟩ = some (.pointer (some ⟨r, 0, none⟩)) := by rw [cell_of_row w a 0 _ _ _ ha]; rfl
  obtain ⟨p, c, rfl, _⟩ := hv.len_eq
  obtain ⟨n, hn⟩ : ∃ n, n = l.length := ⟨_, rfl⟩
  rw [← hn] at hv hl ⊢
  have HV := Lib.hid hv
  have HN := Lib.hid hn
  clear hr ha hv hd hn
  go_enter Tryz.func48, Tryz.ntmps48
  go_wp2_with fail
  go_loopw [6, 8, 11] (fun ov _ iv wr => ∃ q : Nat, q ≤ n ∧ iv = .int .i64 q ∧ ov = .slice none 0 0 ∧ wr = w) (fun _ _ iv _ => n - (intOf iv).toNat)
  case atStart => exact ⟨0, Nat.zero_le _, rfl, rfl, rfl⟩
  case round =>
    obtain ⟨q, hq, rfl, rfl, rfl⟩ := hrel
    by_cases hlt : q < n
    · have z1 : (q : Int) < (n : Int) := by omega
      obtain ⟨g, o, rfl⟩ : ∃ g o, p = some ⟨g, o, none⟩ := by
        rcases HV.out with ⟨_, h⟩ | ⟨g, o, c, h, _⟩
        · have := HN.out; rw [h] at this; simp at this; omega
        · simp only [Value.slice.injEq] at h; exact ⟨g, o, h.1⟩
      have hcell := EI_cell HV.out q (by rw [← HN.out]; exact hlt)
      have hx := HD.out (l.getD q 0) (by have := HN.out; simp [List.getD, show q < l.length by omega])
      obtain ⟨x, hx0⟩ : ∃ x : Nat, l.getD q 0 = x := ⟨(l.getD q 0).toNat, by omega⟩
      rw [hx0] at hcell hx
      clear hx0
      go_wp2_with fail
      refine (rkgone_c r gg D S ws x _ HR.out (by omega)).mono ?_
      rintro e W2 ⟨rfl, rfl⟩
      go_wp2_with fail
      go_roundw
      case rel => exact ⟨q + 1, by omega, by go_num, rfl, trivial⟩
      case measure => simp [intOf]; omega
    · have z1 : ¬ ((q : Int) < (n : Int)) := by omega
      go_wp2
      go_ret2
      exact ⟨rfl, rfl⟩

set_option maxRecDepth 100000 in
theorem arplace_c (a r D F x : Nat) (w : World) (ha : ArrR w a r D F) (hD : 1 ≤ D) (hF : F ≤ 2000) (hx : x ≤ 100000) :
    Calls Tryz.prog 69 #[.pointer (some ⟨a, 0, none⟩), .int .i64 x] w fun e w' => e = .returned (.tuple #[.int .i64 ((x % D : Nat) : Int), .int .i64 ((F + x / D : Nat) : Int)]) ∧ Ext [] w w' := by
  have c1 : w.cell? ⟨a, 1, none⟩ = some (.int .i64 D) := by rw [cell_of_row w a 1 _ _ _ ha]; rfl
  have c2 : w.cell? ⟨a, 2, none⟩ = some (.int .i64 F) := by rw [cell_of_row w a 2 _ _ _ ha]; rfl
  have w1 := tmodD x D
  have w2 := tdivD x D
  have hq : x / D ≤ x := Nat.div_le_self _ _
  obtain ⟨q, hq'⟩ : ∃ q, q = x / D := ⟨_, rfl⟩
  obtain ⟨m, hm⟩ : ∃ q, q = x % D := ⟨_, rfl⟩
  rw [← hq'] at w2 hq ⊢
  rw [← hm] at w1 ⊢
  have w3 : IntKind.i64.wrap ((F : Int) + (q : Int)) = ((F + q : Nat) : Int) := by rw [IntWalk.i64_in _ (by omega)]; omega
  obtain ⟨s, hs⟩ : ∃ s, s = F + q := ⟨_, rfl⟩
  rw [← hs] at w3 ⊢
  have w4 : IntKind.i64.wrap ((q : Nat) : Int) = (q : Int) := IntWalk.i64_in _ (by omega)
  have z0 : ¬ ((D : Int) = 0) := by omega
  have z1 : ((D : Int) == 0) = false := by simp; omega
  clear ha hq' hm hs
  go_enter Tryz.func69, Tryz.ntmps69
  go_wp2_with fail
  go_big_quiet (fail)
  go_wp2
  go_ret2
  exact ⟨rfl, (Ext.refl _ _).drewN _⟩

set_option maxRecDepth 100000 in
set_option maxHeartbeats 1000000 in
theorem arput_c (a r gg D S F x : Nat) (ws : List (Nat × Nat × List UInt8)) (v : Value) (bs : List UInt8) (w : World) (hr : RackR w r gg D S ws) (ha : ArrR w a r D F) (hD : 1 ≤ D) (hF : F ≤ S) (hS : S ≤ 2000) (hx : x < D * (S - F)) (hx2 : x ≤ 100000) (hv : EB.Rd w v bs) (hbl : bs.length = 128) (hwl : ws.length ≤ 1000000) :
    Calls Tryz.prog 50 #[.pointer (some ⟨a, 0, none⟩), .int .i64 x, v] w fun e w' => e = .returned (.int .i64 0) ∧ RackR w' r gg D S (ws ++ [(x % D, F + x / D, bs)]) ∧ ExtT [r] [218] w w' := by
  have HR := Lib.hid hr
  have HA := Lib.hid ha
  have HV := Lib.hid hv
  have hm1 : x % D < D := Nat.mod_lt _ (by omega)
  have hm2 : F + x / D < S := by
    have : x / D < S - F := Nat.div_lt_of_lt_mul hx
    omega
  have c0 : w.cell? ⟨a, 0, none⟩ = some (.pointer (some ⟨r, 0, none⟩)) := by rw [cell_of_row w a 0 _ _ _ ha]; rfl
  clear hr ha hv hx
  have hpl := arplace_c a r D F x w HA.out hD (by omega) hx2
  obtain ⟨q, hq⟩ : ∃ q, q = F + x / D := ⟨_, rfl⟩
  obtain ⟨m, hm⟩ : ∃ q, q = x % D := ⟨_, rfl⟩
  rw [← hq] at hm2 hpl ⊢
  rw [← hm] at hm1 hpl ⊢
  have HPL := Lib.hid hpl
  clear hq hm hpl
  go_enter Tryz.func50, Tryz.ntmps50
  go_wp2_with fail
  refine HPL.out.mono ?_
  rintro e W1 ⟨rfl, hE1⟩
  have c0' := hE1.cell c0 (by simp)
  have HR1 := Lib.hid (HR.out.ext0 hE1)
  have HV1 := Lib.hid (HV.out.ext0 hE1)
  clear c0
  go_wp2_with fail
  refine (rkgone_c r gg D S ws m _ HR1.out hm1).mono ?_
  rintro e W2 ⟨rfl, rfl⟩
  go_wp2_with fail
  refine (rkwrite_c r gg D S ws m q v bs _ HR1.out hm1 hm2 HV1.out hbl hwl).mono ?_
  rintro e W3 ⟨rfl, hr3, hE3⟩
  have HR3 := Lib.hid hr3
  clear hr3 c0'
  go_wp2
  go_ret
  exact ⟨rfl, HR3.out, (ExtT.of0 hE1).trans hE3⟩

end Go.Proofs.YtgfajlaibgbdoaaGreat

namespace Go.Proofs.YtgfajlaibgbdoaaGreat
open Go.RowKit

/-- bytes that stand in a block of bytes, from B on. -/
def Sec (w : World) (B : Nat) (x : Option Addr × Nat × Nat) (b : List UInt8) : Prop := EB.Rd w (.slice x.1 x.2.1 x.2.2) b ∧ ∀ y ∈ blkL (.slice x.1 x.2.1 x.2.2), B ≤ y ∧ tagOf w y = some 5
theorem tagOf_ext {S : List Nat} {w w' : World} {y : Nat} {T : TypeId} (h : tagOf w y = some T) (he : Ext S w w') (hS : y ∉ S) : tagOf w' y = some T := by
  rw [tagOf] at h ⊢
  by_cases hl : y < w.heap.size
  · rwa [he.block y hl hS]
  · rw [Array.getElem?_eq_none (by omega)] at h; cases h
theorem Sec.ext {w w' : World} {B : Nat} {x : Option Addr × Nat × Nat} {b : List UInt8} {S : List Nat} (h : Sec w B x b) (he : Ext S w w') (hS : ∀ y ∈ S, tagOf w y ≠ some 5) : Sec w' B x b :=
  ⟨h.1.ext he (fun y hy hy2 => hS y hy2 (h.2 y hy).2), fun y hy => ⟨(h.2 y hy).1, tagOf_ext (h.2 y hy).2 he (fun hy2 => hS y hy2 (h.2 y hy).2)⟩⟩
theorem Sec.ext0 {w w' : World} {B : Nat} {x : Option Addr × Nat × Nat} {b : List UInt8} (h : Sec w B x b) (he : Ext [] w w') : Sec w' B x b := h.ext he (by simp)

def CellsOk (w : World) (B : Nat) (zs : List ((Option Addr × Nat × Nat) × List UInt8)) : Prop := ∀ z ∈ zs, z.1.2.1 = 128 ∧ z.2.length = 128 ∧ Sec w B z.1 z.2
theorem CellsOk.ext {w w' : World} {B : Nat} {zs : List ((Option Addr × Nat × Nat) × List UInt8)} {S : List Nat} (h : CellsOk w B zs) (he : Ext S w w') (hS : ∀ y ∈ S, tagOf w y ≠ some 5) : CellsOk w' B zs := fun z hz => ⟨(h z hz).1, (h z hz).2.1, (h z hz).2.2.ext he hS⟩
theorem CellsOk.append {w : World} {B : Nat} {zs ys : List ((Option Addr × Nat × Nat) × List UInt8)} (h : CellsOk w B zs) (k : CellsOk w B ys) : CellsOk w B (zs ++ ys) := fun z hz => by
  rcases List.mem_append.1 hz with h1 | h1
  · exact h z h1
  · exact k z h1

def secsOf (P : List UInt8) (m : Nat) : List (List UInt8) := (List.range m).map (fun i => (P.drop (128 * i)).take 128)
theorem secsOf_succ (P : List UInt8) (m : Nat) : secsOf P (m + 1) = secsOf P m ++ [(P.drop (128 * m)).take 128] := by simp [secsOf, List.range_succ]
theorem secsOf_len (P : List UInt8) (m : Nat) : (secsOf P m).length = m := by simp [secsOf]

/-- what the cells of a block hold: row by row three parities (of which nothing is said), then the data. -/
inductive LayOf (k : Nat) : List UInt8 → Nat → List (List UInt8) → Prop
  | nil (P : List UInt8) : LayOf k P 0 []
  | row (P : List UInt8) (l : Nat) (p1 p2 p3 : List UInt8) (rest : List (List UInt8)) : l ≠ 0 → LayOf k (P.drop (128 * min l (k + 1))) (l - min l (k + 1)) rest → LayOf k P l (p1 :: p2 :: p3 :: (secsOf P (min l (k + 1)) ++ rest))
theorem LayOf.len {k : Nat} {P : List UInt8} {l : Nat} {zs : List (List UInt8)} (h : LayOf k P l zs) : ∀ a, (zs.length : Int) = costL (rowsF k a l) := by
  induction h with
  | nil P => intro a; rw [rowsF_zero]; rfl
  | row P l p1 p2 p3 rest h0 h1 ih =>
    intro a
    rw [rowsF_pos k a l h0]
    have := ih (a + (min l (k + 1) : Nat) + 3)
    simp only [costL, List.map_cons, List.sum_cons, List.length_cons, List.length_append, secsOf_len] at this ⊢
    omega

/-- a part of some bytes, at most as much room. -/
theorem Sec.take {w : World} {B : Nat} {p : Option Addr} {n c k c' : Nat} {P : List UInt8} (h : Sec w B (p, n, c) P) (hk : k ≤ P.length) (hk1 : 1 ≤ k) (hc : k ≤ c') : Sec w B (p, k, c') (P.take k) := by
  obtain ⟨h1, h2⟩ := h
  rcases h1 with ⟨h1, h3⟩ | ⟨g, o, cap, h1, h3, h4, h5⟩
  · rw [h3] at hk; simp at hk; omega
  · simp only [Value.slice.injEq] at h1
    obtain ⟨rfl, rfl, rfl⟩ := h1
    refine ⟨.inr ⟨g, o, c', by simp [hk], by simp; omega, h4, fun j u hj => h5 j u ?_⟩, fun y hy => h2 y (by simpa [blkL] using hy)⟩
    rw [EB.flat_take] at hj
    rw [List.getElem?_take] at hj
    split at hj
    · exact hj
    · cases hj
theorem Sec.drop {w : World} {B g o n c : Nat} (k : Nat) {P : List UInt8} (h : Sec w B (some ⟨g, o, none⟩, n, c) P) (hk : k < c) : Sec w B (some ⟨g, o + k, none⟩, n - k, c - k) (P.drop k) := by
  obtain ⟨h1, h2⟩ := h
  have h3 := EB_drop (k := k) h1
  have hne : ¬ (c = k) := by omega
  simp only [if_neg hne] at h3
  exact ⟨h3, fun y hy => h2 y (by simpa [blkL] using hy)⟩

theorem Sec.u8 {w : World} {B g n : Nat} (h : U8 w g n) (hB : B ≤ g) : ∃ b : List UInt8, b.length = n ∧ Sec w B (rowOf n g) b := by
  obtain ⟨b, h1, h2⟩ := h
  refine ⟨b, h1, .inr ⟨g, 0, n, by simp [rowOf, h1], by omega, lt_of_blk h2, fun j u hj => ?_⟩, fun y hy => ?_⟩
  · rw [cell_of_row _ g _ _ _ _ h2]; simp at hj ⊢; exact hj
  · simp [blkL, rowOf] at hy; subst hy; exact ⟨hB, tagOf_of h2⟩
theorem par_cells {w : World} {B : Nat} {gs : List Nat} (hl : gs.length = 3) (h : ∀ g ∈ gs, U8 w g 128 ∧ B ≤ g) : ∃ p1 p2 p3 : List UInt8, ∃ zs, zs.map (·.1) = gs.map (rowOf 128) ∧ zs.map (·.2) = [p1, p2, p3] ∧ CellsOk w B zs := by
  obtain ⟨a, b, c, rfl⟩ := three_of gs hl
  obtain ⟨p1, l1, s1⟩ := Sec.u8 (h a (by simp)).1 (h a (by simp)).2
  obtain ⟨p2, l2, s2⟩ := Sec.u8 (h b (by simp)).1 (h b (by simp)).2
  obtain ⟨p3, l3, s3⟩ := Sec.u8 (h c (by simp)).1 (h c (by simp)).2
  refine ⟨p1, p2, p3, [(rowOf 128 a, p1), (rowOf 128 b, p2), (rowOf 128 c, p3)], rfl, rfl, fun z hz => ?_⟩
  simp at hz
  rcases hz with rfl | rfl | rfl
  · exact ⟨rfl, l1, s1⟩
  · exact ⟨rfl, l2, s2⟩
  · exact ⟨rfl, l3, s3⟩

theorem one_rdS {T : TypeId} (W0 : World) (x : Option Addr × Nat × Nat) : ES.Rd (W0.alloc (.cells #[.slice x.1 x.2.1 x.2.2] T)) (.slice (some ⟨W0.heap.size, 0, none⟩) 1 1) [x] := by
  refine .inr ⟨W0.heap.size, 0, 1, rfl, Nat.le_refl _, by simp, fun j u hj => ?_⟩
  rw [cell_of_row _ W0.heap.size _ _ _ _ (heap_alloc_new _ _)]
  match j, hj with
  | 0, hj => exact hj
  | j + 1, hj => simp [ES, Enc.flat] at hj

end Go.Proofs.YtgfajlaibgbdoaaGreat

