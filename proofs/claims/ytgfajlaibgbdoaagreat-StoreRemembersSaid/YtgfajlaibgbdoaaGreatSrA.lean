
import Derived.Test.YtgfajlaibgbdoaaGreatArC
import Derived.StillTailTactics
namespace Go.Proofs.YtgfajlaibgbdoaaGreat
open Go.RowKit

/-! The store: counters, what is remembered. -/
abbrev Slc := Option Addr × Nat × Nat
abbrev Kno := Int × List UInt8 × Slc
def EK : Enc Kno where
  k := 3
  hk := by decide
  enc x := [.int .i64 x.1, .string ⟨x.2.1.toArray⟩, .slice x.2.2.1 x.2.2.2.1 x.2.2.2.2]
  len _ := rfl
  one _ v hv := by simp at hv; rcases hv with rfl | rfl | rfl <;> rfl
theorem tiK : Ti Tryz.prog EK 87 48 (0, [], (none, 0, 0)) := Ti.mk' (z := .agg #[.int .i64 0, .string ⟨#[]⟩, .slice none 0 0]) (by kernel_rfl) rfl
theorem kz : ((0, [], (none, 0, 0)) : Kno) = (0, [], (none, 0, 0)) := rfl

abbrev K0 : Kno := (0, [], (none, 0, 0))

theorem EK_cells {w : World} {g o n cap : Nat} {s : List Kno} (h : EK.Rd w (.slice (some ⟨g, o, none⟩) n cap) s) (i : Nat) (hi : i < s.length) :
    w.cell? ⟨g, o + i * 3, none⟩ = some (.int .i64 (s.getD i K0).1) ∧ w.cell? ⟨g, o + i * 3 + 1, none⟩ = some (.string ⟨(s.getD i K0).2.1.toArray⟩) ∧ w.cell? ⟨g, o + i * 3 + 2, none⟩ = some (.slice (s.getD i K0).2.2.1 (s.getD i K0).2.2.2.1 (s.getD i K0).2.2.2.2) := by
  have e : s.getD i K0 = s[i] := by simp [List.getD, hi]
  rw [e]
  exact ⟨h.cells i 0 hi (by decide), h.cells i 1 hi (by decide), h.cells i 2 hi (by decide)⟩

theorem set3 (A B : List Value) (x y z a b c : Value) : (((A ++ (x :: y :: z :: B)).set A.length a).set (A.length + 1) b).set (A.length + 2) c = A ++ (a :: b :: c :: B) := by
  rw [List.set_append_right _ _ (Nat.le_refl _), Nat.sub_self, List.set_cons_zero, List.set_append_right _ _ (by omega), show A.length + 1 - A.length = 1 by omega, List.set_append_right _ _ (by omega), show A.length + 2 - A.length = 2 by omega]
  rfl
theorem flatK_set (L : List Kno) (k : Nat) (hk : k < L.length) (x : Kno) : (((EK.flat L).set (k * 3) (.int .i64 x.1)).set (k * 3 + 1) (.string ⟨x.2.1.toArray⟩)).set (k * 3 + 2) (.slice x.2.2.1 x.2.2.2.1 x.2.2.2.2) = EK.flat (L.set k x) := by
  have e : L = L.take k ++ L[k] :: L.drop (k + 1) := by rw [← List.drop_eq_getElem_cons hk, List.take_append_drop]
  have hl : (EK.flat (L.take k)).length = k * 3 := by rw [EK.length_flat, List.length_take, Nat.min_eq_left (by omega)]; rfl
  have e2 : EK.flat L = EK.flat (L.take k) ++ (.int .i64 L[k].1 :: .string ⟨L[k].2.1.toArray⟩ :: .slice L[k].2.2.1 L[k].2.2.2.1 L[k].2.2.2.2 :: EK.flat (L.drop (k + 1))) := by
    conv => lhs; rw [e]
    rw [EK.flat_append, EK.flat_cons]; rfl
  rw [e2, ← hl, set3, List.set_eq_take_append_cons_drop, if_pos hk, EK.flat_append, EK.flat_cons]
  rfl
theorem rowK_set {w : World} {g : Nat} {T : TypeId} {L : List Kno} (hg : w.heap[g]? = some (.cells (EK.flat L).toArray T (0, 0))) (k : Nat) (hk : k < L.length) (x : Kno) :
    (((w.setCell ⟨g, k * 3, none⟩ (.int .i64 x.1)).setCell ⟨g, k * 3 + 1, none⟩ (.string ⟨x.2.1.toArray⟩)).setCell ⟨g, k * 3 + 2, none⟩ (.slice x.2.2.1 x.2.2.2.1 x.2.2.2.2)).heap[g]? = some (.cells (EK.flat (L.set k x)).toArray T (0, 0)) := by
  rw [heap_setCell_same _ g _ _ _ _ (heap_setCell_same _ g _ _ _ _ (heap_setCell_same w g _ _ _ _ hg))]
  congr 2
  apply Array.ext'
  rw [← flatK_set L k hk x]
  simp

set_option maxRecDepth 100000 in
theorem i64add_c (a : Addr) (s : Int) (w : World) (hc : w.cell? a = some (.int .i64 s)) (hz : w.frozen? a = false) (h0 : 0 ≤ s) (h1 : s ≤ 1000000000) :
    Calls Tryz.prog 28 #[.pointer (some a), .int .i64 1] w fun e w' => e = .returned (.int .i64 (s + 1)) ∧ w' = w.setCell a (.int .i64 (s + 1)) := by
  have hw : IntKind.i64.wrap (s + 1) = s + 1 := IntWalk.i64_in _ (by omega)
  have hadd := run_call_add (P := Tryz.prog) Tryz.func53 (by kernel_rfl) (by kernel_rfl) (by kernel_rfl) .i64 (by kernel_rfl) (y := 1) (s := s + 1) hc hz (by simp [go_sem]; omega)
  go_enter Tryz.func28, Tryz.ntmps28
  go_wp2
  go_ret
  exact ⟨rfl, rfl⟩
set_option maxRecDepth 100000 in
theorem i64load_c (a : Addr) (s : Int) (w : World) (hc : w.cell? a = some (.int .i64 s)) :
    Calls Tryz.prog 32 #[.pointer (some a)] w fun e w' => e = .returned (.int .i64 s) ∧ w' = w := by
  have hl := run_call_load (P := Tryz.prog) Tryz.func59 (by kernel_rfl) (by kernel_rfl) (by kernel_rfl) .i64 (by kernel_rfl) hc
  go_enter Tryz.func32, Tryz.ntmps32
  go_wp2
  go_ret
  exact ⟨rfl, rfl⟩

set_option maxRecDepth 100000 in
theorem forget1_c (x : Kno) (pc : Nat) (a : Int) (w : World) (hc : w.cell? ⟨pc, 0, none⟩ = some (.int .i64 a)) :
    Calls Tryz.prog 77 #[.agg #[.int .i64 x.1, .string ⟨x.2.1.toArray⟩, .slice x.2.2.1 x.2.2.2.1 x.2.2.2.2], .pointer (some ⟨pc, 0, none⟩)] w fun e w' => e = .returned (.bool (x.1 == a)) ∧ Ext [] w w' := by
  have hc1 := ((Ext.refl [] w).alloc (.cells #[.int .i64 x.1, .string ⟨x.2.1.toArray⟩, .slice x.2.2.1 x.2.2.2.1 x.2.2.2.2] 87)).cell hc (by simp)
  go_enter Tryz.func77, Tryz.ntmps77
  go_wp2
  go_ret
  exact ⟨rfl, (Ext.refl _ _).alloc _⟩

def IdxPost (xs : List Kno) (a : Int) (w : World) (e : Ending) (w' : World) : Prop :=
  Ext [] w w' ∧ ((e = .returned (.int .i64 (-1)) ∧ ∀ x ∈ xs, x.1 ≠ a) ∨ ∃ k : Nat, k < xs.length ∧ e = .returned (.int .i64 k) ∧ (xs.getD k K0).1 = a ∧ ∀ x ∈ xs.take k, x.1 ≠ a)

set_option maxRecDepth 100000 in
set_option maxHeartbeats 1000000 in
theorem idxf_c (v : Value) (xs : List Kno) (pc : Nat) (a : Int) (w : World) (hv : EK.Rd w v xs) (hl : xs.length ≤ 1000000) (hc : w.cell? ⟨pc, 0, none⟩ = some (.int .i64 a)) :
    Calls Tryz.prog 99 #[v, .func (.func 77) #[] #[.pointer (some ⟨pc, 0, none⟩)]] w (IdxPost xs a w) := by
  obtain ⟨p, cap, rfl, _⟩ := hv.len_eq
  have HV := Lib.hid hv
  have HC := Lib.hid hc
  obtain ⟨n, hn⟩ : ∃ n, n = xs.length := ⟨_, rfl⟩
  rw [← hn] at HV hl ⊢
  have HN := Lib.hid hn
  clear hv hc hn
  go_enter Tryz.func99, Tryz.ntmps99
  go_wp2_with fail
  go_loopw [4, 5, 8] (fun _ _ iv wr => ∃ i : Nat, i ≤ n ∧ iv = .int .i64 i ∧ Ext [] w wr ∧ Hid (∀ x ∈ xs.take i, x.1 ≠ a)) (fun _ _ iv _ => n - (intOf iv).toNat)
  case atStart => exact ⟨0, Nat.zero_le _, rfl, Ext.refl _ _, Lib.hid (by simp)⟩
  case round =>
    obtain ⟨i, hi, rfl, hE, HI⟩ := hrel
    by_cases hlt : i < n
    · have z1 : (i : Int) < (n : Int) := by omega
      obtain ⟨g, o, rfl⟩ : ∃ g o, p = some ⟨g, o, none⟩ := by
        rcases HV.out with ⟨_, h⟩ | ⟨g, o, c, h, _⟩
        · have := HN.out; rw [h] at this; simp at this; omega
        · simp only [Value.slice.injEq] at h; exact ⟨g, o, h.1⟩
      obtain ⟨m1, m2, m3⟩ := EK_cells (HV.out.ext0 hE) i (by rw [← HN.out]; exact hlt)
      have HT := Lib.hid (List.take_succ_eq_append_getElem (by rw [← HN.out]; exact hlt : i < xs.length))
      have hx : xs.getD i K0 = xs[i]'(by rw [← HN.out]; exact hlt) := by simp [List.getD, show i < xs.length by rw [← HN.out]; exact hlt]
      have HX := Lib.hid hx
      clear hx
      obtain ⟨x, hx⟩ : ∃ x, x = xs.getD i K0 := ⟨_, rfl⟩
      rw [← hx] at m1 m2 m3 HX
      have HXX := Lib.hid hx
      clear hx
      by_cases hxa : x.1 = a
      all_goals
        have HXA := Lib.hid hxa
        clear hxa
        go_wp2_with fail
        refine (forget1_c x pc a _ (hE.cell HC.out (by simp))).mono ?_
        rintro e W1 ⟨rfl, hE1⟩
        have hE01 := hE.trans hE1
        clear m1 m2 m3 hE1 hE
      · have hb : (x.1 == a) = true := by simp [HXA.out]
        rw [hb]
        clear hb
        go_wp2_with fail
        go_ret
        exact ⟨hE01, .inr ⟨i, by rw [← HN.out]; exact hlt, rfl, by rw [← HXX.out]; exact HXA.out, HI.out⟩⟩
      · have hb : (x.1 == a) = false := by simpa using HXA.out
        rw [hb]
        clear hb
        go_wp2_with fail
        go_roundw
        case rel =>
          refine ⟨i + 1, by omega, by go_num, hE01, Lib.hid ?_⟩
          rw [HT.out, ← HX.out]
          intro y hy
          rcases List.mem_append.1 hy with h | h
          · exact HI.out y h
          · simp at h; subst h; exact HXA.out
        case measure => simp [intOf]; omega
    · obtain rfl : i = n := by omega
      have z1 : ¬ ((i : Int) < (i : Int)) := by omega
      go_wp2
      go_ret
      refine ⟨hE, .inl ⟨rfl, ?_⟩⟩
      have h := HI.out
      rw [List.take_of_length_le (by rw [← HN.out]; exact Nat.le_refl _)] at h
      exact h

end Go.Proofs.YtgfajlaibgbdoaaGreat

namespace Go.Proofs.YtgfajlaibgbdoaaGreat
open Go.RowKit

theorem rowK_cells {w : World} {g : Nat} {T : TypeId} {f : Nat × Nat} {L : List Kno} (hg : w.heap[g]? = some (.cells (EK.flat L).toArray T f)) (k : Nat) (hk : k < L.length) :
    w.cell? ⟨g, k * 3, none⟩ = some (.int .i64 (L.getD k K0).1) ∧ w.cell? ⟨g, k * 3 + 1, none⟩ = some (.string ⟨(L.getD k K0).2.1.toArray⟩) ∧ w.cell? ⟨g, k * 3 + 2, none⟩ = some (.slice (L.getD k K0).2.2.1 (L.getD k K0).2.2.2.1 (L.getD k K0).2.2.2.2) := by
  have hr : EK.Rd w (.slice (some ⟨g, 0, none⟩) L.length L.length) L := .inr ⟨g, 0, L.length, rfl, Nat.le_refl _, lt_of_blk hg, fun j u hj => by rw [cell_of_row _ g _ _ _ _ hg]; simp at hj ⊢; exact hj⟩
  have h := EK_cells hr k hk
  simpa using h

theorem win_put (L : List Kno) (q i : Nat) (x : Kno) (h : q + i < L.length) : ((L.set (q + i) x).drop q).take (i + 1) = (L.drop q).take i ++ [x] := by
  rw [List.take_succ_eq_append_getElem (by simp; omega)]
  congr 1
  · apply List.ext_getElem?
    intro t
    simp only [List.getElem?_take, List.getElem?_drop, List.getElem?_set]
    by_cases ht : t < i
    · rw [if_pos ht, if_pos ht, if_neg (by omega)]
    · rw [if_neg ht, if_neg ht]
  · simp

/-- a window of a list, i taken of j. -/
structure Sift (l L xs : List Kno) (q i j : Nat) (a : Int) : Prop where
  len : L.length = l.length
  same : ∀ t, t < q ∨ q + j ≤ t → L[t]? = l[t]?
  win : (L.drop q).take i = (xs.take j).filter (fun x => !(x.1 == a))

theorem Sift.skip {l L xs : List Kno} {q i j : Nat} {a : Int} (h : Sift l L xs q i j a) (hj : j < xs.length) (hx : (xs.getD j K0).1 = a) : Sift l L xs q i (j + 1) a := by
  refine ⟨h.len, fun t ht => h.same t (by omega), ?_⟩
  rw [h.win, List.take_succ_eq_append_getElem hj, List.filter_append]
  have e : xs.getD j K0 = xs[j] := by simp [List.getD, hj]
  rw [e] at hx
  simp [hx]
theorem Sift.keep {l L xs : List Kno} {q i j : Nat} {a : Int} (h : Sift l L xs q i j a) (hj : j < xs.length) (hq : q + xs.length ≤ l.length) (hij : i < j) (hx : ¬ (xs.getD j K0).1 = a) : Sift l (L.set (q + i) (xs.getD j K0)) xs q (i + 1) (j + 1) a := by
  have e : xs.getD j K0 = xs[j] := by simp [List.getD, hj]
  refine ⟨by rw [List.length_set]; exact h.len, fun t ht => ?_, ?_⟩
  · rw [List.getElem?_set_ne (by omega)]
    exact h.same t (by omega)
  · rw [win_put _ _ _ _ (by rw [h.len]; omega), h.win, List.take_succ_eq_append_getElem hj, List.filter_append]
    rw [e] at hx ⊢
    simp [hx]

def DelPost (v : Value) (xs : List Kno) (a : Int) (w : World) (e : Ending) (w' : World) : Prop :=
  ∃ v', e = .returned v' ∧ EK.Ow 87 w' v' (xs.filter (fun x => !(x.1 == a))) ∧ Ext (blkL v) w w' ∧ ∀ g ∈ blkL v', g ∈ blkL v

set_option maxRecDepth 100000 in
set_option maxHeartbeats 1600000 in
theorem delf_c (v : Value) (xs : List Kno) (pc : Nat) (a : Int) (w : World) (hv : EK.Ow 87 w v xs) (hl : xs.length ≤ 1000000) (hc : w.cell? ⟨pc, 0, none⟩ = some (.int .i64 a)) (hp : ∀ g ∈ blkL v, g ≠ pc) :
    Calls Tryz.prog 76 #[v, .func (.func 77) #[] #[.pointer (some ⟨pc, 0, none⟩)]] w (DelPost v xs a w) := by
  have HV := Lib.hid hv
  have hidx := idxf_c v xs pc a w hv.rd hl hc
  rcases hv with ⟨rfl, rfl⟩ | ⟨g, q, cap, l, rfl, hg, h1, h2, h3⟩
  · go_enter Tryz.func76, Tryz.ntmps76
    go_wp2_with fail
    refine hidx.mono ?_
    rintro e W1 ⟨hE, ⟨rfl, -⟩ | ⟨k, h, _⟩⟩
    · go_wp2
      go_ret
      exact ⟨_, rfl, .inl ⟨rfl, rfl⟩, hE.nil, fun g h => h⟩
    · simp at h
  · have HI := Lib.hid hidx
    have HC := Lib.hid hc
    have hpg : g ≠ pc := hp g (by simp [blkL])
    have HG := Lib.hid hg
    have H3 := Lib.hid h3
    obtain ⟨n, hn⟩ : ∃ n, n = xs.length := ⟨_, rfl⟩
    have HN := Lib.hid hn
    rw [← hn] at hl h1 ⊢
    have hgl := lt_of_blk hg
    clear hidx hc hp hg h3 hn
    have e3 : EK.k = 3 := rfl
    rw [e3]
    go_enter Tryz.func76, Tryz.ntmps76
    go_wp2_with fail
    have hidx := HI.out
    rw [← HN.out, e3] at hidx
    refine hidx.mono ?_
    clear hidx e3
    rintro e W1 ⟨hE1, ⟨rfl, hno⟩ | ⟨k, hk, rfl, hka, hno⟩⟩
    · have HNo := Lib.hid hno
      clear hno
      go_wp2
      go_ret
      refine ⟨_, rfl, ?_, hE1.nil, fun g h => h⟩
      rw [List.filter_eq_self.2 (fun x hx => by simpa using HNo.out x hx)]
      have h := HV.out.ext0 hE1
      rw [← HN.out] at h
      exact h
    · rw [← HN.out] at hk
      have HNo := Lib.hid hno
      have HKA := Lib.hid hka
      have z0 : ¬ ((k : Int) = -1) := by omega
      have z1 : ((k : Int) == -1) = false := beq_eq_false_iff_ne.2 (by omega)
      have hg1 := hE1.blk HG.out (by simp)
      have HG1 := Lib.hid hg1
      have hS : Sift l l xs q k (k + 1) a := by
        refine ⟨rfl, fun _ _ => rfl, ?_⟩
        have hkx : k < xs.length := by rw [← HN.out]; exact hk
        rw [List.take_succ_eq_append_getElem hkx, List.filter_append, List.filter_eq_self.2 (fun x hx => by simpa using HNo.out x hx)]
        have e : xs.getD k K0 = xs[k] := by simp [List.getD, hkx]
        have hka := HKA.out
        rw [e] at hka
        have h4 := congrArg (List.take k) H3.out
        rw [List.take_take, Nat.min_eq_left (by omega)] at h4
        simp [hka, h4]
      have HS := Lib.hid hS
      clear hno hka hg1 hS
      go_wp2_with fail
      go_loopw [5, 6, 7] (fun iv jv _ wr => ∃ (i j : Nat) (L : List Kno), j ≤ n ∧ i < j ∧ iv = .int .i64 i ∧ jv = .int .i64 j ∧ Ext [g] W1 wr ∧ Hid (wr.heap[g]? = some (.cells (EK.flat L).toArray 87 (0, 0))) ∧ Hid (Sift l L xs q i j a)) (fun _ jv _ _ => n - (intOf jv).toNat)
      case atStart => exact ⟨k, k + 1, l, by omega, by omega, rfl, by go_num, Ext.refl _ _, HG1, HS⟩
      case round =>
        obtain ⟨i, j, L, hj, hij, rfl, rfl, hE, HL, HSf⟩ := hrel
        have hll : L.length = l.length := HSf.out.len
        by_cases hlt : j < n
        · have z2 : (j : Int) < (n : Int) := by omega
          obtain ⟨m1, m2, m3⟩ := rowK_cells HL.out (q + j) (by omega)
          have hx : L.getD (q + j) K0 = xs.getD j K0 := by
            rw [List.getD_eq_getElem?_getD, List.getD_eq_getElem?_getD, HSf.out.same _ (by omega)]
            have h4 := congrArg (fun z : List Kno => z[j]?) H3.out
            simp only [List.getElem?_take, List.getElem?_drop] at h4
            rw [← HN.out, if_pos hlt] at h4
            rw [h4]
          rw [hx, Nat.add_mul] at m1 m2 m3
          clear hx
          obtain ⟨x, hx⟩ : ∃ x, x = xs.getD j K0 := ⟨_, rfl⟩
          have HX := Lib.hid hx
          rw [← hx] at m1 m2 m3
          clear hx
          have z3 : ¬ cap = j := by omega
          have z4 : ¬ cap = i := by omega
          have hpl : wr.cell? ⟨pc, 0, none⟩ = some (.int .i64 a) := (hE1.nil.trans hE).cell HC.out (by simpa using fun h => hpg h.symm)
          have HP := Lib.hid hpl
          clear hpl
          by_cases hxa : x.1 = a
          all_goals
            have HXA := Lib.hid hxa
            clear hxa
            go_wp2_with fail
            have hEb : Ext [] wr (wr.alloc (.cells #[.int .i64 x.1, .string ⟨x.2.1.toArray⟩, .slice x.2.2.1 x.2.2.2.1 x.2.2.2.2] 87)) := (Ext.refl [] _).alloc _
            refine (forget1_c x pc a _ (hEb.cell HP.out (by simp))).mono ?_
            rintro e W2 ⟨rfl, hE2⟩
            have hEb2 := hEb.trans hE2
            have hE02 : Ext [g] W1 W2 := hE.trans (hEb2.nil)
            have hgb := heap_alloc_new wr (.cells #[.int .i64 x.1, .string ⟨x.2.1.toArray⟩, .slice x.2.2.1 x.2.2.2.1 x.2.2.2.2] 87)
            have hb2 := hE2.blk hgb (by simp)
            have k1 : W2.cell? ⟨wr.heap.size, 0, none⟩ = some (.int .i64 x.1) := by rw [cell_of_row W2 _ 0 _ _ _ hb2]; rfl
            have k2 : W2.cell? ⟨wr.heap.size, 1, none⟩ = some (.string ⟨x.2.1.toArray⟩) := by rw [cell_of_row W2 _ 1 _ _ _ hb2]; rfl
            have k3 : W2.cell? ⟨wr.heap.size, 2, none⟩ = some (.slice x.2.2.1 x.2.2.2.1 x.2.2.2.2) := by rw [cell_of_row W2 _ 2 _ _ _ hb2]; rfl
            have hg2 := hEb2.blk HL.out (by simp)
            have HG2 := Lib.hid hg2
            clear m1 m2 m3 hE2 hEb hEb2 hE hgb hb2 hg2
          · have hb : (x.1 == a) = true := by simp [HXA.out]
            rw [hb]
            clear hb
            go_wp2_with fail
            go_roundw
            case rel => exact ⟨i, j + 1, L, by omega, by omega, rfl, by go_num, hE02, HG2, Lib.hid (HSf.out.skip (by rw [← HN.out]; exact hlt) (by rw [← HX.out]; exact HXA.out))⟩
            case measure => simp [intOf]; omega
          · have hb : (x.1 == a) = false := by simpa using HXA.out
            rw [hb]
            clear hb
            obtain ⟨o1, o2, o3⟩ := rowK_cells HG2.out (q + i) (by omega)
            rw [Nat.add_mul] at o1 o2 o3
            have hfz : ∀ j, W2.frozen? ⟨g, j, none⟩ = false := fun j => frozen_of_row _ _ _ _ _ HG2.out
            have hne : ¬ (g = wr.heap.size) := by have := lt_of_blk HL.out; omega
            go_wp2_with fail
            go_roundw
            case rel =>
              have hs3 := rowK_set HG2.out (q + i) (by omega) x
              rw [Nat.add_mul] at hs3
              exact ⟨i + 1, j + 1, _, by omega, by omega, by go_num, by go_num, ((hE02.setCell (.inl (by simp)) _).setCell (.inl (by simp)) _).setCell (.inl (by simp)) _, Lib.hid hs3, Lib.hid (by
                have h := HSf.out.keep (by rw [← HN.out]; exact hlt) (by rw [← HN.out]; omega) hij (by rw [← HX.out]; exact HXA.out)
                rw [← HX.out] at h
                exact h)⟩
            case measure => simp [intOf]; omega
        · obtain rfl : j = n := by omega
          have z2 : ¬ ((j : Int) < (j : Int)) := by omega
          have z4 : ¬ cap = i := by omega
          have z5 : (i : Int) ≤ (j : Int) := by omega
          have z6 : (i : Int) ≤ (cap : Int) := by omega
          go_wp2_with (with_reducible refine hold_clear ?_)
          refine wpl_of rfl fun K hK => opw_clear (E := EK) (T := 87) (zero := K0) (bytes := 48) (g := g) (q := q + i) (l := L) tiK Tryz.underlying72 rfl rfl HL.out ?_ (by omega) ?_
          · intro hpos
            simp [Nat.add_mul, EK]
          intro w3 hb3 hext3
          have hE3 := hE.trans hext3
          have HB3 := Lib.hid hb3
          clear hb3 hext3
          refine hK _ _ ?_
          clear hK
          go_wp2
          go_ret
          have hlen : (xs.filter (fun x => !(x.1 == a))).length = i := by
            have h := HSf.out.win
            rw [List.take_of_length_le (l := xs) (by rw [← HN.out]; exact Nat.le_refl _)] at h
            rw [← h]
            simp
            omega
          refine ⟨_, rfl, .inr ⟨g, q, cap, _, by rw [hlen]; rfl, HB3.out, by omega, by rw [length_splice _ _ _ (by simp; omega)]; omega, ?_⟩, hE1.nil.trans hE3, fun x hx => by simpa [blkL] using hx⟩
          rw [hlen]
          have h := HSf.out.win
          rw [List.take_of_length_le (l := xs) (by rw [← HN.out]; exact Nat.le_refl _)] at h
          rw [← h]
          apply List.ext_getElem?
          intro t
          simp only [List.getElem?_take, List.getElem?_drop]
          by_cases ht : t < i
          · rw [if_pos ht, if_pos ht, splice, List.getElem?_append_left (by simp; omega), List.getElem?_take, if_pos (by omega)]
          · rw [if_neg ht, if_neg ht]

end Go.Proofs.YtgfajlaibgbdoaaGreat

