
import Derived.Test.YtgfajlaibgbdoaaGreatRk
namespace Go.Proofs.YtgfajlaibgbdoaaGreat
open Go.RowKit

/-! The array. -/
def ArrR (w : World) (a r D F : Nat) : Prop := w.heap[a]? = some (.cells #[.pointer (some ⟨r, 0, none⟩), .int .i64 D, .int .i64 F] 68 (0, 0))
theorem ArrR.ext0 {w w' : World} {a r D F : Nat} (h : ArrR w a r D F) (he : Ext [] w w') : ArrR w' a r D F := he.blk h (by simp)
theorem ArrR.extT {w w' : World} {a r D F : Nat} {bs : List Nat} {Ts : List TypeId} (h : ArrR w a r D F) (he : ExtT bs Ts w w') (hb : a ∉ bs) (hT : 68 ∉ Ts) : ArrR w' a r D F := he.blk h hb hT

set_option maxRecDepth 100000 in
theorem arnew_c (b gg D S F : Nat) (ws : List (Nat × Nat × List UInt8)) (w : World) (h : RackR w b gg D S ws) (hD : 5 ≤ D) (hF : F < S) :
    Calls Tryz.prog 8 #[.pointer (some ⟨b, 0, none⟩), .int .i64 F] w fun e w' => ∃ a, e = .returned (.tuple #[.pointer (some ⟨a, 0, none⟩), .int .i64 0]) ∧ ArrR w' a b D F ∧ w.heap.size ≤ a ∧ Ext [] w w' := by
  have HR := Lib.hid h
  have m1 : ¬ ((D : Int) < 5) := by omega
  have m2 : ¬ ((F : Int) < 0) := by omega
  have m3 : ¬ ((S : Int) ≤ (F : Int)) := by omega
  clear h
  go_enter Tryz.func8, Tryz.ntmps8
  go_wp2_with fail
  refine (rkdrives_c b gg D S ws _ HR.out).mono ?_
  rintro e W1 ⟨rfl, rfl⟩
  go_wp2_with fail
  refine (rksectors_c b gg D S ws _ HR.out).mono ?_
  rintro e W1 ⟨rfl, rfl⟩
  go_wp2_with fail
  refine (rkdrives_c b gg D S ws _ HR.out).mono ?_
  rintro e W1 ⟨rfl, rfl⟩
  go_wp2
  go_ret2
  exact ⟨_, rfl, heap_alloc_new W1 _, Nat.le_refl _, (Ext.refl [] W1).alloc _⟩

set_option maxRecDepth 100000 in
theorem arcells_c (a b gg D S F : Nat) (ws : List (Nat × Nat × List UInt8)) (w : World) (h : RackR w b gg D S ws) (ha : ArrR w a b D F) (hD : D ≤ 16) (hS : S ≤ 2000) (hF : F ≤ S) :
    Calls Tryz.prog 16 #[.pointer (some ⟨a, 0, none⟩)] w fun e w' => e = .returned (.int .i64 ((D * (S - F) : Nat) : Int)) ∧ Ext [] w w' := by
  have HR := Lib.hid h
  have c0 : w.cell? ⟨a, 0, none⟩ = some (.pointer (some ⟨b, 0, none⟩)) := by rw [cell_of_row w a 0 _ _ _ ha]; rfl
  have c1 : w.cell? ⟨a, 1, none⟩ = some (.int .i64 D) := by rw [cell_of_row w a 1 _ _ _ ha]; rfl
  have c2 : w.cell? ⟨a, 2, none⟩ = some (.int .i64 F) := by rw [cell_of_row w a 2 _ _ _ ha]; rfl
  have w1 : IntKind.i64.wrap ((S : Int) - (F : Int)) = ((S - F : Nat) : Int) := by rw [IntWalk.i64_in _ (by omega)]; omega
  have hm : D * (S - F) ≤ 16 * 2000 := Nat.mul_le_mul hD (by omega)
  have w2 : IntKind.i64.wrap ((D : Int) * ((S - F : Nat) : Int)) = ((D * (S - F) : Nat) : Int) := by rw [← Int.natCast_mul]; exact IntWalk.i64_in _ (by omega)
  obtain ⟨x, hx⟩ : ∃ x, x = S - F := ⟨_, rfl⟩
  rw [← hx] at w1 w2 hm ⊢
  obtain ⟨y, hy⟩ : ∃ y, y = D * x := ⟨_, rfl⟩
  rw [← hy] at w2 hm ⊢
  clear h ha hx hy
  go_enter Tryz.func16, Tryz.ntmps16
  go_wp2_with fail
  go_big_quiet ((go_at_call 23; refine Calls.quiet_of_same (rksectors_c b gg D S ws _ (HR.out.ext0 ((Ext.refl [] _).drewN _)))))
  go_wp2
  go_ret
  exact ⟨rfl, (Ext.refl _ _).drewN _⟩

/-- the rows of so many sectors: k + 1 of them to a row, three parities ahead of them. -/
def rowsF (k : Nat) (a : Int) (l : Nat) : List Rng := if l = 0 then [] else (a, ((min l (k + 1) : Nat) : Int)) :: rowsF k (a + (min l (k + 1) : Nat) + 3) (l - min l (k + 1))
termination_by l
decreasing_by omega
theorem rowsF_zero (k : Nat) (a : Int) : rowsF k a 0 = [] := by rw [rowsF]; rfl
theorem rowsF_pos (k : Nat) (a : Int) (l : Nat) (h : l ≠ 0) : rowsF k a l = (a, ((min l (k + 1) : Nat) : Int)) :: rowsF k (a + (min l (k + 1) : Nat) + 3) (l - min l (k + 1)) := by rw [rowsF, if_neg h]

theorem tiRow : Ti Tryz.prog ER 110 16 (0, 0) := Ti.mk' (z := .agg #[.int .i64 0, .int .i64 0]) (by kernel_rfl) rfl

theorem one_rdRw {T : TypeId} (W0 : World) (f k : Int) : ER.Rd (W0.alloc (.cells #[.int .i64 f, .int .i64 k] T)) (.slice (some ⟨W0.heap.size, 0, none⟩) 1 1) [(f, k)] := by
  refine .inr ⟨W0.heap.size, 0, 1, rfl, Nat.le_refl _, by simp, fun j u hj => ?_⟩
  rw [cell_of_row _ W0.heap.size _ _ _ _ (heap_alloc_new _ _)]
  match j, hj with
  | 0, hj => exact hj
  | 1, hj => exact hj
  | j + 2, hj => simp [ER, Enc.flat] at hj

set_option maxRecDepth 100000 in
set_option maxHeartbeats 1000000 in
theorem arrows_c (a r k F : Nat) (addr : Int) (size : Nat) (w : World) (ha : ArrR w a r (k + 4) F) (hk : k ≤ 100) (h0 : 0 ≤ addr) (h1 : addr ≤ 1000000) (hs1 : 1 ≤ size) (hs : size ≤ 1024) :
    Calls Tryz.prog 39 #[.pointer (some ⟨a, 0, none⟩), .int .i64 addr, .int .i64 size] w fun e w' => ∃ v, e = .returned v ∧ ER.Ow 110 w' v (rowsF k addr ((size + 127) / 128)) ∧ (∀ y ∈ blkL v, w.heap.size ≤ y) ∧ Ext [] w w' := by
  have c1 : w.cell? ⟨a, 1, none⟩ = some (.int .i64 ((k + 4 : Nat) : Int)) := by rw [cell_of_row w a 1 _ _ _ ha]; rfl
  have w1 : IntKind.i64.wrap ((size : Int) + 128) = (size : Int) + 128 := IntWalk.i64_in _ (by omega)
  have w2 : IntKind.i64.wrap ((size : Int) + 128 - 1) = (size : Int) + 128 - 1 := IntWalk.i64_in _ (by omega)
  obtain ⟨l0, hl0⟩ : ∃ l, l = (size + 127) / 128 := ⟨_, rfl⟩
  have w3 : ((size : Int) + 128 - 1).tdiv 128 = (l0 : Int) := by rw [Int.tdiv_eq_ediv_of_nonneg (by omega)]; omega
  have hl8 : l0 ≤ 8 := by omega
  rw [← hl0]
  clear hl0 ha
  go_enter Tryz.func39, Tryz.ntmps39
  go_wp2_with fail
  go_loopw [1, 7, 8, 9] (fun av ov lv _ wr => ∃ (a' : Int) (l : Nat) (xs : List Rng), av = .int .i64 a' ∧ lv = .int .i64 l ∧ 0 ≤ a' ∧ a' + 4 * l ≤ addr + 4 * l0 ∧ l ≤ l0 ∧ xs.length + l ≤ l0 ∧ Ext [] w wr ∧ Hid (xs ++ rowsF k a' l = rowsF k addr l0) ∧ Hid (ER.Ow 110 wr ov xs ∧ ∀ y ∈ blkL ov, w.heap.size ≤ y)) (fun _ _ lv _ _ => (intOf lv).toNat)
  case atStart => exact ⟨addr, l0, [], rfl, rfl, h0, by omega, by omega, by simp, Ext.refl _ _, rfl, .inl ⟨rfl, rfl⟩, by simp [blkL]⟩
  case round =>
    obtain ⟨a', l, xs, rfl, rfl, ha0, hb0, hl, hxl, hE, HX, HO⟩ := hrel
    by_cases hpos : 0 < l
    · have z1 : (0 : Int) < (l : Int) := by omega
      have HXS : Hid ((xs ++ [(a', ((min l (k + 1) : Nat) : Int))]) ++ rowsF k (a' + (min l (k + 1) : Nat) + 3) (l - min l (k + 1)) = rowsF k addr l0) := by
        rw [List.append_assoc, List.singleton_append, ← rowsF_pos k a' l (by omega)]
        exact HX
      have m1 : 1 ≤ min l (k + 1) := by omega
      have m2 : min l (k + 1) ≤ l := by omega
      have m3 : min l (k + 1) ≤ k + 1 := by omega
      have c1' := hE.cell c1 (by simp)
      have w4 : IntKind.i64.wrap (((k + 4 : Nat) : Int) - 3) = ((k + 1 : Nat) : Int) := by rw [IntWalk.i64_in _ (by omega)]; omega
      obtain ⟨K1, hK1⟩ : ∃ K, K = k + 1 := ⟨_, rfl⟩
      obtain ⟨D, hD⟩ : ∃ K, K = k + 4 := ⟨_, rfl⟩
      rw [← hD] at c1' w4
      rw [← hK1] at w4
      have hmin : min (l : Int) (K1 : Int) = ((min l K1 : Nat) : Int) := by omega
      rw [← hK1] at m1 m2 m3 HXS
      obtain ⟨M, hM⟩ : ∃ M, M = min l K1 := ⟨_, rfl⟩
      rw [← hM] at hmin m1 m2 m3 HXS
      obtain ⟨pv, cv, rfl, _⟩ := HO.out.1.rd.len_eq
      obtain ⟨nx, hnx⟩ : ∃ n, n = xs.length := ⟨_, rfl⟩
      rw [← hnx] at HO hxl ⊢
      have HNX := Lib.hid hnx
      clear hK1 hM hnx c1 hD
      go_wp2_with (with_reducible refine hold_at (d := 28) ?_)
      refine wpl_of rfl fun K hK => opw_append (E := ER) (T := 110) (zero := (0,0)) (bytes := 16) (v := .slice pv nx cv) (xs := xs) (ys := [(a', (M : Int))]) tiRow Tryz.underlying107 Tryz.underlying107 rfl rfl rfl (HO.out.1.ext0 ((Ext.refl [] _).alloc _)) (one_rdRw _ _ _) (by rw [← HNX.out]; simp; omega) (by rw [← HNX.out]; simp; omega) ?_
      intro v7 W7 how7 hE7 hnear7 _
      refine hK _ _ ?_
      clear hK
      have hw7 : Ext [] w W7 := (hE.alloc _).trans' hE7 (by simp) (fun y hy => .inr (HO.out.2 y hy))
      have hn7 : ∀ y ∈ blkL v7, w.heap.size ≤ y := fun y hy => by
        rcases hnear7 y hy with h | h
        · exact HO.out.2 y h
        · have := hE.size; simp at h; omega
      have HO7 := Lib.hid how7
      have HN7 := Lib.hid hn7
      have w5 : IntKind.i64.wrap (a' + (M : Int)) = a' + M := IntWalk.i64_in _ (by omega)
      have w6 : IntKind.i64.wrap (a' + (M : Int) + 3) = a' + M + 3 := IntWalk.i64_in _ (by omega)
      have w7 : IntKind.i64.wrap ((l : Int) - (M : Int)) = ((l - M : Nat) : Int) := by rw [IntWalk.i64_in _ (by omega)]; omega
      clear how7 hE7 hnear7 hn7 c1'
      go_wp2_with fail
      go_roundw
      case rel => exact ⟨a' + M + 3, l - M, xs ++ [(a', (M : Int))], by first | rfl | trivial, by first | rfl | trivial, by omega, by omega, by omega, by rw [List.length_append, ← HNX.out]; simp; omega, hw7, HXS, HO7.out, HN7.out⟩
      case measure => simp [intOf]; omega
    · obtain rfl : l = 0 := by omega
      have hx := HX.out
      rw [rowsF_zero, List.append_nil] at hx
      have HXX := Lib.hid hx
      clear hx
      go_wp2
      go_ret
      rw [← HXX.out]
      exact ⟨_, rfl, HO.out.1, HO.out.2, hE⟩

end Go.Proofs.YtgfajlaibgbdoaaGreat

namespace Go.Proofs.YtgfajlaibgbdoaaGreat
open Go.RowKit

def costL (xs : List Rng) : Int := (xs.map (fun r => r.2 + 3)).sum
theorem costL_take (s : List Rng) (k : Nat) (h : k < s.length) : costL (s.take (k + 1)) = costL (s.take k) + ((s.getD k (0, 0)).2 + 3) := by
  rw [List.take_succ_eq_append_getElem h, costL, List.map_append, List.sum_append, costL]
  simp [List.getD, h]
theorem rowsF_data (k : Nat) : ∀ (l : Nat) (a : Int), ∀ r ∈ rowsF k a l, 1 ≤ r.2 ∧ r.2 ≤ l := by
  intro l
  induction l using Nat.strongRecOn with
  | _ l ih =>
    intro a r hr
    by_cases h : l = 0
    · subst h; rw [rowsF_zero] at hr; cases hr
    · rw [rowsF_pos k a l h] at hr
      rcases List.mem_cons.1 hr with rfl | hr
      · simp only; omega
      · have := ih (l - min l (k + 1)) (by omega) _ r hr
        omega
theorem rowsF_len (k : Nat) : ∀ (l : Nat) (a : Int), (rowsF k a l).length ≤ l := by
  intro l
  induction l using Nat.strongRecOn with
  | _ l ih =>
    intro a
    by_cases h : l = 0
    · subst h; rw [rowsF_zero]; simp
    · rw [rowsF_pos k a l h, List.length_cons]
      have := ih (l - min l (k + 1)) (by omega) (a + (min l (k + 1) : Nat) + 3)
      omega
theorem costL_rows (k : Nat) : ∀ (l : Nat) (a b : Int), costL (rowsF k a l) = costL (rowsF k b l) ∧ costL (rowsF k a l) ≤ 4 * l ∧ (1 ≤ l → (l : Int) + 3 ≤ costL (rowsF k a l)) ∧ 0 ≤ costL (rowsF k a l) := by
  intro l
  induction l using Nat.strongRecOn with
  | _ l ih =>
    intro a b
    by_cases h : l = 0
    · subst h; simp [rowsF_zero, costL]
    · rw [rowsF_pos k a l h, rowsF_pos k b l h]
      obtain ⟨h1, h2, h3, h4⟩ := ih (l - min l (k + 1)) (by omega) (a + (min l (k + 1) : Nat) + 3) (b + (min l (k + 1) : Nat) + 3)
      simp only [costL, List.map_cons, List.sum_cons] at h1 h2 h3 h4 ⊢
      omega
theorem costL_le : ∀ (xs : List Rng), (∀ r ∈ xs, 1 ≤ r.2 ∧ r.2 ≤ 8) → 0 ≤ costL xs ∧ costL xs ≤ 11 * xs.length
  | [], _ => by simp [costL]
  | x :: xs, h => by
    have h1 := costL_le xs (fun r hr => h r (by simp [hr]))
    have h2 := h x (by simp)
    simp only [costL, List.map_cons, List.sum_cons, List.length_cons] at h1 ⊢
    omega
/-- how many cells so many bytes take. -/
def costF (k size : Nat) : Nat := (costL (rowsF k 0 ((size + 127) / 128))).toNat
theorem costF_eq (k size : Nat) (a : Int) : ((costF k size : Nat) : Int) = costL (rowsF k a ((size + 127) / 128)) := by
  have h := costL_rows k ((size + 127) / 128) 0 a
  rw [costF, Int.toNat_of_nonneg h.2.2.2, h.1]
theorem costF_bd (k size : Nat) (h1 : 1 ≤ size) (h2 : size ≤ 1024) : 4 ≤ costF k size ∧ costF k size ≤ 32 := by
  have h := costL_rows k ((size + 127) / 128) 0 0
  rw [costF]
  omega

set_option maxRecDepth 100000 in
set_option maxHeartbeats 1000000 in
theorem arcost_c (a r k F : Nat) (size : Nat) (w : World) (ha : ArrR w a r (k + 4) F) (hk : k ≤ 100) (hs1 : 1 ≤ size) (hs : size ≤ 1024) :
    Calls Tryz.prog 17 #[.pointer (some ⟨a, 0, none⟩), .int .i64 size] w fun e w' => e = .returned (.tuple #[.int .i64 (costF k size), .int .i64 0]) ∧ Ext [] w w' := by
  have HA := Lib.hid ha
  have m1 : ¬ ((size : Int) < 1) := by omega
  have m2 : ¬ ((1024 : Int) < (size : Int)) := by omega
  have h8 : (size + 127) / 128 ≤ 8 := by omega
  have hce := costF_eq k size 0
  have hrl := rowsF_len k ((size + 127) / 128) 0
  have hrd := rowsF_data k ((size + 127) / 128) 0
  obtain ⟨C, hC⟩ : ∃ C, C = costF k size := ⟨_, rfl⟩
  rw [← hC] at hce ⊢
  clear ha hC
  go_enter Tryz.func17, Tryz.ntmps17
  go_wp2_with fail
  refine (arrows_c a r k F 0 size _ HA.out hk (by omega) (by omega) hs1 hs).mono ?_
  rintro e W1 ⟨v, rfl, how, hnew, hE⟩
  obtain ⟨p, cap, rfl, hcap⟩ := how.rd.len_eq
  have HV := Lib.hid how.rd
  clear how hnew
  obtain ⟨s, hs'⟩ : ∃ s, s = rowsF k 0 ((size + 127) / 128) := ⟨_, rfl⟩
  rw [← hs'] at hce hrl hrd HV ⊢
  have HCE := Lib.hid hce
  have HD := Lib.hid (fun r hr => ⟨(hrd r hr).1, show r.2 ≤ 8 by have := (hrd r hr).2; omega⟩ : ∀ r ∈ s, 1 ≤ r.2 ∧ r.2 ≤ 8)
  have hsl : s.length ≤ 8 := by omega
  clear hs' hce hrd hrl hcap
  go_wp2_with fail
  go_loopw [6, 8, 23] (fun n _ i wr => ∃ q : Nat, q ≤ s.length ∧ i = .int .i64 q ∧ n = .int .i64 (costL (s.take q)) ∧ Ext [] W1 wr) (fun _ _ i _ => s.length - (intOf i).toNat)
  case atStart => exact ⟨0, Nat.zero_le _, rfl, rfl, Ext.refl _ _⟩
  case round =>
    obtain ⟨q, hq, rfl, rfl, hB⟩ := hrel
    by_cases hlt : q < s.length
    · have hv1 := HV.out.ext0 hB
      obtain ⟨g, o, rfl⟩ : ∃ g o, p = some ⟨g, o, none⟩ := by
        rcases HV.out with ⟨_, h⟩ | ⟨g, o, c, h, _⟩
        · rw [h] at hlt; simp at hlt
        · cases h; exact ⟨g, o, rfl⟩
      obtain ⟨hm1, hm2⟩ := ER_cells hv1 q hlt
      have HT := Lib.hid (costL_take s q hlt)
      have b1 := costL_le (s.take q) (fun r hr => HD.out r (List.mem_of_mem_take hr))
      have b2 : (s.take q).length ≤ 8 := by simp; omega
      have b5 : 1 ≤ (s.getD q (0, 0)).2 ∧ (s.getD q (0, 0)).2 ≤ 8 := HD.out _ (by simp [List.getD, hlt])
      generalize s.getD q (0,0) = x at *
      obtain ⟨C', hC⟩ : ∃ C, C = costL (s.take q) := ⟨_, rfl⟩
      rw [← hC] at b1
      rw [← hC]
      have HC := Lib.hid hC
      have w1 : IntKind.i64.wrap (x.2 + 3) = x.2 + 3 := IntWalk.i64_in _ (by omega)
      have w2 : IntKind.i64.wrap (C' + (x.2 + 3)) = C' + (x.2 + 3) := IntWalk.i64_in _ (by omega)
      clear hv1 hC b1 b2 b5
      go_wp2
      go_roundw
      case rel => exact ⟨q + 1, by omega, by go_num, by rw [HT.out, ← HC.out], hB.alloc _⟩
      case measure => simp [intOf]; omega
    · have hfin : costL (s.take q) = C := by rw [List.take_of_length_le (by omega)]; exact HCE.out.symm
      rw [hfin]
      have z1 : ¬ ((q : Int) < (s.length : Int)) := by omega
      clear hfin
      go_wp2
      go_ret2
      exact ⟨rfl, hE.trans hB⟩

end Go.Proofs.YtgfajlaibgbdoaaGreat

