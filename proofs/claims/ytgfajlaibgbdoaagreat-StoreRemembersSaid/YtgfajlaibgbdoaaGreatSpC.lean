
import Derived.Test.YtgfajlaibgbdoaaGreatSpB
namespace Go.Proofs.YtgfajlaibgbdoaaGreat
open Go.RowKit

/-- a slice whose block may have been written: what it reads as then. -/
def InsPost {α : Type} (E : Enc α) (T : TypeId) (v : Value) (zs : List α) (w : World) (e : Ending) (w' : World) : Prop :=
  ∃ v', e = .returned v' ∧ E.Ow T w' v' zs ∧ Ext (blkL v) w w' ∧ Near w v v'

theorem szR : (Tryz.prog.info? 104).map (·.size) = some ER.k := by kernel_rfl

theorem insert_nil (u : Value) (ys : List Rng) (w : World) (hu : ER.Ow 104 w u ys) (hl : ys.length ≤ 1000000) :
    Calls Tryz.prog 82 #[.slice none 0 0, .int .i64 0, u] w (InsPost ER 104 (.slice none 0 0) ys w) := by
  obtain ⟨p, cu, rfl, hcu⟩ := hu.rd.len_eq
  by_cases hy : ys.length = 0
  · obtain rfl : ys = [] := List.eq_nil_of_length_eq_zero hy
    go_enter Tryz.func82, Tryz.ntmps82
    go_wp2
    go_ret
    exact ⟨_, rfl, .inl ⟨rfl, rfl⟩, Ext.refl _ _, by simp [Near, blkL]⟩
  · have hy' : 0 < ys.length := by omega
    have HU := Lib.hid hu
    clear hu
    go_enter Tryz.func82, Tryz.ntmps82
    go_wp2_with (with_reducible refine hold_at (d := 25) ?_)
    refine wpl_of rfl fun K hK => opw_append (E := ER) (T := 104) (zero := (0,0)) (bytes := 16) (v := .slice none 0 0) (xs := []) (ys := ys) tiR Tryz.underlying112 Tryz.underlying60 rfl rfl rfl (.inl ⟨rfl, rfl⟩) HU.out.rd (by simp; omega) (by simp; omega) ?_
    intro v' w' how hext hnear hnn
    refine hK _ _ ?_
    clear hK
    go_wp2
    go_ret
    exact ⟨_, rfl, how, hext, hnear⟩

set_option maxHeartbeats 1000000 in
theorem insert_ptr (g q cap : Nat) (l : List Rng) (u : Value) (xs ys : List Rng) (i : Nat) (w : World) (hg : w.heap[g]? = some (.cells (ER.flat l).toArray 104 (0, 0))) (hcap : xs.length ≤ cap) (hq : q + cap ≤ l.length) (hxs : win l q xs.length = xs)
    (hu : ER.Ow 104 w u ys) (hne : ∀ b ∈ blkL u, b ≠ g) (hi : i ≤ xs.length) (hl : xs.length + ys.length ≤ 1000000) :
    Calls Tryz.prog 82 #[.slice (some ⟨g, q * 2, none⟩) xs.length cap, .int .i64 i, u] w (InsPost ER 104 (.slice (some ⟨g, q * 2, none⟩) xs.length cap) (xs.take i ++ ys ++ xs.drop i) w) := by
  have hv : ER.Ow 104 w (.slice (some ⟨g, q * 2, none⟩) xs.length cap) xs := .inr ⟨g, q, cap, l, rfl, hg, hcap, hq, hxs⟩
  have HV := Lib.hid hv
  have HU := Lib.hid hu
  have HG := Lib.hid hg
  have HX := Lib.hid hxs
  obtain ⟨p, cu, rfl, hcu⟩ := hu.rd.len_eq
  clear hu hv hg hxs
  by_cases hy : ys.length = 0
  · obtain rfl : ys = [] := List.eq_nil_of_length_eq_zero hy
    by_cases hci : cap = i
    · subst hci
      go_enter Tryz.func82, Tryz.ntmps82
      go_wp2
      go_ret
      exact ⟨_, rfl, by simpa using HV.out, Ext.refl _ _, fun x hx => .inl hx⟩
    · go_enter Tryz.func82, Tryz.ntmps82
      go_wp2
      go_ret
      exact ⟨_, rfl, by simpa using HV.out, Ext.refl _ _, fun x hx => .inl hx⟩
  · have hy' : 0 < ys.length := by omega
    by_cases hin : i = xs.length
    · subst hin
      have fin : ∀ (w' : World) (v' : Value), ER.Ow 104 w' v' (xs ++ ys) → Ext [g] w w' → Near w (.slice (some ⟨g, q * 2, none⟩) xs.length cap) v' → InsPost ER 104 (.slice (some ⟨g, q * 2, none⟩) xs.length cap) (xs.take xs.length ++ ys ++ xs.drop xs.length) w (.returned v') w' :=
        fun w' v' h1 h2 h3 => ⟨v', rfl, by simpa using h1, h2, h3⟩
      by_cases hci : cap = xs.length
      · subst hci
        go_enter Tryz.func82, Tryz.ntmps82
        go_wp2_with (with_reducible refine hold_at (d := 25) ?_)
        refine wpl_of rfl fun K hK => opw_append (E := ER) (T := 104) (zero := (0,0)) (bytes := 16) (v := .slice (some ⟨g, q * 2, none⟩) xs.length xs.length) (xs := xs) (ys := ys) tiR Tryz.underlying112 Tryz.underlying60 rfl rfl rfl HV.out HU.out.rd (by omega) (by omega) ?_
        intro v' w' how hext hnear hnn
        refine hK _ _ ?_
        clear hK
        go_wp2
        go_ret
        exact fin _ _ how hext hnear
      · go_enter Tryz.func82, Tryz.ntmps82
        go_wp2_with (with_reducible refine hold_at (d := 25) ?_)
        refine wpl_of rfl fun K hK => opw_append (E := ER) (T := 104) (zero := (0,0)) (bytes := 16) (v := .slice (some ⟨g, q * 2, none⟩) xs.length cap) (xs := xs) (ys := ys) tiR Tryz.underlying112 Tryz.underlying60 rfl rfl rfl HV.out HU.out.rd (by omega) (by omega) ?_
        intro v' w' how hext hnear hnn
        refine hK _ _ ?_
        clear hK
        go_wp2
        go_ret
        exact fin _ _ how hext hnear
    · have hin' : i < xs.length := by omega
      have hvi : ER.Ow 104 w (.slice (some ⟨g, q * 2, none⟩) i cap) (xs.take i) := by
        have e : (xs.take i).length = i := by simp; omega
        refine .inr ⟨g, q, cap, l, by rw [e]; rfl, HG.out, by omega, hq, ?_⟩
        rw [e, ← HX.out, win, List.take_take, show min i xs.length = i from by omega]
      by_cases hroom : cap < xs.length + ys.length
      · have HVI := Lib.hid hvi
        clear hvi
        have e1 : (xs.take i).length = i := by simp; omega
        go_enter Tryz.func82, Tryz.ntmps82
        go_wp2_with (with_reducible refine hold_at (d := 40) ?_)
        refine wpl_of rfl fun K hK => opw_append_make (E := ER) (T := 104) (zero := (0,0)) (bytes := 16) (v := .slice (some ⟨g, q * 2, none⟩) i cap) (xs := xs.take i) (n := xs.length + ys.length - i) tiR Tryz.underlying112 Tryz.underlying3 rfl rfl ?_ HVI.out (by rw [e1]; omega) (by rw [e1]; omega) ?_
        · show Value.int _ _ = _
          congr 1; omega
        intro v2 w2 how hext hnear hfresh
        obtain ⟨hext0, hfr⟩ := hfresh _ cap (by rw [e1]) (by rw [e1]; omega)
        have hu2 := HU.out.ext0 hext0
        have hg2 := hext0.blk HG.out (by simp)
        clear hext hnear hfresh HVI
        rcases how with ⟨_, h⟩ | ⟨g2, q2, cap2, l2, rfl, hb2, hc2, hq2, hw2⟩
        · have := congrArg List.length h; simp at this; omega
        have hlen : (xs.take i ++ List.replicate (xs.length + ys.length - i) ((0,0) : Rng)).length = xs.length + ys.length := by simp; omega
        rw [hlen] at hc2 hw2 ⊢
        have hfr2 : w.heap.size ≤ g2 := hfr g2 (by simp [blkL])
        have hg2lt : g < w.heap.size := lt_of_blk HG.out
        have HB2 := Lib.hid hb2
        have HW2 := Lib.hid hw2
        have HU2 := Lib.hid hu2
        have HG2 := Lib.hid hg2
        clear hb2 hw2 hu2 hg2 hfr
        refine hK _ _ ?_
        clear hK
        go_wp2_with (with_reducible refine hold_at (d := 45) ?_)
        obtain ⟨pu, ou, hpu, hsrc⟩ : ∃ g' o' : Nat, p = some ⟨g', o', none⟩ ∧ ∀ j u, (ER.flat ys)[j]? = some u → w2.cell? ⟨g', o' + j, none⟩ = some u := by
          rcases HU2.out.rd with ⟨_, h⟩ | ⟨g', o', c', h, _, _, h3⟩
          · subst h; simp at hy'
          · cases h; exact ⟨g', o', rfl, h3⟩
        refine wpl_of rfl fun K hK => opw_copy (E := ER) (T := 104) (g := g2) (q := q2 + i) (l := l2) (ys := ys) Tryz.underlying112 szR rfl rfl rfl HB2.out (by omega) (fun _ => ⟨by simp [Nat.add_mul], pu, ou, hpu, hsrc⟩) (by omega) ?_
        intro w3 hb3 hext3
        have hg3 := hext3.blk HG2.out (by simp; omega)
        have HB3 := Lib.hid hb3
        have hsrc2 : ∀ j u, (ER.flat (xs.drop i))[j]? = some u → w3.cell? ⟨g, q * 2 + i * 2 + j, none⟩ = some u := by
          intro j u hj
          rw [ER.flat_drop, ← HX.out, win, ER.flat_take, ER.flat_drop, List.getElem?_drop, List.getElem?_take] at hj
          split at hj
          · rw [List.getElem?_drop] at hj
            rw [cell_of_row w3 g _ _ _ _ hg3]
            simpa [Nat.add_assoc] using hj
          · cases hj
        clear hb3 hg3
        refine hK _ _ ?_
        clear hK
        go_wp2_with fail
        have ew : IntKind.i64.wrap ((i:Int) + (ys.length:Int)) = (i : Int) + (ys.length : Int) := IntWalk.i64_in _ (by omega)
        have hn1 : ¬ cap2 = i + ys.length := by omega
        have hn2 : ¬ cap = i := by omega
        have hn4 : (0 : Int) ≤ (i : Int) + (ys.length : Int) := by omega
        have hn5 : ((i : Int) + (ys.length : Int)).toNat = i + ys.length := by omega
        go_region_law ((try simp only [Act.put, List.getElem_toArray, List.getElem_cons_zero, List.getElem_cons_succ, List.setIfInBounds_toArray, List.set_cons_zero, List.set_cons_succ]); rw [if_pos (show Region.wanted _ _ = true from rfl)]; refine (opw_copy (s := .tmp 50) (x := .tmp 53) (dT := 112) (sT := 112) (E := ER) (T := 104) (g := g2) (q := q2 + i + ys.length) (l := splice l2 (q2 + i) ys) (ys := xs.drop i) Tryz.underlying112 szR (by rfl) (by rfl) (by rfl) (by exact HB3.out) (by simp; omega) (by exact fun _ => ⟨by simp [Nat.add_mul, Nat.add_assoc], g, q * 2 + i * 2, rfl, hsrc2⟩) (by rw [length_splice _ _ _ (by omega)]; simp; omega) ?_); intro w4 hb4 hext4)
        have hE3 : Ext [] w w3 := hext0.trans' hext3 (by simp) (by simp; omega)
        have hE : Ext [] w w4 := hE3.drew.trans' hext4 (by simp) (by simp; omega)
        have hL1 : (splice l2 (q2 + i) ys).length = l2.length := length_splice _ _ _ (by omega)
        have hL2 : (splice (splice l2 (q2 + i) ys) (q2 + i + ys.length) (xs.drop i)).length = l2.length := by rw [length_splice _ _ _ (by rw [hL1]; simp; omega), hL1]
        have fin : InsPost ER 104 (.slice (some ⟨g, q * 2, none⟩) xs.length cap) (xs.take i ++ ys ++ xs.drop i) w (.returned (.slice (some ⟨g2, q2 * 2, none⟩) (xs.length + ys.length) cap2)) w4 := by
          have e3 : (xs.take i ++ ys ++ xs.drop i).length = xs.length + ys.length := by simp; omega
          refine ⟨_, rfl, .inr ⟨g2, q2, cap2, _, by rw [e3]; rfl, hb4, by rw [e3]; exact hc2, by rw [hL2]; exact hq2, ?_⟩, hE.nil, fun x hx => .inr (by simp [blkL] at hx; omega)⟩
          rw [e3]
          show win _ _ _ = _
          rw [Nat.add_assoc, win_splice _ _ _ _ _ (by simp; omega) (by rw [length_splice _ _ _ (by omega)]; omega), win_splice _ _ _ _ _ (by omega) (by omega), win, HW2.out]
          exact splice_fill2 _ _ _ _ _ e1 (by simp; omega)
        clear hb4 hext4 hext3 hE
        go_wp2
        go_ret
        exact fin
      · clear hvi
        have hu := HU.out
        rcases hu with ⟨h, _⟩ | ⟨gu, qu, cu', lu, h, hbu, hcu1, hqu, hwu⟩
        · simp at h; omega
        cases h
        have hgu : gu ≠ g := hne gu (by simp [blkL])
        have hov := fun W (h1 : W.heap[gu]? = some (.cells (ER.flat lu).toArray 104 (0, 0))) (h2 : W.heap[g]? = some (.cells (ER.flat l).toArray 104 (0, 0))) (o1 o2 la ca lb cb : Nat) =>
          overlaps_run W ⟨gu, o1, none⟩ ⟨g, o2, none⟩ la ca lb cb hgu _ _ _ _ h1 h2 (by simp [Enc.length_flat]; omega)
        have hov' := hov w hbu HG.out
        have HBU := Lib.hid hbu
        clear hov hbu hwu
        go_enter Tryz.func82, Tryz.ntmps82
        go_wp2_with fail
        have hsrc2 : ∀ j u, (ER.flat (xs.drop i))[j]? = some u → w.cell? ⟨g, q * 2 + i * 2 + j, none⟩ = some u := by
          intro j u hj
          rw [ER.flat_drop, ← HX.out, win, ER.flat_take, ER.flat_drop, List.getElem?_drop, List.getElem?_take] at hj
          split at hj
          · rw [List.getElem?_drop] at hj
            rw [cell_of_row w g _ _ _ _ HG.out]
            simpa [Nat.add_assoc] using hj
          · cases hj
        have ew : IntKind.i64.wrap ((i:Int) + (ys.length:Int)) = (i : Int) + (ys.length : Int) := IntWalk.i64_in _ (by omega)
        have hn1 : ¬ cap = i + ys.length := by omega
        have hn2 : ¬ cap = i := by omega
        have hn4 : (0 : Int) ≤ (i : Int) + (ys.length : Int) := by omega
        have hn5 : ((i : Int) + (ys.length : Int)).toNat = i + ys.length := by omega
        have hn6 : (i : Int) ≤ (xs.length : Int) + ys.length := by omega
        go_region_law ((try simp only [Act.put, List.getElem_toArray, List.getElem_cons_zero, List.getElem_cons_succ, List.setIfInBounds_toArray, List.set_cons_zero, List.set_cons_succ]); rw [if_pos (show Region.wanted _ _ = true from rfl)]; refine (opw_copy (s := .tmp 73) (x := .tmp 76) (dT := 112) (sT := 112) (E := ER) (T := 104) (g := g) (q := q + (i + ys.length)) (l := l) (ys := xs.drop i) Tryz.underlying112 szR (by rfl) (by rfl) (by rfl) (by exact HG.out) (by simp; omega) (by exact fun _ => ⟨by simp [Nat.add_mul], g, q * 2 + i * 2, rfl, hsrc2⟩) (by simp; omega) ?_); intro w3 hb3 hext3)
        have hL1 : (splice l (q + (i + ys.length)) (xs.drop i)).length = l.length := length_splice _ _ _ (by simp; omega)
        have hE3 : Ext [g] w w3 := (Ext.refl [g] w).drew.trans hext3
        have HB3 := Lib.hid hb3
        have hu3 := HU.out.ext hE3 (by simpa [blkL] using hgu)
        clear hb3 ew hn1 hn4 hn5 hn6 hov' hext3
        go_wp2_with (with_reducible refine hold_at (d := 82) ?_)
        rcases hu3.rd with ⟨h, _⟩ | ⟨g', o', c', h, _, _, h3⟩
        · cases h
        refine wpl_of rfl fun K hK => opw_copy (s := .tmp 80) (x := .tmp 81) (dT := 112) (sT := 60) (E := ER) (T := 104) (g := g) (q := q + i) (l := splice l (q + (i + ys.length)) (xs.drop i)) (ys := ys) Tryz.underlying112 szR rfl rfl rfl HB3.out (by omega) (fun _ => ⟨by simp [Nat.add_mul], g', o', by simpa using (Value.slice.inj h).1, h3⟩) (by omega) ?_
        intro w4 hb4 hext4
        refine hK _ _ ?_
        clear hK h3 hu3
        have hE : Ext [g] w w4 := hE3.trans hext4
        have hL2 : (splice (splice l (q + (i + ys.length)) (xs.drop i)) (q + i) ys).length = l.length := by rw [length_splice _ _ _ (by rw [hL1]; omega), hL1]
        have fin : InsPost ER 104 (.slice (some ⟨g, q * 2, none⟩) xs.length cap) (xs.take i ++ ys ++ xs.drop i) w (.returned (.slice (some ⟨g, q * 2, none⟩) (xs.length + ys.length) cap)) w4 := by
          have e3 : (xs.take i ++ ys ++ xs.drop i).length = xs.length + ys.length := by simp; omega
          refine ⟨_, rfl, .inr ⟨g, q, cap, _, by rw [e3]; rfl, hb4, by rw [e3]; omega, by rw [hL2]; exact hq, ?_⟩, hE, fun x hx => .inl hx⟩
          rw [e3]
          show win _ _ _ = _
          rw [win_splice _ _ _ _ _ (by omega) (by omega), win_splice _ _ _ _ _ (by simp; omega) (by omega)]
          have e4 : win l q (xs.length + ys.length) = xs ++ win l (q + xs.length) ys.length := by
            apply List.ext_getElem?
            intro j
            have hx := congrArg (fun (z : List Rng) => z[j]?) HX.out
            simp only [get_win] at hx
            simp only [get_win, List.getElem?_append]
            (repeat' split) <;> first | (exfalso; omega) | (rw [← hx, if_pos (by omega)]) | (congr 1 <;> omega)
          rw [e4]
          exact splice_fill3 _ _ _ _ hi (length_win _ _ _ (by omega))
        clear hb4 hext4 hE3 hE
        go_wp2
        go_ret
        exact fin

theorem insert_c (v u : Value) (xs ys : List Rng) (i : Nat) (w : World) (hv : ER.Ow 104 w v xs)
    (hu : ER.Ow 104 w u ys) (hne : ∀ b ∈ blkL u, b ∉ blkL v) (hi : i ≤ xs.length) (hl : xs.length + ys.length ≤ 1000000) :
    Calls Tryz.prog 82 #[v, .int .i64 i, u] w (InsPost ER 104 v (xs.take i ++ ys ++ xs.drop i) w) := by
  rcases hv with ⟨rfl, rfl⟩ | ⟨g, q, cap, l, rfl, hg, h1, h2, h3⟩
  · obtain rfl : i = 0 := by simpa using hi
    simpa using insert_nil u ys w hu (by omega)
  · exact insert_ptr g q cap l u xs ys i w hg h1 h2 h3 hu (by simpa [blkL] using hne) hi hl

end Go.Proofs.YtgfajlaibgbdoaaGreat
