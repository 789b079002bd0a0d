
import Derived.Test.YtgfajlaibgbdoaaGreatSpC
namespace Go.Proofs.YtgfajlaibgbdoaaGreat
open Go.RowKit

/-- the cells of a tail of a window. -/
theorem src_tail {w : World} {g q : Nat} {l xs : List Rng} {T : TypeId} {fr : Nat × Nat} (hg : w.heap[g]? = some (.cells (ER.flat l).toArray T fr)) (hx : win l q xs.length = xs) (i : Nat) :
    ∀ j u, (ER.flat (xs.drop i))[j]? = some u → w.cell? ⟨g, q * 2 + i * 2 + j, none⟩ = some u := by
  intro j u hj
  rw [ER.flat_drop, ← hx, win, ER.flat_take, ER.flat_drop, List.getElem?_drop, List.getElem?_take] at hj
  split at hj
  · rw [List.getElem?_drop] at hj
    rw [cell_of_row w g _ _ _ _ hg]
    simpa [Nat.add_assoc] using hj
  · cases hj

theorem win_more {α : Type} (l xs : List α) (q m : Nat) (h : win l q xs.length = xs) : win l q (xs.length + m) = xs ++ win l (q + xs.length) m := by
  apply List.ext_getElem?
  intro j
  have hx := congrArg (fun (z : List α) => z[j]?) h
  simp only [get_win] at hx
  simp only [get_win, List.getElem?_append]
  (repeat' split) <;> first | (exfalso; omega) | (rw [← hx, if_pos (by omega)]) | (congr 1 <;> omega)

theorem win_less {α : Type} (l xs : List α) (q m : Nat) (h : win l q xs.length = xs) (hm : m ≤ xs.length) : win l q m = xs.take m := by
  rw [← h, win, win, List.take_take, show min m xs.length = m from by omega]

set_option maxRecDepth 100000 in
set_option maxHeartbeats 1000000 in
theorem replace_end (g q cap : Nat) (l : List Rng) (u : Value) (xs ys : List Rng) (i j : Nat) (w : World) (hg : w.heap[g]? = some (.cells (ER.flat l).toArray 104 (0, 0))) (hcap : xs.length ≤ cap) (hq : q + cap ≤ l.length) (hxs : win l q xs.length = xs)
    (hu : ER.Ow 104 w u ys) (hne : ∀ b ∈ blkL u, b ≠ g) (hij : i < j) (hj : j ≤ xs.length) (hl : xs.length + ys.length ≤ 1000000) (hjn : j = xs.length) :
    Calls Tryz.prog 81 #[.slice (some ⟨g, q * 2, none⟩) xs.length cap, .int .i64 i, .int .i64 j, u] w (InsPost ER 104 (.slice (some ⟨g, q * 2, none⟩) xs.length cap) (xs.take i ++ ys ++ xs.drop j) w) := by
  have hv : ER.Ow 104 w (.slice (some ⟨g, q * 2, none⟩) xs.length cap) xs := .inr ⟨g, q, cap, l, rfl, hg, hcap, hq, hxs⟩
  have HV := Lib.hid hv
  have HU := Lib.hid hu
  have HG := Lib.hid hg
  have HX := Lib.hid hxs
  obtain ⟨p, cu, rfl, hcu⟩ := hu.rd.len_eq
  have hvi : ER.Ow 104 w (.slice (some ⟨g, q * 2, none⟩) i cap) (xs.take i) := by
    have e : (xs.take i).length = i := by simp; omega
    refine .inr ⟨g, q, cap, l, by rw [e]; rfl, HG.out, by omega, hq, ?_⟩
    rw [e, ← HX.out, win, List.take_take, show min i xs.length = i from by omega]
  have HVI := Lib.hid hvi
  clear hu hv hg hxs hvi
  have e1 : (xs.take i).length = i := by simp; omega
  subst hjn
  have hci : ¬ cap = i := by omega
  by_cases hsh : i + ys.length < xs.length
  · go_enter Tryz.func81, Tryz.ntmps81
    go_wp2_with (with_reducible refine hold_at (d := 34) ?_)
    refine wpl_of rfl fun K hK => opw_append_fit (E := ER) (T := 104) (zero := (0,0)) (bytes := 16) (g := g) (q := q) (n := i) (l := l) (ys := ys) tiR Tryz.underlying112 Tryz.underlying60 rfl rfl rfl HG.out HU.out.rd (by omega) hq ?_
    intro w2 hb2 hext2
    have HB2 := Lib.hid hb2
    clear hb2
    refine hK _ _ ?_
    clear hK
    have hn3 : ¬ cap = i + ys.length := by omega
    go_wp2_with (with_reducible refine hold_clear ?_)
    refine wpl_of rfl fun K hK => opw_clear (E := ER) (T := 104) (zero := (0,0)) (bytes := 16) (g := g) (q := q + (i + ys.length)) (l := splice l (q + i) ys) tiR Tryz.underlying112 rfl rfl HB2.out (fun _ => by simp [Nat.add_mul]) (by rw [length_splice _ _ _ (by omega)]; omega) ?_
    intro w3 hb3 hext3
    refine hK _ _ ?_
    clear hK
    have fin : InsPost ER 104 (.slice (some ⟨g, q * 2, none⟩) xs.length cap) (xs.take i ++ ys ++ xs.drop xs.length) w (.returned (.slice (some ⟨g, q * 2, none⟩) (i + ys.length) cap)) w3 := by
      have e3 : (xs.take i ++ ys ++ xs.drop xs.length).length = i + ys.length := by simp; omega
      have hL1 : (splice l (q + i) ys).length = l.length := length_splice _ _ _ (by omega)
      refine ⟨_, rfl, .inr ⟨g, q, cap, _, by rw [e3]; rfl, hb3, by rw [e3]; omega, by rw [length_splice _ _ _ (by rw [hL1]; simp; omega), hL1]; exact hq, ?_⟩, hext2.trans hext3, fun x hx => .inl hx⟩
      rw [e3]
      show win _ _ _ = _
      apply List.ext_getElem?
      intro k
      have hx := congrArg (fun (z : List Rng) => z[k]?) HX.out
      simp only [get_win] at hx
      rw [get_win, get_splice _ _ _ _ (by rw [hL1]; omega), get_splice _ _ _ _ (by omega)]
      simp only [List.drop_length, List.append_nil, List.getElem?_append, e1, List.getElem?_take]
      (repeat' split) <;> first | rfl | (exfalso; omega) | (rw [← hx, if_pos (by omega)]) | (congr 1 <;> omega) | (rw [List.getElem?_eq_none (by omega)])
    clear hext2 hext3 hb3
    go_wp2
    go_ret
    exact fin
  · go_enter Tryz.func81, Tryz.ntmps81
    go_wp2_with (with_reducible refine hold_at (d := 34) ?_)
    refine wpl_of rfl fun K hK => opw_append (E := ER) (T := 104) (zero := (0,0)) (bytes := 16) (v := .slice (some ⟨g, q * 2, none⟩) i cap) (xs := xs.take i) (ys := ys) tiR Tryz.underlying112 Tryz.underlying60 rfl rfl rfl HVI.out HU.out.rd (by rw [e1]; omega) (by rw [e1]; omega) ?_
    intro v2 w2 how hext hnear hnn
    obtain ⟨p2, c2, hv2, hc2⟩ := how.rd.len_eq
    have elen : (xs.take i ++ ys).length = i + ys.length := by simp; omega
    rw [elen] at hv2 hc2
    subst hv2
    have fin : InsPost ER 104 (.slice (some ⟨g, q * 2, none⟩) xs.length cap) (xs.take i ++ ys ++ xs.drop xs.length) w (.returned (.slice p2 (i + ys.length) c2)) w2 :=
      ⟨_, rfl, by simpa using how, hext, hnear⟩
    clear how hnn hext hnear
    refine hK _ _ ?_
    clear hK
    go_wp2
    go_ret
    exact fin

set_option maxRecDepth 100000 in
set_option maxHeartbeats 1000000 in
theorem replace_grow (g q cap : Nat) (l : List Rng) (u : Value) (xs ys : List Rng) (i j : Nat) (w : World) (hg : w.heap[g]? = some (.cells (ER.flat l).toArray 104 (0, 0))) (hcap : xs.length ≤ cap) (hq : q + cap ≤ l.length) (hxs : win l q xs.length = xs)
    (hu : ER.Ow 104 w u ys) (hne : ∀ b ∈ blkL u, b ≠ g) (hij : i < j) (hj : j ≤ xs.length) (hl : xs.length + ys.length ≤ 1000000) (hjn : j ≠ xs.length) (hroom : cap < i + ys.length + (xs.length - j)) :
    Calls Tryz.prog 81 #[.slice (some ⟨g, q * 2, none⟩) xs.length cap, .int .i64 i, .int .i64 j, u] w (InsPost ER 104 (.slice (some ⟨g, q * 2, none⟩) xs.length cap) (xs.take i ++ ys ++ xs.drop j) w) := by
  have hv : ER.Ow 104 w (.slice (some ⟨g, q * 2, none⟩) xs.length cap) xs := .inr ⟨g, q, cap, l, rfl, hg, hcap, hq, hxs⟩
  have HV := Lib.hid hv
  have HU := Lib.hid hu
  have HG := Lib.hid hg
  have HX := Lib.hid hxs
  obtain ⟨p, cu, rfl, hcu⟩ := hu.rd.len_eq
  have hvi : ER.Ow 104 w (.slice (some ⟨g, q * 2, none⟩) i cap) (xs.take i) := by
    have e : (xs.take i).length = i := by simp; omega
    refine .inr ⟨g, q, cap, l, by rw [e]; rfl, HG.out, by omega, hq, ?_⟩
    rw [e, ← HX.out, win, List.take_take, show min i xs.length = i from by omega]
  have HVI := Lib.hid hvi
  clear hu hv hg hxs hvi
  have e1 : (xs.take i).length = i := by simp; omega
  have hjn' : j < xs.length := by omega
  have ew1 : IntKind.i64.wrap ((i:Int) + (ys.length:Int)) = (i : Int) + (ys.length : Int) := IntWalk.i64_in _ (by omega)
  have ew2 : IntKind.i64.wrap ((i:Int) + (ys.length:Int) + ((xs.length - j : Nat) : Int)) = (i : Int) + (ys.length : Int) + ((xs.length - j : Nat) : Int) := IntWalk.i64_in _ (by omega)
  have hn1 : ¬ cap = j := by omega
  have hn2 : ¬ cap = i := by omega
  have ekk : (xs.drop j).length = xs.length - j := by simp
  have e3 : (xs.take i ++ ys ++ xs.drop j).length = i + ys.length + (xs.length - j) := by simp; omega
  go_enter Tryz.func81, Tryz.ntmps81
  go_wp2_with (with_reducible refine hold_at (d := 67) ?_)
  go_quiet (fail)
  go_wp2_with (with_reducible refine hold_at (d := 67) ?_)
  generalize hW : w.drewN nq = W
  have hE0 : Ext [] w W := hW ▸ (Ext.refl _ _).drewN _
  clear hW
  refine wpl_of rfl fun K hK => opw_append_make (E := ER) (T := 104) (zero := (0,0)) (bytes := 16) (v := .slice (some ⟨g, q * 2, none⟩) i cap) (xs := xs.take i) (n := i + ys.length + (xs.length - j) - i) tiR Tryz.underlying112 Tryz.underlying3 rfl rfl ?_ (HVI.out.ext0 hE0) (by rw [e1]; omega) (by rw [e1]; omega) ?_
  · show Value.int _ _ = _
    congr 1; omega
  intro v2 w2 how hext hnear hfresh
  obtain ⟨hext0, hfr⟩ := hfresh _ cap (by rw [e1]) (by rw [e1]; omega)
  have hE2 : Ext [] w w2 := hE0.trans hext0
  have hu2 := HU.out.ext0 hE2
  have hg2 := hE2.blk HG.out (by simp)
  clear hext hnear hfresh HVI
  rcases how with ⟨_, h⟩ | ⟨g2, q2, cap2, l2, rfl, hb2, hc2, hq2, hw2⟩
  · have := congrArg List.length h; simp at this; omega
  have hlen : (xs.take i ++ List.replicate (i + ys.length + (xs.length - j) - i) ((0,0) : Rng)).length = i + ys.length + (xs.length - j) := by simp; omega
  rw [hlen] at hc2 hw2 ⊢
  have hfr2 : W.heap.size ≤ g2 := hfr g2 (by simp [blkL])
  have hfr3 : w.heap.size ≤ g2 := Nat.le_trans hE0.size hfr2
  have hg2lt : g < w.heap.size := lt_of_blk HG.out
  have HB2 := Lib.hid hb2
  have HW2 := Lib.hid hw2
  have HU2 := Lib.hid hu2
  have HG2 := Lib.hid hg2
  clear hb2 hw2 hu2 hg2 hfr
  refine hK _ _ ?_
  clear hK
  go_wp2_with (with_reducible refine hold_at (d := 72) ?_)
  refine wpl_of rfl fun K hK => opw_copy (E := ER) (T := 104) (g := g2) (q := q2 + i) (l := l2) (ys := ys) Tryz.underlying112 szR rfl rfl rfl HB2.out (by omega) ?_ (by omega) ?_
  · intro hpos
    rcases HU2.out.rd with ⟨_, h⟩ | ⟨g', o', c', h, _, _, h3⟩
    · subst h; simp at hpos
    · cases h; exact ⟨by simp [Nat.add_mul], g', o', rfl, h3⟩
  intro w3 hb3 hext3
  have hg3 := hext3.blk HG2.out (by simp; omega)
  have HB3 := Lib.hid hb3
  have hsrc2 := src_tail hg3 HX.out j
  clear hb3 hg3
  refine hK _ _ ?_
  clear hK
  go_wp2_with fail
  have hn3 : ¬ cap2 = i + ys.length := by omega
  have hn4 : (0 : Int) ≤ (i : Int) + (ys.length : Int) := by omega
  have hn5 : ((i : Int) + (ys.length : Int)).toNat = i + ys.length := by omega
  have hn6 : (i : Int) + (ys.length : Int) ≤ (i : Int) + (ys.length : Int) + ((xs.length - j : Nat) : Int) := by omega
  have hn7 : i + ys.length ≤ i + ys.length + (xs.length - j) := by omega
  go_region_law ((try simp only [Act.put, List.getElem_toArray, List.getElem_cons_zero, List.getElem_cons_succ, List.setIfInBounds_toArray, List.set_cons_zero, List.set_cons_succ]); rw [if_pos (show Region.wanted _ _ = true from rfl)]; refine (opw_copy (s := .tmp 78) (x := .tmp 81) (dT := 112) (sT := 112) (E := ER) (T := 104) (g := g2) (q := q2 + (i + ys.length)) (l := splice l2 (q2 + i) ys) (ys := xs.drop j) Tryz.underlying112 szR (by rfl) (by rfl) (by rfl) (by exact HB3.out) (by simp <;> omega) (by exact fun _ => ⟨by simp [Nat.add_mul], g, q * 2 + j * 2, rfl, hsrc2⟩) (by rw [length_splice _ _ _ (by omega)]; simp; omega) ?_); intro w4 hb4 hext4)
  have hE3 : Ext [] w w3 := hE2.trans' hext3 (by simp) (by simp; omega)
  have hE : Ext [] w w4 := hE3.drew.trans' hext4 (by simp) (by simp; omega)
  have hL1 : (splice l2 (q2 + i) ys).length = l2.length := length_splice _ _ _ (by omega)
  have hL2 : (splice (splice l2 (q2 + i) ys) (q2 + (i + ys.length)) (xs.drop j)).length = l2.length := by rw [length_splice _ _ _ (by rw [hL1]; simp; omega), hL1]
  have fin : InsPost ER 104 (.slice (some ⟨g, q * 2, none⟩) xs.length cap) (xs.take i ++ ys ++ xs.drop j) w (.returned (.slice (some ⟨g2, q2 * 2, none⟩) (i + ys.length + (xs.length - j)) cap2)) w4 := by
    refine ⟨_, rfl, .inr ⟨g2, q2, cap2, _, by rw [e3]; rfl, hb4, by rw [e3]; exact hc2, by rw [hL2]; exact hq2, ?_⟩, hE.nil, fun x hx => .inr (by simp [blkL] at hx; omega)⟩
    rw [e3]
    show win _ _ _ = _
    rw [win_splice _ _ _ _ _ (by rw [ekk]; omega) (by rw [hL1]; omega), win_splice _ _ _ _ _ (by omega) (by omega), win, HW2.out]
    exact splice_fill2 _ _ _ _ _ e1 (by simp; omega)
  clear hb4 hext4 hext3 hE hE3 hE2
  go_wp2
  go_ret
  exact fin

set_option maxRecDepth 100000 in
set_option maxHeartbeats 1000000 in
theorem replace_fit (g q cap : Nat) (l : List Rng) (u : Value) (xs ys : List Rng) (i j : Nat) (w : World) (hg : w.heap[g]? = some (.cells (ER.flat l).toArray 104 (0, 0))) (hcap : xs.length ≤ cap) (hq : q + cap ≤ l.length) (hxs : win l q xs.length = xs)
    (hu : ER.Ow 104 w u ys) (hne : ∀ b ∈ blkL u, b ≠ g) (hij : i < j) (hj : j ≤ xs.length) (hl : xs.length + ys.length ≤ 1000000) (hjn : j ≠ xs.length) (hroom : ¬ cap < i + ys.length + (xs.length - j)) (hfit : i + ys.length ≤ j) :
    Calls Tryz.prog 81 #[.slice (some ⟨g, q * 2, none⟩) xs.length cap, .int .i64 i, .int .i64 j, u] w (InsPost ER 104 (.slice (some ⟨g, q * 2, none⟩) xs.length cap) (xs.take i ++ ys ++ xs.drop j) w) := by
  have hv : ER.Ow 104 w (.slice (some ⟨g, q * 2, none⟩) xs.length cap) xs := .inr ⟨g, q, cap, l, rfl, hg, hcap, hq, hxs⟩
  have HV := Lib.hid hv
  have HU := Lib.hid hu
  have HG := Lib.hid hg
  have HX := Lib.hid hxs
  obtain ⟨p, cu, rfl, hcu⟩ := hu.rd.len_eq
  have hvi : ER.Ow 104 w (.slice (some ⟨g, q * 2, none⟩) i cap) (xs.take i) := by
    have e : (xs.take i).length = i := by simp; omega
    refine .inr ⟨g, q, cap, l, by rw [e]; rfl, HG.out, by omega, hq, ?_⟩
    rw [e, ← HX.out, win, List.take_take, show min i xs.length = i from by omega]
  have HVI := Lib.hid hvi
  clear hu hv hg hxs hvi
  have e1 : (xs.take i).length = i := by simp; omega
  have hjn' : j < xs.length := by omega
  have ew1 : IntKind.i64.wrap ((i:Int) + (ys.length:Int)) = (i : Int) + (ys.length : Int) := IntWalk.i64_in _ (by omega)
  have ew2 : IntKind.i64.wrap ((i:Int) + (ys.length:Int) + ((xs.length - j : Nat) : Int)) = (i : Int) + (ys.length : Int) + ((xs.length - j : Nat) : Int) := IntWalk.i64_in _ (by omega)
  have hn1 : ¬ cap = j := by omega
  have hn2 : ¬ cap = i := by omega
  have ekk : (xs.drop j).length = xs.length - j := by simp
  have e3 : (xs.take i ++ ys ++ xs.drop j).length = i + ys.length + (xs.length - j) := by simp; omega
  have hL1 : (splice l (q + i) ys).length = l.length := length_splice _ _ _ (by omega)
  have hn3 : ¬ cap = i + ys.length := by omega
  have hn4 : (0 : Int) ≤ (i : Int) + (ys.length : Int) := by omega
  have hn5 : ((i : Int) + (ys.length : Int)).toNat = i + ys.length := by omega
  have hn6 : (i : Int) + (ys.length : Int) ≤ (i : Int) + (ys.length : Int) + ((xs.length - j : Nat) : Int) := by omega
  have hjz : (j : Int) ≤ xs.length := by omega
  have hnj : ¬ xs.length - j = 0 := by omega
  have hu := HU.out
  have hct : cap = i + ys.length + (xs.length - j) ∨ ¬ cap = i + ys.length + (xs.length - j) := by omega
  rcases hct with rfl | hct
  all_goals
    go_enter Tryz.func81, Tryz.ntmps81
    go_wp2_with (with_reducible refine hold_at (d := 97) ?_)
    go_quiet (fail)
    go_wp2_with (with_reducible refine hold_at (d := 97) ?_)
    generalize hW : w.drewN nq = W
    have hE0 : Ext [] w W := hW ▸ (Ext.refl _ _).drewN _
    clear hW hu
    refine wpl_of rfl fun K hK => opw_copy (E := ER) (T := 104) (g := g) (q := q + i) (l := l) (ys := ys) Tryz.underlying112 szR rfl rfl rfl (hE0.blk HG.out (by simp)) (by omega) ?_ (by omega) ?_
    · intro hpos
      rcases (HU.out.ext0 hE0).rd with ⟨_, h⟩ | ⟨g', o', c', h, _, _, h3⟩
      · subst h; simp at hpos
      · cases h; exact ⟨by simp [Nat.add_mul], g', o', rfl, h3⟩
    intro w3 hb3 hext3
    have hE3 : Ext [g] w w3 := hE0.nil.trans hext3
    have HB3 := Lib.hid hb3
    have hsrc2 : ∀ k u, (ER.flat (xs.drop j))[k]? = some u → w3.cell? ⟨g, q * 2 + j * 2 + k, none⟩ = some u := by
      have hw : win (splice l (q + i) ys) q (splice xs i ys).length = splice xs i ys := by
        rw [length_splice _ _ _ (by omega), win_splice _ _ _ _ _ (by omega) (by omega), HX.out]
      have ht : (splice xs i ys).drop j = xs.drop j := by
        apply List.ext_getElem?
        intro k
        rw [List.getElem?_drop, List.getElem?_drop, get_splice _ _ _ _ (by omega), if_neg (by omega), if_neg (by omega)]
      have h := src_tail hb3 hw j
      rwa [ht] at h
    clear hb3 hext3
    refine hK _ _ ?_
    clear hK
    go_wp2_with fail
    go_region_law ((try simp only [Act.put, List.getElem_toArray, List.getElem_cons_zero, List.getElem_cons_succ, List.setIfInBounds_toArray, List.set_cons_zero, List.set_cons_succ]); rw [if_pos (show Region.wanted _ _ = true from rfl)]; refine (opw_copy (s := .tmp 103) (x := .tmp 106) (dT := 112) (sT := 112) (E := ER) (T := 104) (g := g) (q := q + (i + ys.length)) (l := splice l (q + i) ys) (ys := xs.drop j) Tryz.underlying112 szR (by rfl) (by rfl) (by rfl) (by exact HB3.out) (by simp <;> omega) (by exact fun _ => ⟨by simp [Nat.add_mul], g, q * 2 + j * 2, rfl, hsrc2⟩) (by rw [hL1]; simp; omega) ?_); intro w4 hb4 hext4)
    have hE4 : Ext [g] w w4 := hE3.drew.trans hext4
    have HB4 := Lib.hid hb4
    clear hb4 hext4
    have hL2 : (splice (splice l (q + i) ys) (q + (i + ys.length)) (xs.drop j)).length = l.length := by rw [length_splice _ _ _ (by rw [hL1]; simp; omega), hL1]
    go_wp2_with (with_reducible refine hold_clear ?_)
    refine wpl_of rfl fun K hK => opw_clear (E := ER) (T := 104) (zero := (0,0)) (bytes := 16) (g := g) (q := q + (i + ys.length + (xs.length - j))) tiR Tryz.underlying112 rfl rfl HB4.out ?_ (by rw [hL2]; omega) ?_
    · intro hpos
      first | (exfalso; omega) | (simp [Nat.add_mul])
    intro w5 hb5 hext5
    have hE : Ext [g] w w5 := hE4.trans hext5
    have HB5 := Lib.hid hb5
    clear hb5 hext5
    refine hK _ _ ?_
    clear hK
    go_wp2
    go_ret
    refine ⟨_, rfl, .inr ⟨g, q, _, _, by rw [e3]; rfl, HB5.out, by rw [e3]; omega, by rw [length_splice _ _ _ (by rw [hL2]; simp; omega), hL2]; exact hq, ?_⟩, hE, fun x hx => .inl hx⟩
    rw [e3]
    show win _ _ _ = _
    apply List.ext_getElem?
    intro k
    have hx := congrArg (fun (z : List Rng) => z[k]?) HX.out
    simp only [get_win] at hx
    rw [get_win, get_splice _ _ _ _ (by rw [hL2]; omega), get_splice _ _ _ _ (by rw [hL1]; omega), get_splice _ _ _ _ (by omega)]
    simp only [List.getElem?_append, e1, List.getElem?_take, ekk, List.length_append, List.getElem?_drop]
    (repeat' split) <;> first | rfl | (exfalso; omega) | (rw [← hx, if_pos (by omega)]) | (congr 1 <;> omega) | (rw [List.getElem?_eq_none (by omega)])

set_option maxRecDepth 100000 in
set_option maxHeartbeats 1000000 in
theorem replace_expand (g q cap : Nat) (l : List Rng) (u : Value) (xs ys : List Rng) (i j : Nat) (w : World) (hg : w.heap[g]? = some (.cells (ER.flat l).toArray 104 (0, 0))) (hcap : xs.length ≤ cap) (hq : q + cap ≤ l.length) (hxs : win l q xs.length = xs)
    (hu : ER.Ow 104 w u ys) (hne : ∀ b ∈ blkL u, b ≠ g) (hij : i < j) (hj : j ≤ xs.length) (hl : xs.length + ys.length ≤ 1000000) (hjn : j ≠ xs.length) (hroom : ¬ cap < i + ys.length + (xs.length - j)) (hfit : ¬ i + ys.length ≤ j) :
    Calls Tryz.prog 81 #[.slice (some ⟨g, q * 2, none⟩) xs.length cap, .int .i64 i, .int .i64 j, u] w (InsPost ER 104 (.slice (some ⟨g, q * 2, none⟩) xs.length cap) (xs.take i ++ ys ++ xs.drop j) w) := by
  have hv : ER.Ow 104 w (.slice (some ⟨g, q * 2, none⟩) xs.length cap) xs := .inr ⟨g, q, cap, l, rfl, hg, hcap, hq, hxs⟩
  have HV := Lib.hid hv
  have HU := Lib.hid hu
  have HG := Lib.hid hg
  have HX := Lib.hid hxs
  obtain ⟨p, cu, rfl, hcu⟩ := hu.rd.len_eq
  have hvi : ER.Ow 104 w (.slice (some ⟨g, q * 2, none⟩) i cap) (xs.take i) := by
    have e : (xs.take i).length = i := by simp; omega
    refine .inr ⟨g, q, cap, l, by rw [e]; rfl, HG.out, by omega, hq, ?_⟩
    rw [e, ← HX.out, win, List.take_take, show min i xs.length = i from by omega]
  have HVI := Lib.hid hvi
  clear hu hv hg hxs hvi
  have e1 : (xs.take i).length = i := by simp; omega
  have hjn' : j < xs.length := by omega
  have ew1 : IntKind.i64.wrap ((i:Int) + (ys.length:Int)) = (i : Int) + (ys.length : Int) := IntWalk.i64_in _ (by omega)
  have ew2 : IntKind.i64.wrap ((i:Int) + (ys.length:Int) + ((xs.length - j : Nat) : Int)) = (i : Int) + (ys.length : Int) + ((xs.length - j : Nat) : Int) := IntWalk.i64_in _ (by omega)
  have hn1 : ¬ cap = j := by omega
  have hn2 : ¬ cap = i := by omega
  have ekk : (xs.drop j).length = xs.length - j := by simp
  have e3 : (xs.take i ++ ys ++ xs.drop j).length = i + ys.length + (xs.length - j) := by simp; omega
  have hL1 : (splice l (q + i) ys).length = l.length := length_splice _ _ _ (by omega)
  have hn3 : ¬ cap = i + ys.length := by omega
  have hn4 : (0 : Int) ≤ (i : Int) + (ys.length : Int) := by omega
  have hn5 : ((i : Int) + (ys.length : Int)).toNat = i + ys.length := by omega
  have hn6 : (i : Int) + (ys.length : Int) ≤ (i : Int) + (ys.length : Int) + ((xs.length - j : Nat) : Int) := by omega
  have hjz : (j : Int) ≤ xs.length := by omega
  have hnj : ¬ xs.length - j = 0 := by omega
  have hu := HU.out
  rcases hu with ⟨h, _⟩ | ⟨gu, qu, cu', lu, h, hbu, hcu1, hqu, hwu⟩
  · simp at h; omega
  cases h
  have hgu : gu ≠ g := hne gu (by simp [blkL])
  have hov := fun W (h1 : W.heap[gu]? = some (.cells (ER.flat lu).toArray 104 (0, 0))) (h2 : W.heap[g]? = some (.cells (ER.flat l).toArray 104 (0, 0))) (o1 o2 la ca lb cb : Nat) =>
    overlaps_run W ⟨g, o2, none⟩ ⟨gu, o1, none⟩ la ca lb cb (Ne.symm hgu) _ _ _ _ h2 h1 (by simp [Enc.length_flat]; omega)
  have hov' := fun nq => hov (w.drewN nq) hbu HG.out
  clear hov hbu hwu
  go_enter Tryz.func81, Tryz.ntmps81
  go_wp2_with (with_reducible refine hold_at (d := 119) ?_)
  go_quiet (fail)
  go_wp2_with fail
  generalize hW : w.drewN nq = W
  have hE0 : Ext [] w W := hW ▸ (Ext.refl _ _).drewN _
  clear hW hov'
  have HG2 := Lib.hid (hE0.blk HG.out (by simp))
  have hsrc2 := src_tail HG2.out HX.out j
  go_region_law ((try simp only [Act.put, List.getElem_toArray, List.getElem_cons_zero, List.getElem_cons_succ, List.setIfInBounds_toArray, List.set_cons_zero, List.set_cons_succ]); rw [if_pos (show Region.wanted _ _ = true from rfl)]; refine (opw_copy (s := .tmp 126) (x := .tmp 129) (dT := 112) (sT := 112) (E := ER) (T := 104) (g := g) (q := q + (i + ys.length)) (l := l) (ys := xs.drop j) Tryz.underlying112 szR (by rfl) (by rfl) (by rfl) (by exact HG2.out) (by simp <;> omega) (by exact fun _ => ⟨by simp [Nat.add_mul], g, q * 2 + j * 2, rfl, hsrc2⟩) (by simp; omega) ?_); intro w3 hb3 hext3)
  have hL1 : (splice l (q + (i + ys.length)) (xs.drop j)).length = l.length := length_splice _ _ _ (by simp; omega)
  have hE3 : Ext [g] w w3 := hE0.drew.nil.trans hext3
  have HB3 := Lib.hid hb3
  have hu3 := HU.out.ext hE3 (by simpa [blkL] using hgu)
  clear hb3 hext3
  go_wp2_with (with_reducible refine hold_at (d := 135) ?_)
  rcases hu3.rd with ⟨h, _⟩ | ⟨g', o', c', h, _, _, h3⟩
  · cases h
  refine wpl_of rfl fun K hK => opw_copy (s := .tmp 133) (x := .tmp 134) (dT := 112) (sT := 60) (E := ER) (T := 104) (g := g) (q := q + i) (l := splice l (q + (i + ys.length)) (xs.drop j)) (ys := ys) Tryz.underlying112 szR rfl rfl rfl HB3.out (by omega) (fun _ => ⟨by simp [Nat.add_mul], g', o', by simpa using (Value.slice.inj h).1, h3⟩) (by omega) ?_
  intro w4 hb4 hext4
  have hE : Ext [g] w w4 := hE3.trans hext4
  have HB4 := Lib.hid hb4
  refine hK _ _ ?_
  clear hK h3 hu3 hb4 hext4 hsrc2
  have hL2 : (splice (splice l (q + (i + ys.length)) (xs.drop j)) (q + i) ys).length = l.length := by rw [length_splice _ _ _ (by rw [hL1]; omega), hL1]
  go_wp2
  go_ret
  refine ⟨_, rfl, .inr ⟨g, q, _, _, by rw [e3]; rfl, HB4.out, by rw [e3]; omega, by rw [hL2]; exact hq, ?_⟩, hE, fun x hx => .inl hx⟩
  rw [e3]
  show win _ _ _ = _
  apply List.ext_getElem?
  intro k
  have hx := congrArg (fun (z : List Rng) => z[k]?) HX.out
  simp only [get_win] at hx
  rw [get_win, get_splice _ _ _ _ (by rw [hL1]; omega), get_splice _ _ _ _ (by omega)]
  simp only [List.getElem?_append, e1, List.getElem?_take, ekk, List.length_append, List.getElem?_drop]
  (repeat' split) <;> first | rfl | (exfalso; omega) | (rw [← hx, if_pos (by omega)]) | (congr 1 <;> omega) | (rw [List.getElem?_eq_none (by omega)])


theorem replace_c (g q cap : Nat) (l : List Rng) (u : Value) (xs ys : List Rng) (i j : Nat) (w : World) (hg : w.heap[g]? = some (.cells (ER.flat l).toArray 104 (0, 0))) (hcap : xs.length ≤ cap) (hq : q + cap ≤ l.length) (hxs : win l q xs.length = xs)
    (hu : ER.Ow 104 w u ys) (hne : ∀ b ∈ blkL u, b ≠ g) (hij : i < j) (hj : j ≤ xs.length) (hl : xs.length + ys.length ≤ 1000000) :
    Calls Tryz.prog 81 #[.slice (some ⟨g, q * 2, none⟩) xs.length cap, .int .i64 i, .int .i64 j, u] w (InsPost ER 104 (.slice (some ⟨g, q * 2, none⟩) xs.length cap) (xs.take i ++ ys ++ xs.drop j) w) := by
  by_cases hjn : j = xs.length
  · exact replace_end g q cap l u xs ys i j w hg hcap hq hxs hu hne hij hj hl hjn
  · by_cases hroom : cap < i + ys.length + (xs.length - j)
    · exact replace_grow g q cap l u xs ys i j w hg hcap hq hxs hu hne hij hj hl hjn hroom
    · by_cases hfit : i + ys.length ≤ j
      · exact replace_fit g q cap l u xs ys i j w hg hcap hq hxs hu hne hij hj hl hjn hroom hfit
      · exact replace_expand g q cap l u xs ys i j w hg hcap hq hxs hu hne hij hj hl hjn hroom hfit

end Go.Proofs.YtgfajlaibgbdoaaGreat
