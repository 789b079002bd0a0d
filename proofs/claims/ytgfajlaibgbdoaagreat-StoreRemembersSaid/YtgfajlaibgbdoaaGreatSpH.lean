
import Derived.Test.YtgfajlaibgbdoaaGreatSpG
namespace Go.Proofs.YtgfajlaibgbdoaaGreat
open Go.RowKit

/-- a field of an element of a list of ranges is written. -/
theorem flat_set {l : List Rng} {j : Nat} (h : j < l.length) (r : Nat) (u : Value) (a : Rng) (ha : ER.enc a = (ER.enc (l.getD j (0,0))).set r u) (hr : r < 2) : (ER.flat l).set (j * 2 + r) u = ER.flat (l.set j a) := by
  induction l generalizing j with
  | nil => simp at h
  | cons x l ih =>
    cases j with
    | zero =>
      simp only [List.getD_cons_zero] at ha
      simp only [Nat.zero_mul, Nat.zero_add, Enc.flat_cons, List.set_cons_zero, ha]
      rw [List.set_append_left _ _ (by simpa using hr)]
    | succ j =>
      simp only [List.getD_cons_succ] at ha
      simp only [Enc.flat_cons, List.set_cons_succ]
      rw [← ih (by simpa using h) ha, List.set_append_right _ _ (by simp; omega)]
      congr 2
      simp; omega

theorem blk_set {w : World} {g j o : Nat} {l : List Rng} (hg : w.heap[g]? = some (.cells (ER.flat l).toArray 104 (0, 0))) (h : j < l.length) (ho : o = j * 2 + 1) (b : Int) :
    (w.setCell ⟨g, o, none⟩ (.int .i64 b)).heap[g]? = some (.cells (ER.flat (l.set j ((l.getD j (0,0)).1, b))).toArray 104 (0, 0)) := by
  subst ho
  rw [heap_setCell_same w g _ _ _ _ hg]
  congr 2
  apply Array.ext'
  simp only [Array.toList_setIfInBounds]
  exact flat_set h 1 _ _ rfl (by omega)

theorem win_set {α : Type} (l : List α) (q i n : Nat) (a : α) (h : i < n) : win (l.set (q + i) a) q n = (win l q n).set i a := by
  apply List.ext_getElem?
  intro k
  rw [get_win, List.getElem?_set, List.getElem?_set, get_win]
  have hl : (win l q n).length = min n (l.length - q) := by simp [win]
  rw [hl]
  (repeat' split) <;> first | rfl | (exfalso; omega) | (simp; omega)

theorem take_last {s : List Rng} {k : Nat} (h0 : 0 < k) (hk : k ≤ s.length) : s.take k = s.take (k - 1) ++ [s.getD (k - 1) (0,0)] := by
  obtain ⟨m, rfl⟩ : ∃ m, k = m + 1 := ⟨k - 1, by omega⟩
  have hm : m < s.length := by omega
  have e : s.getD m (0,0) = s[m] := by simp [List.getD, hm]
  simp only [Nat.add_sub_cancel]
  rw [e, List.take_succ_eq_append_getElem hm]
theorem addR_at {s B : List Rng} {r : Rng} {k : Nat} (h0 : 0 < k) (hk : k ≤ s.length) :
    addR (s.take k) r B = if (s.getD (k - 1) (0,0)).2 = r.1 then s.take (k - 1) ++ ((s.getD (k - 1) (0,0)).1, (addT r B).1) :: (addT r B).2 else s.take k ++ (r.1, (addT r B).1) :: (addT r B).2 := by
  rw [addR_eq, take_last h0 hk]
  simp
theorem set_del {s B : List Rng} {k : Nat} {m a : Rng} (h0 : 0 < k) (hk : k ≤ s.length) : ((s.take k ++ m :: B).set (k - 1) a).take k ++ ((s.take k ++ m :: B).set (k - 1) a).drop (k + 1) = s.take (k - 1) ++ a :: B := by
  have hl : (s.take (k - 1)).length = k - 1 := by simp; omega
  rw [take_last h0 hk, List.append_assoc, List.set_append_right _ _ (by omega), hl, Nat.sub_self]
  simp only [List.singleton_append, List.set_cons_zero]
  rw [List.take_append, List.drop_append, hl, show k - (k - 1) = 1 from by omega, show k + 1 - (k - 1) = 2 from by omega]
  rw [List.take_of_length_le (by omega), List.drop_eq_nil_of_le (by omega)]
  simp
theorem set_del2 {s B : List Rng} {k : Nat} {m x a : Rng} (hk : k ≤ s.length) : ((s.take k ++ m :: x :: B).set k a).take (k + 1) ++ ((s.take k ++ m :: x :: B).set k a).drop (k + 2) = s.take k ++ a :: B := by
  have hl : (s.take k).length = k := by simp; omega
  rw [List.set_append_right _ _ (by omega), hl, Nat.sub_self, List.set_cons_zero]
  rw [List.take_append, List.drop_append, hl, show k + 1 - k = 1 from by omega, show k + 2 - k = 2 from by omega]
  rw [List.take_of_length_le (by omega), List.drop_eq_nil_of_le (by omega)]
  simp
theorem getD_mid {s B : List Rng} {k : Nat} {m : Rng} (hk : k ≤ s.length) : (s.take k ++ m :: B).getD k (0,0) = m := by
  have : (s.take k).length = k := by simp; omega
  simp [List.getD, this]
theorem getD_left {s B : List Rng} {k i : Nat} {m : Rng} (hk : k ≤ s.length) (hi : i < k) : (s.take k ++ m :: B).getD i (0,0) = s.getD i (0,0) := by
  have : (s.take k).length = k := by simp; omega
  simp only [List.getD]
  rw [List.getElem?_append_left (by omega), List.getElem?_take, if_pos hi]


/-- the set with the range laid in, ahead of the joins. -/
def AddMid (w : World) (s : List Rng) (f t : Int) (k : Nat) (v6 : Value) (W : World) : Prop := ∃ g q cap l, v6 = .slice (some ⟨g, q * 2, none⟩) (s.length + 1) cap ∧ Hid (W.heap[g]? = some (.cells (ER.flat l).toArray 104 (0, 0))) ∧
  s.length + 1 ≤ cap ∧ q + cap ≤ l.length ∧ Hid (win l q (s.length + 1) = s.take k ++ [(f, t)] ++ s.drop k) ∧ w.heap.size < g ∧ Ext [] w W ∧ W.cell? ⟨w.heap.size, 0, none⟩ = some (.int .i64 f) ∧ W.cell? ⟨w.heap.size, 1, none⟩ = some (.int .i64 t)

set_option maxRecDepth 100000 in
set_option maxHeartbeats 1000000 in
theorem add_c (v : Value) (s : List Rng) (f t : Int) (w : World) (hv : ER.Ow 104 w v s) (hs : Ok s) (h0 : 0 ≤ f) (h1 : f < t) (h2 : t ≤ 40000) (hh : meetsB s (f, t) = false) :
    Calls Tryz.prog 46 #[v, .agg #[.int .i64 f, .int .i64 t]] w (SetPost w fun s' => Ok s' ∧ (∀ c, Mem s' c ↔ Mem s c ∨ (f ≤ c ∧ c < t)) ∧ cntL s' = cntL s + (t - f)) := by
  have hl := hs.len
  have HV := Lib.hid hv
  have HS := Lib.hid hs
  obtain ⟨p, cap, rfl, hcap⟩ := hv.rd.len_eq
  clear hv hs
  go_enter Tryz.func46, Tryz.ntmps46
  go_wp2_with fail
  refine (at_c _ s f _ h0 (by omega) (by omega) (HV.out.rd.ext0 ((Ext.refl _ _).alloc _)) HS.out.srt).mono ?_
  rintro e w1 ⟨k, rfl, hk, hE1⟩
  have hE : Ext [] w w1 := ((Ext.refl [] w).alloc _).trans hE1
  have hc0 : w1.cell? ⟨w.heap.size, 0, none⟩ = some (.int .i64 f) := hE1.cell (by simp) (by simp)
  have hc1 : w1.cell? ⟨w.heap.size, 1, none⟩ = some (.int .i64 t) := hE1.cell (by simp) (by simp)
  have hlt1 : w.heap.size < w1.heap.size := by have := hE1.size; simp at this; omega
  have HV1 := Lib.hid (HV.out.ext0 hE)
  have HK := Lib.hid hk
  have hkl := hk.1
  clear hE1 hk HV
  go_upto_region 2 with fail
  go_cut [6] (fun v6 W => AddMid w s f t k v6 W)
  case first =>
    have hd1 : Ext [] w1 w1.drew := (Ext.refl [] _).drew
    go_region_held3 (fun W => W.cell? ⟨w.heap.size, 0, none⟩ = some (.int .i64 f) ∧ W.cell? ⟨w.heap.size, 1, none⟩ = some (.int .i64 t)) (first | exact ⟨hE16.cell hc0 (by simp), hE16.cell hc1 (by simp)⟩ | exact ⟨hE15.cell hc0 (by simp), hE15.cell hc1 (by simp)⟩ | go_keep)
      (first
        | (go_at_call 79; refine (clone_c _ s _ (by omega) (by first | exact (HV1.out.ext0 (hd1.alloc _)).rd | exact (HV1.out.ext0 hd1).rd)).mono ?_; rintro e w5 ⟨vc, rfl, howc, hEc, hfrc, hnn⟩; clear hnn; have hE15 : Ext [] w1 w5 := (by first | exact (hd1.alloc _).trans hEc | exact hd1.trans hEc))
        | (go_at_call 82; refine (insert_c vc _ s [(f, t)] k _ (by first | exact howc | exact howc.ext0 ((Ext.refl _ _).alloc _)) (by first | exact one_rd (by simp) | exact (one_rd (W0 := w1.drew) (by simp)).ext0 hEc) (by intro b hb hb2; have h3 := hfrc b hb2; have h4 := howc.lt b hb2; simp [blkL] at hb; simp at h3; omega) hkl (by simp; omega)).mono ?_; rintro e w6 ⟨v6, rfl, how6, hE6, hnear6⟩; have hE56 : Ext [] w1 w6 := (by first | exact hE15.trans' hE6 (by simp) (fun b hb => .inr (Nat.le_trans (by simp) (hfrc b hb))) | exact (hE15.alloc _).trans' hE6 (by simp) (fun b hb => .inr (Nat.le_trans (by simp) (hfrc b hb)))); have hE16 : Ext [] w1 w6 := hE56))
    all_goals
      go_wp2_with fail
      go_meet
      rcases how6 with ⟨_, h⟩ | ⟨g6, q6, cap6, l6, hv6, hb6, hc6, hq6, hw6⟩
      · have := congrArg List.length h; simp at this
      have e6 : (s.take k ++ [(f, t)] ++ s.drop k).length = s.length + 1 := by simp; omega
      rw [e6] at hv6 hc6 hw6
      refine ⟨g6, q6, cap6, l6, hv6, hb6, hc6, hq6, hw6, ?_, hE.trans hE16, hE16.cell hc0 (by simp), hE16.cell hc1 (by simp)⟩
      have hn6 := hnear6 g6 (by rw [hv6]; simp [blkL])
      rcases hn6 with h | h
      · have := hfrc g6 h; simp at this; omega
      · have := hE15.size; (try simp at h); omega
  case rest =>
    obtain ⟨g, q, c6, l, rfl, HG, hc6, hq6, HWN, hgw, hE6, k0, k1⟩ := hcut
    clear hE HV1 hc0 hc1 hlt1
    have hsp := HK.out.split
    have hB : ∀ x ∈ s.drop k, t ≤ x.1 := by
      intro x hx
      have h3 := hsp.2 x hx
      have h4 : ¬ (x.1 < t ∧ f < x.2) := fun hh' => by
        have : meetsB s (f, t) = true := by
          simp only [meetsB, List.any_eq_true, Bool.and_eq_true, decide_eq_true_eq]
          exact ⟨x, List.mem_of_mem_drop hx, hh'.1, hh'.2⟩
        rw [hh] at this; cases this
      omega
    have hok := addR_ok (A := s.take k) (B := s.drop k) (r := (f, t)) (by rw [List.take_append_drop]; exact HS.out) ⟨h0, h1, h2⟩ (fun x hx => by have := hsp.1 x hx; simpa using this) hB
    rw [List.take_append_drop] at hok
    have HOK := Lib.hid hok
    clear hok hB hsp hh
    have hv6 : ER.Ow 104 wc (.slice (some ⟨g, q * 2, none⟩) (s.length + 1) c6) (s.take k ++ [(f, t)] ++ s.drop k) := by
      have e6 : (s.take k ++ [(f, t)] ++ s.drop k).length = s.length + 1 := by simp; omega
      exact .inr ⟨g, q, c6, l, by rw [e6]; rfl, HG.out, by rw [e6]; exact hc6, hq6, by rw [e6]; exact HWN.out⟩
    have e2 : IntKind.i64.wrap ((k : Int) + 1) = (k : Int) + 1 := IntWalk.i64_in _ (by omega)
    have e3 : (0 : Int) ≤ (k : Int) + 1 := by omega
    have e4 : ((k : Int) + 1).toNat = k + 1 := by omega
    have HWN2 : Hid (win l q (s.length + 1) = s.take k ++ (f, t) :: s.drop k) := by have := HWN.out; simp only [List.append_assoc, List.singleton_append] at this; exact this
    by_cases a1 : k < s.length
    · obtain ⟨x, hx⟩ : ∃ x, x = s.getD k (0,0) := ⟨_, rfl⟩
      have hdr : s.drop k = x :: s.drop (k + 1) := by
        rw [hx]; simp only [List.getD, List.getElem?_eq_getElem a1, Option.getD_some]; exact List.drop_eq_getElem_cons a1
      have hLk : (s.take k ++ [(f, t)] ++ s.drop k).getD k (0,0) = (f, t) := by
        have : (s.take k).length = k := by simp; omega
        simp [List.getD, this]
      have hLk1 : (s.take k ++ [(f, t)] ++ s.drop k).getD (k + 1) (0,0) = x := by
        have : (s.take k).length = k := by simp; omega
        rw [hdr]
        simp [List.getD, this]
      have e6 : (s.take k ++ [(f, t)] ++ s.drop k).length = s.length + 1 := by simp; omega
      obtain ⟨m1, m2⟩ := ER_cells hv6.rd k (by omega)
      obtain ⟨m3, m4⟩ := ER_cells hv6.rd (k + 1) (by omega)
      rw [hLk] at m1 m2
      rw [hLk1] at m3 m4
      have HX := Lib.hid hx
      have HDR := Lib.hid hdr
      have HV6 := Lib.hid hv6
      have e5 : (k : Int) + 1 < (s.length : Int) + 1 := by omega
      have e7 : (k : Int) < (s.length : Int) + 1 := by omega
      clear hx hdr hLk hLk1 e6 hv6
      by_cases a2 : t = x.1
      · have A2 := Lib.hid a2
        have a2' : (t == x.1) = true := by simpa using a2
        clear a2
        have hadd : addT (f, t) (s.drop k) = (x.2, s.drop (k + 1)) := by rw [HDR.out]; simp only [addT]; rw [if_pos A2.out]
        have HADD := Lib.hid hadd
        clear hadd
        have hfz : ∀ j, wc.frozen? ⟨g, j, none⟩ = false := fun j => frozen_of_row _ _ j _ _ HG.out
        go_wp2_with fail
        go_quiet (fail)
        clear e2 e3 a2'
        go_wp2_with fail
        generalize hWW : World.setCell _ _ _ = W3
        have hg3 : W3.heap[g]? = some (.cells (ER.flat (l.set (q + k) ((l.getD (q + k) (0,0)).1, x.2))).toArray 104 (0, 0)) := by
          rw [← hWW]
          exact blk_set HG.out (by omega) (by rw [Nat.add_mul]) _
        have hE3 : Ext [] w W3 := by
          rw [← hWW]
          exact (hE6.drewN _).setCell (.inr (by simp; omega)) _
        have hLy : (l.getD (q + k) (0,0)).1 = f := by
          have h := congrArg (fun (z : List Rng) => z.getD k (0,0)) HWN2.out
          simp only [getD_mid hkl] at h
          have h' : l.getD (q + k) (0,0) = (f, t) := by
            rw [← h]
            simp only [List.getD, get_win]
            rw [if_pos (by omega)]
          rw [h']
        rw [hLy] at hg3
        have hnn2 : (s.take k ++ (f, t) :: x :: s.drop (k + 1)).length = s.length + 1 := by simp; omega
        have hw3 : win (l.set (q + k) (f, x.2)) q ((s.take k ++ (f, t) :: x :: s.drop (k + 1)).set k (f, x.2)).length = (s.take k ++ (f, t) :: x :: s.drop (k + 1)).set k (f, x.2) := by
          rw [List.length_set, hnn2, win_set _ _ _ _ _ (by omega), HWN2.out, HDR.out]
        have hlen3 : ((s.take k ++ (f, t) :: x :: s.drop (k + 1)).set k (f, x.2)).length = s.length + 1 := by rw [List.length_set, hnn2]
        have hdel := delete_c g q c6 _ _ (k + 1) (k + 2) W3 hg3 (by rw [hlen3]; exact hc6) (by rw [List.length_set]; exact hq6) hw3 (by omega) (by rw [hlen3]; omega) (by rw [hlen3]; omega)
        rw [hlen3, set_del2 hkl] at hdel
        refine hdel.mono ?_
        clear hdel hw3 hg3 hLy m1 m2 m3 m4 hfz
        rintro e w4 ⟨v4, rfl, how4, hE4, hnear4⟩
        have hE5 : Ext [] w w4 := hE3.trans' hE4 (by simp) (by simp [blkL]; omega)
        have hgn : ∀ b ∈ blkL v4, w.heap.size < b := fun b hb => by
          rcases hnear4 b hb with h | h
          · simp [blkL] at h; omega
          · have h3 := hE3.size
            have h5 : g < W3.heap.size := by rw [← hWW]; simp; exact lt_of_blk HG.out
            omega
        rcases how4 with ⟨_, h⟩ | ⟨g4, q4, c4, l4, rfl, hb4, hc4, hq4, hw4⟩
        · have := congrArg List.length h; simp at this
        have hgw4 := hgn g4 (by simp [blkL])
        have hn4 : (s.take k ++ (f, x.2) :: s.drop (k + 1)).length = s.length := by simp; omega
        rw [hn4] at hc4 hw4 ⊢
        have HGb := Lib.hid hb4
        have HWb : Hid (win l4 q4 s.length = s.take k ++ (f, x.2) :: s.drop (k + 1)) := hw4
        have hEb := hE5
        clear hb4 hw4 hE4 hnear4 hE3 hWW hgn hnn2 hlen3 hE5
        go_wp2_with fail
        have hnn : (s.take k ++ (f, x.2) :: s.drop (k + 1)).length = s.length := by simp; omega
        have hvB : ER.Ow 104 w4 (.slice (some ⟨g4, q4 * 2, none⟩) (s.length) c4) (s.take k ++ (f, x.2) :: s.drop (k + 1)) := .inr ⟨g4, q4, c4, l4, by rw [hnn]; rfl, (HGb).out, by rw [hnn]; omega, by omega, by rw [hnn]; exact (HWb).out⟩
        have hfin : ∀ (v7 : Value) (w7 : World) (xs : List Rng), ER.Ow 104 w7 v7 xs → xs = addR (s.take k) (f, t) (s.drop k) → Ext [] w w7 → SetPost w (fun s' => Ok s' ∧ (∀ c, Mem s' c ↔ Mem s c ∨ (f ≤ c ∧ c < t)) ∧ cntL s' = cntL s + (t - f)) (.returned v7) w7 := by
          intro v7 w7 xs h1 h2 h3
          subst h2
          exact ⟨v7, _, rfl, h1, HOK.out, h3⟩
        have HFIN := Lib.hid hfin
        obtain ⟨qq1, qq2⟩ := ER_cells hvB.rd k (by rw [hnn]; omega)
        rw [getD_mid hkl] at qq1 qq2
        have HVB := Lib.hid hvB
        have HNN := Lib.hid hnn
        clear hfin hvB hnn
        have u1 : (k : Int) < ((s.length : Nat) : Int) := by omega
        by_cases b1 : 0 < k
        · obtain ⟨y, hy⟩ : ∃ y, y = s.getD (k - 1) (0,0) := ⟨_, rfl⟩
          obtain ⟨qq3, qq4⟩ := ER_cells HVB.out.rd (k - 1) (by rw [HNN.out]; omega)
          rw [getD_left hkl (by omega), ← hy] at qq3 qq4
          have z1 : IntKind.i64.wrap ((k : Int) - 1) = (k : Int) - 1 := IntWalk.i64_in _ (by omega)
          have z2 : (1 : Int) ≤ (k : Int) := by omega
          have z3 : ((k : Int) - 1).toNat = k - 1 := by omega
          have z4 : (k : Int) - 1 < ((s.length : Nat) : Int) := by omega
          have z5 : (0 : Int) ≤ (k : Int) - 1 := by omega
          have z6 : (0 : Int) < (k : Int) := by omega
          have HY := Lib.hid hy
          clear hy
          by_cases b2 : y.2 = f
          · have B2 := Lib.hid b2
            have b2' : (y.2 == f) = true := by simpa using b2
            have hfz : ∀ j, (w4).frozen? ⟨g4, j, none⟩ = false := fun j => frozen_of_row _ _ j _ _ (HGb).out
            clear b2
            go_wp2_with fail
            go_quiet (fail)
            clear z1
            go_wp2_with fail
            generalize hWW : World.setCell _ _ _ = W7
            have hg7 : W7.heap[g4]? = some (.cells (ER.flat ((l4).set (q4 + (k - 1)) (((l4).getD (q4 + (k - 1)) (0,0)).1, x.2))).toArray 104 (0, 0)) := by
              rw [← hWW]
              exact blk_set (HGb).out (by omega) (by rw [Nat.add_mul]) _
            have hE7a : Ext [] w W7 := by
              rw [← hWW]
              exact ((hEb).drewN _).setCell (.inr (by simp; omega)) _
            have hLy : ((l4).getD (q4 + (k - 1)) (0,0)).1 = y.1 := by
              have h := congrArg (fun (z : List Rng) => z.getD (k - 1) (0,0)) (HWb).out
              simp only [getD_left hkl (show k - 1 < k by omega), ← HY.out] at h
              rw [← h]
              simp only [List.getD, get_win]
              rw [if_pos (by omega)]
            rw [hLy] at hg7
            have hw7 : win ((l4).set (q4 + (k - 1)) (y.1, x.2)) q4 ((s.take k ++ (f, x.2) :: s.drop (k + 1)).set (k - 1) (y.1, x.2)).length = (s.take k ++ (f, x.2) :: s.drop (k + 1)).set (k - 1) (y.1, x.2) := by
              rw [List.length_set, HNN.out, win_set _ _ _ _ _ (by omega), (HWb).out]
            have hlen7 : ((s.take k ++ (f, x.2) :: s.drop (k + 1)).set (k - 1) (y.1, x.2)).length = s.length := by rw [List.length_set, HNN.out]
            have hdel := delete_c g4 q4 c4 _ _ k (k + 1) W7 hg7 (by rw [hlen7]; omega) (by rw [List.length_set]; omega) hw7 (by omega) (by rw [hlen7]; omega) (by rw [hlen7]; omega)
            rw [hlen7] at hdel
            refine hdel.mono ?_
            clear hdel hw7 hg7 hLy
            rintro e w8 ⟨v8, rfl, how8, hE8, _⟩
            have hfin8 := HFIN.out v8 w8 _ how8 (by rw [set_del (by omega) hkl, addR_at (by omega) hkl, ← HY.out, if_pos B2.out, HADD.out]) (hE7a.trans' hE8 (by simp) (by simp [blkL]; omega))
            clear how8 hE8 hE7a hWW hlen7
            go_wp2
            go_ret
            exact hfin8
          · have B2 := Lib.hid b2
            have b2' : (y.2 == f) = false := by simpa using b2
            clear b2
            go_wp2_with fail
            go_quiet (fail)
            clear z1
            go_wp2
            go_ret
            exact HFIN.out _ _ _ (HVB.out.ext0 ((Ext.refl _ _).drewN _)) (by rw [addR_at (by omega) hkl, ← HY.out, if_neg B2.out, HADD.out]) (hEb.drewN _)
        · have hk0 : k = 0 := by omega
          have b1' : decide ((0 : Int) < (k : Int)) = false := by simp; omega
          have HK0 := Lib.hid hk0
          clear hk0
          go_wp2_with fail
          go_quiet (fail)
          go_wp2
          go_ret
          exact HFIN.out _ _ _ (HVB.out.ext0 ((Ext.refl _ _).drewN _)) (by rw [HK0.out, addR_eq]; simp only [List.take_zero, List.getLast?_nil, List.nil_append]; rw [← HK0.out, HADD.out]) (hEb.drewN _)
      · have hadd : addT (f, t) (s.drop k) = (t, s.drop k) := by rw [HDR.out]; simp only [addT]; rw [if_neg a2]
        have HADD := Lib.hid hadd
        clear hadd
        have a2' : (t == x.1) = false := by simpa using a2
        clear a2
        go_wp2_with fail
        go_quiet (fail)
        clear e2 e3 e4 m1 m2 m3 m4 a2'
        go_wp2_with fail
        generalize hW : wc.drewN nq = W
        have hEb : Ext [] w W := hW ▸ hE6.drewN _
        have HGb := Lib.hid ((hW ▸ (Ext.refl [] _).drewN _ : Ext [] wc W).blk HG.out (by simp))
        clear hW
        have hnn : (s.take k ++ (f, t) :: s.drop k).length = s.length + 1 := by simp; omega
        have hvB : ER.Ow 104 W (.slice (some ⟨g, q * 2, none⟩) (s.length + 1) c6) (s.take k ++ (f, t) :: s.drop k) := .inr ⟨g, q, c6, l, by rw [hnn]; rfl, (HGb).out, by rw [hnn]; omega, by omega, by rw [hnn]; exact (HWN2).out⟩
        have hfin : ∀ (v7 : Value) (w7 : World) (xs : List Rng), ER.Ow 104 w7 v7 xs → xs = addR (s.take k) (f, t) (s.drop k) → Ext [] w w7 → SetPost w (fun s' => Ok s' ∧ (∀ c, Mem s' c ↔ Mem s c ∨ (f ≤ c ∧ c < t)) ∧ cntL s' = cntL s + (t - f)) (.returned v7) w7 := by
          intro v7 w7 xs h1 h2 h3
          subst h2
          exact ⟨v7, _, rfl, h1, HOK.out, h3⟩
        have HFIN := Lib.hid hfin
        obtain ⟨qq1, qq2⟩ := ER_cells hvB.rd k (by rw [hnn]; omega)
        rw [getD_mid hkl] at qq1 qq2
        have HVB := Lib.hid hvB
        have HNN := Lib.hid hnn
        clear hfin hvB hnn
        have u1 : (k : Int) < ((s.length + 1 : Nat) : Int) := by omega
        by_cases b1 : 0 < k
        · obtain ⟨y, hy⟩ : ∃ y, y = s.getD (k - 1) (0,0) := ⟨_, rfl⟩
          obtain ⟨qq3, qq4⟩ := ER_cells HVB.out.rd (k - 1) (by rw [HNN.out]; omega)
          rw [getD_left hkl (by omega), ← hy] at qq3 qq4
          have z1 : IntKind.i64.wrap ((k : Int) - 1) = (k : Int) - 1 := IntWalk.i64_in _ (by omega)
          have z2 : (1 : Int) ≤ (k : Int) := by omega
          have z3 : ((k : Int) - 1).toNat = k - 1 := by omega
          have z4 : (k : Int) - 1 < ((s.length + 1 : Nat) : Int) := by omega
          have z5 : (0 : Int) ≤ (k : Int) - 1 := by omega
          have z6 : (0 : Int) < (k : Int) := by omega
          have HY := Lib.hid hy
          clear hy
          by_cases b2 : y.2 = f
          · have B2 := Lib.hid b2
            have b2' : (y.2 == f) = true := by simpa using b2
            have hfz : ∀ j, (W).frozen? ⟨g, j, none⟩ = false := fun j => frozen_of_row _ _ j _ _ (HGb).out
            clear b2
            go_wp2_with fail
            go_quiet (fail)
            clear z1
            go_wp2_with fail
            generalize hWW : World.setCell _ _ _ = W7
            have hg7 : W7.heap[g]? = some (.cells (ER.flat ((l).set (q + (k - 1)) (((l).getD (q + (k - 1)) (0,0)).1, t))).toArray 104 (0, 0)) := by
              rw [← hWW]
              exact blk_set (HGb).out (by omega) (by rw [Nat.add_mul]) _
            have hE7a : Ext [] w W7 := by
              rw [← hWW]
              exact ((hEb).drewN _).setCell (.inr (by simp; omega)) _
            have hLy : ((l).getD (q + (k - 1)) (0,0)).1 = y.1 := by
              have h := congrArg (fun (z : List Rng) => z.getD (k - 1) (0,0)) (HWN2).out
              simp only [getD_left hkl (show k - 1 < k by omega), ← HY.out] at h
              rw [← h]
              simp only [List.getD, get_win]
              rw [if_pos (by omega)]
            rw [hLy] at hg7
            have hw7 : win ((l).set (q + (k - 1)) (y.1, t)) q ((s.take k ++ (f, t) :: s.drop k).set (k - 1) (y.1, t)).length = (s.take k ++ (f, t) :: s.drop k).set (k - 1) (y.1, t) := by
              rw [List.length_set, HNN.out, win_set _ _ _ _ _ (by omega), (HWN2).out]
            have hlen7 : ((s.take k ++ (f, t) :: s.drop k).set (k - 1) (y.1, t)).length = s.length + 1 := by rw [List.length_set, HNN.out]
            have hdel := delete_c g q c6 _ _ k (k + 1) W7 hg7 (by rw [hlen7]; omega) (by rw [List.length_set]; omega) hw7 (by omega) (by rw [hlen7]; omega) (by rw [hlen7]; omega)
            rw [hlen7] at hdel
            refine hdel.mono ?_
            clear hdel hw7 hg7 hLy
            rintro e w8 ⟨v8, rfl, how8, hE8, _⟩
            have hfin8 := HFIN.out v8 w8 _ how8 (by rw [set_del (by omega) hkl, addR_at (by omega) hkl, ← HY.out, if_pos B2.out, HADD.out]) (hE7a.trans' hE8 (by simp) (by simp [blkL]; omega))
            clear how8 hE8 hE7a hWW hlen7
            go_wp2
            go_ret
            exact hfin8
          · have B2 := Lib.hid b2
            have b2' : (y.2 == f) = false := by simpa using b2
            clear b2
            go_wp2_with fail
            go_quiet (fail)
            clear z1
            go_wp2
            go_ret
            exact HFIN.out _ _ _ (HVB.out.ext0 ((Ext.refl _ _).drewN _)) (by rw [addR_at (by omega) hkl, ← HY.out, if_neg B2.out, HADD.out]) (hEb.drewN _)
        · have hk0 : k = 0 := by omega
          have b1' : decide ((0 : Int) < (k : Int)) = false := by simp; omega
          have HK0 := Lib.hid hk0
          clear hk0
          go_wp2_with fail
          go_quiet (fail)
          go_wp2
          go_ret
          exact HFIN.out _ _ _ (HVB.out.ext0 ((Ext.refl _ _).drewN _)) (by rw [HK0.out, addR_eq]; simp only [List.take_zero, List.getLast?_nil, List.nil_append]; rw [← HK0.out, HADD.out]) (hEb.drewN _)
    · have e5 : ¬ ((k : Int) + 1 < (s.length : Int) + 1) := by omega
      have e5' : decide ((k : Int) + 1 < (s.length : Int) + 1) = false := by simpa using e5
      have hks : k = s.length := by omega
      have HADD : Hid (addT (f, t) (s.drop k) = (t, s.drop k)) := by rw [List.drop_eq_nil_of_le (by omega)]; rfl
      clear hks
      go_wp2_with fail
      go_quiet (fail)
      clear e2 e3 e4 e5 e5' hv6
      go_wp2_with fail
      generalize hW : wc.drewN nq = W
      have hEb : Ext [] w W := hW ▸ hE6.drewN _
      have HGb := Lib.hid ((hW ▸ (Ext.refl [] _).drewN _ : Ext [] wc W).blk HG.out (by simp))
      clear hW
      have hnn : (s.take k ++ (f, t) :: s.drop k).length = s.length + 1 := by simp; omega
      have hvB : ER.Ow 104 W (.slice (some ⟨g, q * 2, none⟩) (s.length + 1) c6) (s.take k ++ (f, t) :: s.drop k) := .inr ⟨g, q, c6, l, by rw [hnn]; rfl, (HGb).out, by rw [hnn]; omega, by omega, by rw [hnn]; exact (HWN2).out⟩
      have hfin : ∀ (v7 : Value) (w7 : World) (xs : List Rng), ER.Ow 104 w7 v7 xs → xs = addR (s.take k) (f, t) (s.drop k) → Ext [] w w7 → SetPost w (fun s' => Ok s' ∧ (∀ c, Mem s' c ↔ Mem s c ∨ (f ≤ c ∧ c < t)) ∧ cntL s' = cntL s + (t - f)) (.returned v7) w7 := by
        intro v7 w7 xs h1 h2 h3
        subst h2
        exact ⟨v7, _, rfl, h1, HOK.out, h3⟩
      have HFIN := Lib.hid hfin
      obtain ⟨qq1, qq2⟩ := ER_cells hvB.rd k (by rw [hnn]; omega)
      rw [getD_mid hkl] at qq1 qq2
      have HVB := Lib.hid hvB
      have HNN := Lib.hid hnn
      clear hfin hvB hnn
      have u1 : (k : Int) < ((s.length + 1 : Nat) : Int) := by omega
      by_cases b1 : 0 < k
      · obtain ⟨y, hy⟩ : ∃ y, y = s.getD (k - 1) (0,0) := ⟨_, rfl⟩
        obtain ⟨qq3, qq4⟩ := ER_cells HVB.out.rd (k - 1) (by rw [HNN.out]; omega)
        rw [getD_left hkl (by omega), ← hy] at qq3 qq4
        have z1 : IntKind.i64.wrap ((k : Int) - 1) = (k : Int) - 1 := IntWalk.i64_in _ (by omega)
        have z2 : (1 : Int) ≤ (k : Int) := by omega
        have z3 : ((k : Int) - 1).toNat = k - 1 := by omega
        have z4 : (k : Int) - 1 < ((s.length + 1 : Nat) : Int) := by omega
        have z5 : (0 : Int) ≤ (k : Int) - 1 := by omega
        have z6 : (0 : Int) < (k : Int) := by omega
        have HY := Lib.hid hy
        clear hy
        by_cases b2 : y.2 = f
        · have B2 := Lib.hid b2
          have b2' : (y.2 == f) = true := by simpa using b2
          have hfz : ∀ j, (W).frozen? ⟨g, j, none⟩ = false := fun j => frozen_of_row _ _ j _ _ (HGb).out
          clear b2
          go_wp2_with fail
          go_quiet (fail)
          clear z1
          go_wp2_with fail
          generalize hWW : World.setCell _ _ _ = W7
          have hg7 : W7.heap[g]? = some (.cells (ER.flat ((l).set (q + (k - 1)) (((l).getD (q + (k - 1)) (0,0)).1, t))).toArray 104 (0, 0)) := by
            rw [← hWW]
            exact blk_set (HGb).out (by omega) (by rw [Nat.add_mul]) _
          have hE7a : Ext [] w W7 := by
            rw [← hWW]
            exact ((hEb).drewN _).setCell (.inr (by simp; omega)) _
          have hLy : ((l).getD (q + (k - 1)) (0,0)).1 = y.1 := by
            have h := congrArg (fun (z : List Rng) => z.getD (k - 1) (0,0)) (HWN2).out
            simp only [getD_left hkl (show k - 1 < k by omega), ← HY.out] at h
            rw [← h]
            simp only [List.getD, get_win]
            rw [if_pos (by omega)]
          rw [hLy] at hg7
          have hw7 : win ((l).set (q + (k - 1)) (y.1, t)) q ((s.take k ++ (f, t) :: s.drop k).set (k - 1) (y.1, t)).length = (s.take k ++ (f, t) :: s.drop k).set (k - 1) (y.1, t) := by
            rw [List.length_set, HNN.out, win_set _ _ _ _ _ (by omega), (HWN2).out]
          have hlen7 : ((s.take k ++ (f, t) :: s.drop k).set (k - 1) (y.1, t)).length = s.length + 1 := by rw [List.length_set, HNN.out]
          have hdel := delete_c g q c6 _ _ k (k + 1) W7 hg7 (by rw [hlen7]; omega) (by rw [List.length_set]; omega) hw7 (by omega) (by rw [hlen7]; omega) (by rw [hlen7]; omega)
          rw [hlen7] at hdel
          refine hdel.mono ?_
          clear hdel hw7 hg7 hLy
          rintro e w8 ⟨v8, rfl, how8, hE8, _⟩
          have hfin8 := HFIN.out v8 w8 _ how8 (by rw [set_del (by omega) hkl, addR_at (by omega) hkl, ← HY.out, if_pos B2.out, HADD.out]) (hE7a.trans' hE8 (by simp) (by simp [blkL]; omega))
          clear how8 hE8 hE7a hWW hlen7
          go_wp2
          go_ret
          exact hfin8
        · have B2 := Lib.hid b2
          have b2' : (y.2 == f) = false := by simpa using b2
          clear b2
          go_wp2_with fail
          go_quiet (fail)
          clear z1
          go_wp2
          go_ret
          exact HFIN.out _ _ _ (HVB.out.ext0 ((Ext.refl _ _).drewN _)) (by rw [addR_at (by omega) hkl, ← HY.out, if_neg B2.out, HADD.out]) (hEb.drewN _)
      · have hk0 : k = 0 := by omega
        have b1' : decide ((0 : Int) < (k : Int)) = false := by simp; omega
        have HK0 := Lib.hid hk0
        clear hk0
        go_wp2_with fail
        go_quiet (fail)
        go_wp2
        go_ret
        exact HFIN.out _ _ _ (HVB.out.ext0 ((Ext.refl _ _).drewN _)) (by rw [HK0.out, addR_eq]; simp only [List.take_zero, List.getLast?_nil, List.nil_append]; rw [← HK0.out, HADD.out]) (hEb.drewN _)

end Go.Proofs.YtgfajlaibgbdoaaGreat
