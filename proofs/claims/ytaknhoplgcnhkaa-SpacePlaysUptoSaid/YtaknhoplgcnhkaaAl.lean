
import Derived.Test.YtaknhoplgcnhkaaRf3
namespace Go.Proofs.Ytaknhoplgcnhkaa
open Go.RowKit

theorem ER_setFrom {T : TypeId} {w : World} {g o n cap : Nat} {xs : List Rng} (h : ER.Ow T w (.slice (some ⟨g, o, none⟩) n cap) xs) {j : Nat} (hj : j < xs.length) (y : Int) :
    ER.Ow T (w.setCell ⟨g, o + j * 2, none⟩ (.int .i64 y)) (.slice (some ⟨g, o, none⟩) n cap) (xs.set j (y, (xs.getD j (0,0)).2)) := by
  rcases h with ⟨h, _⟩ | ⟨g', q, c, l, h, hg, h1, h2, h3⟩
  · cases h
  · simp only [Value.slice.injEq, Option.some.injEq, Addr.mk.injEq] at h
    obtain ⟨⟨rfl, rfl, _⟩, rfl, rfl⟩ := h
    have hqj : q + j < l.length := by omega
    have hg2 : (w.setCell ⟨g, q * ER.k + j * 2, none⟩ (.int .i64 y)).heap[g]? = some (.cells (ER.flat (l.set (q + j) (y, (l.getD (q + j) (0,0)).2))).toArray T (0, 0)) := by
      rw [heap_setCell_same w g _ _ _ _ hg]
      congr 2
      apply Array.ext'
      simp only [Array.toList_setIfInBounds]
      have e : q * ER.k + j * 2 = (q + j) * 2 + 0 := by show q * 2 + j * 2 = _; omega
      rw [e]
      exact flat_set hqj 0 _ _ rfl (by omega)
    have e : l.getD (q + j) (0,0) = xs.getD j (0,0) := by
      have h4 := congrArg (fun (z : List Rng) => z.getD j (0,0)) h3
      simp only [List.getD, List.getElem?_take, if_pos hj, List.getElem?_drop] at h4
      exact h4
    rw [e] at hg2
    refine .inr ⟨g, q, cap, _, by rw [List.length_set], hg2, by rw [List.length_set]; exact h1, by rw [List.length_set]; exact h2, ?_⟩
    have h5 := win_set l q j xs.length (y, (xs.getD j (0,0)).2) hj
    simp only [win] at h5
    rw [List.length_set, h5, h3]

/-- a range is set in its place. -/
theorem ER_setBoth {T : TypeId} {w : World} {g o n cap : Nat} {xs : List Rng} (h : ER.Ow T w (.slice (some ⟨g, o, none⟩) n cap) xs) {j : Nat} (hj : j < xs.length) (a b : Int) :
    ER.Ow T ((w.setCell ⟨g, o + j * 2, none⟩ (.int .i64 a)).setCell ⟨g, o + j * 2 + 1, none⟩ (.int .i64 b)) (.slice (some ⟨g, o, none⟩) n cap) (xs.set j (a, b)) := by
  have h1 := ER_setFrom h hj a
  have h2 := (ER_setTo h1 (j := j) (by simpa using hj)).2 b
  have e : (xs.set j (a, (xs.getD j (0,0)).2)).getD j (0,0) = (a, (xs.getD j (0,0)).2) := by simp [List.getD, hj]
  rw [e, List.set_set] at h2
  exact h2

set_option maxRecDepth 100000 in
theorem same_c (va vb : Value) (xs : List Rng) (w : World) (ha : ER.Rd w va xs) (hb : ER.Rd w vb xs) (hl : xs.length ≤ 1000000) :
    Calls Try.prog 44 #[va, vb] w fun e w' => e = .returned (.bool true) ∧ Ext [] w w' := by
  obtain ⟨pa, ca, rfl, _⟩ := ha.len_eq
  obtain ⟨pb, cb, rfl, _⟩ := hb.len_eq
  have HA := Lib.hid ha
  have HB := Lib.hid hb
  obtain ⟨n, hn⟩ : ∃ n, n = xs.length := ⟨_, rfl⟩
  rw [← hn] at HA HB hl
  rw [← hn]
  have HN := Lib.hid hn
  clear ha hb hn
  go_enter Try.func44, Try.ntmps44
  go_wp2_with fail
  go_loopw [5] (fun iv wr => ∃ k : Nat, k ≤ n ∧ iv = .int .i64 k ∧ Ext [] w wr) (fun iv _ => n - (intOf iv).toNat)
  case atStart => exact ⟨0, Nat.zero_le _, rfl, Ext.refl _ _⟩
  case round =>
    obtain ⟨k, hk, rfl, hE⟩ := hrel
    by_cases hlt : k < n
    · have hlt' : k < xs.length := by rw [← HN.out]; exact hlt
      obtain ⟨g1, o1, rfl⟩ : ∃ g o, pa = some ⟨g, o, none⟩ := by
        rcases HA.out with ⟨_, h⟩ | ⟨g, o, c, h, _⟩
        · rw [h] at hlt'; simp at hlt'
        · simp only [Value.slice.injEq] at h; exact ⟨g, o, h.1⟩
      obtain ⟨g2, o2, rfl⟩ : ∃ g o, pb = some ⟨g, o, none⟩ := by
        rcases HB.out with ⟨_, h⟩ | ⟨g, o, c, h, _⟩
        · rw [h] at hlt'; simp at hlt'
        · simp only [Value.slice.injEq] at h; exact ⟨g, o, h.1⟩
      obtain ⟨hm1, hm2⟩ := ER_cells (HA.out.ext0 hE) k hlt'
      obtain ⟨hn1, hn2⟩ := ER_cells (HB.out.ext0 hE) k hlt'
      obtain ⟨x, hx⟩ : ∃ x, x = xs.getD k (0,0) := ⟨_, rfl⟩
      rw [← hx] at hm1 hm2 hn1 hn2
      have z1 : (k : Int) < (n : Int) := by omega
      have d0 : (0 : Int) ≤ (k : Int) := by omega
      have d1 : ((k : Nat) : Int).toNat = k := by omega
      clear hx hlt'
      go_wp2_with fail
      go_big_quiet (fail)
      go_wp2_with fail
      go_roundw
      case rel => exact ⟨k + 1, by omega, by go_num, by first | exact hE.drewN _ | exact hE⟩
      case measure => simp [intOf]; omega
    · have z1 : ¬ ((k : Int) < (n : Int)) := by omega
      go_wp2
      go_ret
      exact ⟨rfl, hE⟩

/-- the document's ranges are the program's. -/
theorem rs_free {s : Spc} {h : List Int} (hi : SpI s) (r : StRel s h) {rs : List Rng} (q : RsOf h 0 h.length rs) : rs = s.free := by
  refine q.1.ext hi.okF (fun c => ?_)
  rw [q.2 c]
  have hc := r.1
  constructor
  · rintro ⟨h1, h2, h3⟩
    have := ((r.iff hi (i := c.toNat) (by omega)).1).1 h3
    rwa [Int.toNat_of_nonneg h1] at this
  · intro hm
    have h1 := (hi.all c).2 (.inl hm)
    refine ⟨h1.1, by omega, ((r.iff hi (i := c.toNat) (by omega)).1).2 ?_⟩
    rwa [Int.toNat_of_nonneg h1.1]
theorem rs_used {s : Spc} {h : List Int} (hi : SpI s) (r : StRel s h) {rs : List Rng} (q : RsOf h 1 h.length rs) : rs = s.used := by
  refine q.1.ext hi.okU (fun c => ?_)
  rw [q.2 c]
  have hc := r.1
  constructor
  · rintro ⟨h1, h2, h3⟩
    have := ((r.iff hi (i := c.toNat) (by omega)).2.1).1 h3
    rwa [Int.toNat_of_nonneg h1] at this
  · intro hm
    have h1 := (hi.all c).2 (.inr (.inl hm))
    refine ⟨h1.1, by omega, ((r.iff hi (i := c.toNat) (by omega)).2.1).2 ?_⟩
    rwa [Int.toNat_of_nonneg h1.1]

set_option maxRecDepth 100000 in
set_option maxHeartbeats 1000000 in
theorem alike_c (b b2 g : Nat) (s : Spc) (h : List Int) (w : World) (hr : SpR w b s) (hi : SpI s) (hq : RfR w b2 g h s.back) (hs : StRel s h) :
    Calls Try.prog 27 #[.pointer (some ⟨b, 0, none⟩), .pointer (some ⟨b2, 0, none⟩)] w fun e w' => e = .returned (.bool true) ∧ Ext [] w w' := by
  have HR := Lib.hid hr
  have HQ := Lib.hid hq
  have HI := Lib.hid hi
  have HS := Lib.hid hs
  have hl0 : h.length ≤ 40000 := by have := hs.1; have := hi.c2; omega
  have hc := hs.cntF hi
  have hb0 := hi.b0
  have hb1 := hi.b1
  have hcl := cntS_le h 0 h.length
  have hlF := hi.okF.len
  have hlU := hi.okU.len
  clear hr hq hi hs
  go_enter Try.func27, Try.ntmps27
  go_wp2_with fail
  refine (ranges_c b s _ HR.out HI.out).mono ?_
  rintro e W1 ⟨v1, rfl, how1, hE1, hnew1⟩
  go_wp2_with fail
  refine (used_c b s _ (HR.out.ext0 hE1) HI.out).mono ?_
  rintro e W2 ⟨v2, rfl, how2, hE2, hnew2⟩
  have hE02 := hE1.trans hE2
  go_wp2_with fail
  refine (rranges_c b2 g h s.back 0 _ (HQ.out.ext0 hE02) hl0).mono ?_
  rintro e W3 ⟨v3, rfl, rs3, how3, hrs3, hE3, _⟩
  obtain rfl : rs3 = s.free := rs_free HI.out HS.out hrs3
  have hE03 := hE02.trans hE3
  go_wp2_with fail
  refine (same_c v1 v3 s.free _ ((how1.ext0 hE2).ext0 hE3).rd how3.rd (by omega)).mono ?_
  rintro e W4 ⟨rfl, hE4⟩
  have hE04 := hE03.trans hE4
  go_wp2_with fail
  refine (rranges_c b2 g h s.back 1 _ (HQ.out.ext0 hE04) hl0).mono ?_
  rintro e W5 ⟨v5, rfl, rs5, how5, hrs5, hE5, _⟩
  obtain rfl : rs5 = s.used := rs_used HI.out HS.out hrs5
  have hE05 := hE04.trans hE5
  go_wp2_with fail
  refine (same_c v2 v5 s.used _ (((how2.ext0 hE3).ext0 hE4).ext0 hE5).rd how5.rd (by omega)).mono ?_
  rintro e W6 ⟨rfl, hE6⟩
  have hE06 := hE05.trans hE6
  go_wp2_with fail
  refine (free_c b s _ (HR.out.ext0 hE06) HI.out).mono ?_
  rintro e W7 ⟨rfl, hE7⟩
  have hE07 := hE06.trans hE7
  go_wp2_with fail
  refine (rfree_c b2 g h s.back _ (HQ.out.ext0 hE07) hl0 hb0 (by omega)).mono ?_
  rintro e W8 ⟨rfl, hE8⟩
  have hE08 := hE07.trans hE8
  rw [hc]
  go_wp2_with fail
  have ho1 := ((((((how1.ext0 hE2).ext0 hE3).ext0 hE4).ext0 hE5).ext0 hE6).ext0 hE7).ext0 hE8
  have ho2 := (((((how2.ext0 hE3).ext0 hE4).ext0 hE5).ext0 hE6).ext0 hE7).ext0 hE8
  have hnw2 : ∀ y ∈ blkL v2, w.heap.size ≤ y := fun y hy => by have := hnew2 y hy; have := hE1.size; omega
  have hne : ∀ y ∈ blkL v2, ∀ z ∈ blkL v1, y ≠ z := fun y hy z hz => by
    have h1 := hnew2 y hy
    have h2 := how1.lt z hz
    omega
  clear how1 how2 how3 how5 hrs3 hrs5 hE1 hE2 hE3 hE4 hE5 hE6 hE7 hE8 hE02 hE03 hE04 hE05 hE06 hE07 hnew2
  obtain ⟨p1, c1, e1, _⟩ := ho1.rd.len_eq
  obtain ⟨n1, hn1⟩ : ∃ n, n = s.free.length := ⟨_, rfl⟩
  rw [← hn1] at e1
  subst e1
  go_loopw [8] (fun iv wr => ∃ (k : Nat) (ys : List Rng), k ≤ n1 ∧ iv = .int .i64 k ∧ Ext [] w wr ∧ ys.length = n1 ∧ Hid (ER.Ow 41 wr (.slice p1 n1 c1) ys) ∧ Hid (ER.Ow 41 wr v2 s.used)) (fun iv _ => n1 - (intOf iv).toNat)
  case atStart => exact ⟨0, _, Nat.zero_le _, rfl, hE08, hn1.symm, ho1, ho2⟩
  case round =>
    clear ho1 ho2 hE08
    obtain ⟨k, ys, hk, rfl, hE, hy, HY, HO2⟩ := hrel
    by_cases hlt : k < n1
    · obtain ⟨ga, o, rfl⟩ : ∃ g o, p1 = some ⟨g, o, none⟩ := by
        rcases HY.out.rd with ⟨_, h⟩ | ⟨g, o, c, h, _⟩
        · rw [h] at hy; simp at hy; omega
        · simp only [Value.slice.injEq] at h; exact ⟨g, o, h.1⟩
      have hlt' : k < ys.length := by omega
      obtain ⟨hm1, hm2⟩ := ER_cells HY.out.rd k hlt'
      have hfz := (ER_setTo HY.out hlt').1
      have hset := ER_setBoth HY.out hlt'
      have HSET := Lib.hid hset
      have hga := hnew1 ga (by simp [blkL])
      have hne2 : ∀ y ∈ blkL v2, y ∉ [ga] := fun y hy hz => by simp at hz; exact hne y hy ga (by simp [blkL]) hz
      have HNE2 := Lib.hid hne2
      have z1 : (k : Int) < (n1 : Int) := by omega
      clear hset hlt' hne2
      go_wp2_with fail
      go_roundw
      case rel => exact ⟨k + 1, _, by omega, by go_num, (hE.setCell (.inr hga) _).setCell (.inr hga) _, by rw [List.length_set]; exact hy, HSET.out _ _, HO2.out.ext (((Ext.refl [ga] wr).setCell (.inl (by simp)) _).setCell (.inl (by simp)) _) HNE2.out⟩
      case measure => simp [intOf]; omega
    · have z1 : ¬ ((k : Int) < (n1 : Int)) := by omega
      obtain ⟨p2, c2, e2, _⟩ := HO2.out.rd.len_eq
      obtain ⟨n2, hn2⟩ : ∃ n, n = s.used.length := ⟨_, rfl⟩
      rw [← hn2] at e2
      subst e2
      have HE := Lib.hid hE
      clear hy HY hne hE
      go_wp2_with fail
      go_loopw [9] (fun iv wr => ∃ (k : Nat) (ys : List Rng), k ≤ n2 ∧ iv = .int .i64 k ∧ Ext [] w wr ∧ ys.length = n2 ∧ Hid (ER.Ow 41 wr (.slice p2 n2 c2) ys)) (fun iv _ => n2 - (intOf iv).toNat)
      case atStart => exact ⟨0, _, Nat.zero_le _, rfl, HE.out, hn2.symm, HO2⟩
      case round =>
        obtain ⟨k, ys, hk, rfl, hE, hy, HY⟩ := hrel
        by_cases hlt : k < n2
        · obtain ⟨ga, o, rfl⟩ : ∃ g o, p2 = some ⟨g, o, none⟩ := by
            rcases HY.out.rd with ⟨_, h⟩ | ⟨g, o, c, h, _⟩
            · rw [h] at hy; simp at hy; omega
            · simp only [Value.slice.injEq] at h; exact ⟨g, o, h.1⟩
          have hlt' : k < ys.length := by omega
          obtain ⟨hm1, hm2⟩ := ER_cells HY.out.rd k hlt'
          have hfz := (ER_setTo HY.out hlt').1
          have hset := ER_setBoth HY.out hlt'
          have HSET := Lib.hid hset
          have hga := hnw2 ga (by simp [blkL])
          have z1 : (k : Int) < (n2 : Int) := by omega
          clear hset hlt'
          go_wp2_with fail
          go_roundw
          case rel => exact ⟨k + 1, _, by omega, by go_num, (hE.setCell (.inr hga) _).setCell (.inr hga) _, by rw [List.length_set]; exact hy, HSET.out _ _⟩
          case measure => simp [intOf]; omega
        · have z1 : ¬ ((k : Int) < (n2 : Int)) := by omega
          go_wp2
          go_ret
          exact ⟨rfl, hE⟩

end Go.Proofs.Ytaknhoplgcnhkaa
