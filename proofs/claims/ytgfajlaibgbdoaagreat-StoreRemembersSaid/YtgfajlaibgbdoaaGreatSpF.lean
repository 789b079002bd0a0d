
import Derived.Test.YtgfajlaibgbdoaaGreatSpE
import Derived.Test.YtgfajlaibgbdoaaGreatSpP
namespace Go.Proofs.YtgfajlaibgbdoaaGreat
open Go.RowKit

theorem Ok.cells {w : World} {g o n cap : Nat} {s : List Rng} (h : ER.Rd w (.slice (some ⟨g, o, none⟩) n cap) s) (i : Nat) (hi : i < s.length) :
    w.cell? ⟨g, o + i * 2, none⟩ = some (.int .i64 (s.getD i (0,0)).1) ∧ w.cell? ⟨g, o + i * 2 + 1, none⟩ = some (.int .i64 (s.getD i (0,0)).2) := ER_cells h i hi

set_option maxHeartbeats 1000000 in
theorem has_c (v : Value) (s : List Rng) (f t : Int) (w : World) (hv : ER.Rd w v s) (hs : Ok s) (h0 : 0 ≤ f) (h1 : f < t) (h2 : t ≤ 40000) :
    Calls Tryz.prog 52 #[v, .agg #[.int .i64 f, .int .i64 t]] w fun e w' => e = .returned (.bool (hasB s (f, t))) ∧ Ext [] w w' := by
  have hl := hs.len
  have HV := Lib.hid hv
  have HS := Lib.hid hs
  obtain ⟨p, cap, rfl, hcap⟩ := hv.len_eq
  clear hv hs
  go_enter Tryz.func52, Tryz.ntmps52
  go_wp2_with fail
  refine (at_c _ s f _ h0 (by omega) (by omega) (HV.out.ext0 ((Ext.refl _ _).alloc _)) HS.out.srt).mono ?_
  rintro e w1 ⟨k, rfl, hk, hE1⟩
  have hE : Ext [] w w1 := ((Ext.refl [] w).alloc _).trans hE1
  have hc0 : w1.cell? ⟨w.heap.size, 0, none⟩ = some (.int .i64 f) := hE1.cell (by simp) (by simp)
  have hc1 : w1.cell? ⟨w.heap.size, 1, none⟩ = some (.int .i64 t) := hE1.cell (by simp) (by simp)
  have HB := Lib.hid (hasB_cut (r := (f, t)) HS.out hk h1)
  have HV1 := Lib.hid (HV.out.ext0 hE)
  have hkl := hk.1
  clear hE1 hk HV
  obtain ⟨x, hx⟩ : ∃ x, x = s.getD k (0,0) := ⟨_, rfl⟩
  by_cases hlt : k < s.length
  · obtain ⟨g, o, rfl⟩ : ∃ g o, p = some ⟨g, o, none⟩ := by
      rcases HV1.out with ⟨_, h⟩ | ⟨g, o, c, h, _⟩
      · subst h; simp at hlt
      · cases h; exact ⟨g, o, rfl⟩
    obtain ⟨hm1, hm2⟩ := ER_cells HV1.out k hlt
    rw [← hx] at hm1 hm2
    have HX := Lib.hid hx
    clear hx
    by_cases c1 : x.1 ≤ f
    · by_cases c2 : t ≤ x.2
      · go_wp2_with fail
        go_quiet (fail)
        go_wp2
        go_ret
        exact ⟨by rw [HB.out, ← HX.out]; simp [hlt, c1, c2], hE.drewN _⟩
      · have c2' : decide (t ≤ x.2) = false := by simpa using c2
        go_wp2_with fail
        go_quiet (fail)
        go_wp2
        go_ret
        exact ⟨by rw [HB.out, ← HX.out]; simp; omega, hE.drewN _⟩
    · have c1' : decide (x.1 ≤ f) = false := by simpa using c1
      go_wp2_with fail
      go_quiet (fail)
      go_wp2
      go_ret
      exact ⟨by rw [HB.out, ← HX.out]; simp; omega, hE.drewN _⟩
  · have hlt' : decide (k < s.length) = false := by simpa using hlt
    have HX := Lib.hid hx
    clear hx
    go_wp2_with fail
    go_quiet (fail)
    go_wp2
    go_ret
    exact ⟨by rw [HB.out]; simp [hlt], hE.drewN _⟩


set_option maxHeartbeats 1000000 in
theorem meets_c (v : Value) (s : List Rng) (f t : Int) (w : World) (hv : ER.Rd w v s) (hs : Ok s) (h0 : 0 ≤ f) (h1 : f ≤ 40000) :
    Calls Tryz.prog 44 #[v, .agg #[.int .i64 f, .int .i64 t]] w fun e w' => e = .returned (.bool (meetsB s (f, t))) ∧ Ext [] w w' := by
  have hl := hs.len
  have HV := Lib.hid hv
  have HS := Lib.hid hs
  obtain ⟨p, cap, rfl, hcap⟩ := hv.len_eq
  clear hv hs
  go_enter Tryz.func44, Tryz.ntmps44
  go_wp2_with fail
  refine (at_c _ s f _ h0 (by omega) (by omega) (HV.out.ext0 ((Ext.refl _ _).alloc _)) HS.out.srt).mono ?_
  rintro e w1 ⟨k, rfl, hk, hE1⟩
  have hE : Ext [] w w1 := ((Ext.refl [] w).alloc _).trans hE1
  have hc1 : w1.cell? ⟨w.heap.size, 1, none⟩ = some (.int .i64 t) := hE1.cell (by simp) (by simp)
  have HB := Lib.hid (meetsB_cut (r := (f, t)) HS.out hk)
  have HV1 := Lib.hid (HV.out.ext0 hE)
  have hkl := hk.1
  clear hE1 hk HV
  obtain ⟨x, hx⟩ : ∃ x, x = s.getD k (0,0) := ⟨_, rfl⟩
  by_cases hlt : k < s.length
  · obtain ⟨g, o, rfl⟩ : ∃ g o, p = some ⟨g, o, none⟩ := by
      rcases HV1.out with ⟨_, h⟩ | ⟨g, o, c, h, _⟩
      · subst h; simp at hlt
      · cases h; exact ⟨g, o, rfl⟩
    obtain ⟨hm1, hm2⟩ := ER_cells HV1.out k hlt
    rw [← hx] at hm1 hm2
    have HX := Lib.hid hx
    clear hx
    by_cases c1 : x.1 < t
    · go_wp2_with fail
      go_quiet (fail)
      go_wp2
      go_ret
      exact ⟨by rw [HB.out, ← HX.out]; simp; omega, hE.drewN _⟩
    · have c1' : decide (x.1 < t) = false := by simpa using c1
      go_wp2_with fail
      go_quiet (fail)
      go_wp2
      go_ret
      exact ⟨by rw [HB.out, ← HX.out]; simp; omega, hE.drewN _⟩
  · have hlt' : decide (k < s.length) = false := by simpa using hlt
    have HX := Lib.hid hx
    clear hx
    go_wp2_with fail
    go_quiet (fail)
    go_wp2
    go_ret
    exact ⟨by rw [HB.out]; simp; omega, hE.drewN _⟩

theorem cntL_take (s : List Rng) (k : Nat) (h : k < s.length) : cntL (s.take (k + 1)) = cntL (s.take k) + ((s.getD k (0,0)).2 - (s.getD k (0,0)).1) := by
  have e : s.getD k (0,0) = s[k] := by simp [List.getD, h]
  rw [List.take_succ_eq_append_getElem h, cntL_append, e]; simp [cntL]
theorem cntL_bd {s : List Rng} (hs : Ok s) : ∀ b : Int, (∀ x ∈ s, b ≤ x.1) → b ≤ 40000 → 0 ≤ cntL s ∧ cntL s ≤ 40000 - b := by
  induction s with
  | nil => intro b _ hb; simp [cntL]; omega
  | cons x s ih =>
    intro b hb hb2
    have hx := hs.2 x (by simp)
    have := hb x (by simp)
    have := ih hs.cons (x.2) (fun y hy => by have := (List.pairwise_cons.1 hs.1).1 y hy; omega) (by omega)
    simp only [cntL]; omega
theorem Ok.cnt {s : List Rng} (hs : Ok s) : 0 ≤ cntL s ∧ cntL s ≤ 40000 := by
  have := cntL_bd hs 0 (fun x hx => (hs.2 x hx).1) (by omega)
  omega
theorem Ok.take {s : List Rng} (hs : Ok s) (k : Nat) : Ok (s.take k) := ⟨hs.1.take, fun x hx => hs.2 x (List.mem_of_mem_take hx)⟩

theorem count_c (v : Value) (s : List Rng) (w : World) (hv : ER.Rd w v s) (hs : Ok s) :
    Calls Tryz.prog 78 #[v] w fun e w' => e = .returned (.int .i64 (cntL s)) ∧ Ext [] w w' := by
  have hl := hs.len
  have HS := Lib.hid hs
  have HV := Lib.hid hv
  obtain ⟨p, cap, rfl, hcap⟩ := hv.len_eq
  clear hv hs
  go_enter Tryz.func78, Tryz.ntmps78
  go_wp2
  go_loopw [3, 8, 5] (fun n i _ wr => ∃ k : Nat, k ≤ s.length ∧ i = .int .i64 k ∧ n = .int .i64 (cntL (s.take k)) ∧ Ext [] w wr) (fun _ i _ _ => s.length - (intOf i).toNat)
  case atStart => exact ⟨0, Nat.zero_le _, rfl, rfl, Ext.refl _ _⟩
  case round =>
    obtain ⟨k, hk, rfl, rfl, hB⟩ := hrel
    by_cases hlt : k < s.length
    · have hv1 := HV.out.ext0 hB
      obtain ⟨g, o, rfl⟩ : ∃ g o, p = some ⟨g, o, none⟩ := by
        rcases HV.out with ⟨_, h⟩ | ⟨g, o, c, h, _⟩
        · subst h; simp at hlt
        · cases h; exact ⟨g, o, rfl⟩
      obtain ⟨hm1, hm2⟩ := ER_cells hv1 k hlt
      have HT := Lib.hid (cntL_take s k hlt)
      obtain ⟨b1, b2⟩ := (HS.out.take k).cnt
      obtain ⟨b3, b4⟩ := (HS.out.take (k+1)).cnt
      rw [HT.out] at b3 b4
      have b5 := HS.out.at hlt
      generalize s.getD k (0,0) = x at *
      obtain ⟨C, hC⟩ : ∃ C, C = cntL (s.take k) := ⟨_, rfl⟩
      rw [← hC] at b1 b2 b3 b4
      rw [← hC]
      have HC := Lib.hid hC
      clear hv1 hC
      go_wp2
      go_roundw
      case rel => exact ⟨k + 1, by omega, by go_num, by rw [HT.out, ← HC.out], hB.alloc _⟩
      case measure => simp [intOf]; omega
    · go_wp2
      go_ret
      refine ⟨?_, hB⟩
      rw [List.take_of_length_le (by omega)]
      rfl

end Go.Proofs.YtgfajlaibgbdoaaGreat
