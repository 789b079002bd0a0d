
import Derived.Test.YtaknhoplgcnhkaaSpO
namespace Go.Proofs.Ytaknhoplgcnhkaa
open Go.RowKit

theorem Fresh.all {s : Spc} {nc : Int} (h : Fresh s nc [] 0) (hi : SpI s) : s.free = [(0, nc)] ∧ s.used = [] := by
  have c1 := hi.c1
  have c2 := hi.c2
  rw [h.cells] at c1 c2
  constructor
  · refine hi.okF.ext ⟨by simp, by simp; omega⟩ (fun c => ?_)
    have h1 := hi.all c
    rw [h.leaving, h.cells, h.used] at h1
    have h3 := @Mem_nil c
    simp only [List.take_nil, Mem_cons] at h1 ⊢
    grind
  · refine hi.okU.ext Ok.nil (fun c => ?_)
    rw [h.used]
    simp

theorem modw (a m : Int) (hm : 0 < m) : 0 ≤ (IntKind.u64.wrap a).tmod m ∧ (IntKind.u64.wrap a).tmod m < m := by
  have h0 : 0 ≤ IntKind.u64.wrap a := by
    simp only [IntKind.wrap, IntKind.signed, IntKind.bits]
    exact Int.emod_nonneg _ (by decide)
  exact ⟨Int.tmod_nonneg _ h0, Int.tmod_lt_of_pos _ hm⟩

set_option maxRecDepth 100000 in
set_option maxHeartbeats 1000000 in
theorem keeps_walk (a0 : Int) (a1 : Int) (a2 : Int) (w : World) :
    Calls Try.prog 6 #[.int .i64 a0, .int .i64 a1, .int .i64 a2] w fun e w' => e = .returned (.bool true) ∧ Ext [] w w' := by
  go_enter Try.func6, Try.ntmps6
  go_wp2_with fail
  refine (known_c _).mono ?_
  rintro e W1 ⟨rfl, hE1⟩
  go_wp2_with fail
  have b0 := modw a0 200 (by omega)
  obtain ⟨c, hc⟩ : ∃ c, c = 1 + (IntKind.u64.wrap a0).tmod 200 := ⟨_, rfl⟩
  have ec : wrap64 (1 + wrap64 ((IntKind.u64.wrap a0).tmod 200)) = c := by
    rw [show wrap64 ((IntKind.u64.wrap a0).tmod 200) = (IntKind.u64.wrap a0).tmod 200 from by unfold wrap64; omega, ← hc]
    unfold wrap64; omega
  rw [ec]
  have c1 : 1 ≤ c := by omega
  have c2 : c ≤ 200 := by omega
  have e1 : IntKind.i64.wrap (c + 1) = c + 1 := IntWalk.i64_in _ (by omega)
  have e2 : IntKind.u64.wrap (c + 1) = c + 1 := IntWalk.u64_in _ (by omega)
  have e3 : IntKind.u64.wrap c = c := IntWalk.u64_in _ (by omega)
  have b1 := modw a1 (c + 1) (by omega)
  have b2 := modw a2 c (by omega)
  obtain ⟨k, hk⟩ : ∃ k, (IntKind.u64.wrap a1).tmod (c + 1) = k := ⟨_, rfl⟩
  obtain ⟨m, hm⟩ : ∃ m, (IntKind.u64.wrap a2).tmod c = m := ⟨_, rfl⟩
  rw [hk] at b1
  rw [hm] at b2
  have e4 : IntKind.i64.wrap k = k := IntWalk.i64_in _ (by omega)
  have e5 : IntKind.i64.wrap m = m := IntWalk.i64_in _ (by omega)
  have e6 : IntKind.i64.wrap (1 + m) = 1 + m := IntWalk.i64_in _ (by omega)
  have HC := Lib.hid hc
  clear hc ec b0
  go_quiet (fail)
  go_wp2_with fail
  refine (new_c c _ [] _ (.inl ⟨rfl, rfl⟩) (by omega) (by omega) (by simp)).mono ?_
  rintro e W2 ⟨p, err, rfl, hE2, hrel⟩
  obtain ⟨rfl, b, s, rfl, hb, hr, hi, hf⟩ := hrel.ok c1 (by omega) rfl (by intro i hi; simp at hi)
  obtain ⟨hfr, hus⟩ := hf.all hi
  have k0 := hf.back
  have f0 : cntL s.free = c := by rw [hfr]; simp [cntL]
  have HR := Lib.hid hr
  have HI := Lib.hid hi
  have HFR := Lib.hid hfr
  have HUS := Lib.hid hus
  clear hrel hr hi hf hfr hus
  go_wp2_with fail
  refine (reserve_c b s k _ HR.out HI.out (by omega) (by omega)).mono ?_
  rintro e W3 ⟨s1, err, rfl, hr1, hi1, hE3, hrel⟩
  obtain ⟨hs1, rfl⟩ : s1 = { s with back := s.back + k } ∧ err = 0 := by
    rcases hrel with ⟨h, _⟩ | ⟨_, h, _⟩ | ⟨_, _, h1, h2⟩
    · omega
    · omega
    · exact ⟨h1, h2⟩
  have HR1 := Lib.hid hr1
  have HI1 := Lib.hid hi1
  have f1 : cntL s1.free = c := by rw [hs1]; exact f0
  have k1 : s1.back = k := by rw [hs1]; show s.back + k = k; omega
  have HFR1 : Hid (s1.free = [(0, c)]) := by rw [hs1]; exact HFR
  have HUS1 : Hid (s1.used = []) := by rw [hs1]; exact HUS
  clear hr1 hi1 hrel hs1 HR HI HFR HUS
  go_wp2_with fail
  refine (free_c b _ _ HR1.out HI1.out).mono ?_
  rintro e W4 ⟨rfl, hE4⟩
  simp only [f1, k1]
  go_wp2_with fail
  refine (reserve_c b s1 (c - k + 1) _ (HR1.out.ext0 hE4) HI1.out (by omega) (by omega)).mono ?_
  rintro e W5 ⟨s2, err, rfl, hr2, hi2, hE5, hrel⟩
  obtain ⟨hs2, rfl⟩ : s2 = s1 ∧ err = 5 := by
    rcases hrel with ⟨h, _⟩ | ⟨_, _, h1, h2⟩ | ⟨_, h, _⟩
    · omega
    · exact ⟨h1, h2⟩
    · omega
  rw [hs2] at hr2
  have HR2 := Lib.hid hr2
  clear hrel hr2 hi2 hs2
  go_wp2_with fail
  refine (reserve_c b s1 (-k - 1) _ HR2.out HI1.out (by omega) (by omega)).mono ?_
  rintro e W6 ⟨s3, err, rfl, hr3, hi3, hE6, hrel⟩
  obtain ⟨hs3, rfl⟩ : s3 = s1 ∧ err = 1 := by
    rcases hrel with ⟨_, h1, h2⟩ | ⟨h, _⟩ | ⟨h, _⟩
    · exact ⟨h1, h2⟩
    · omega
    · omega
  rw [hs3] at hr3
  have HR3 := Lib.hid hr3
  clear hrel hr3 hi3 hs3
  go_wp2_with fail
  refine (copy_c b s1 _ HR3.out).mono ?_
  rintro e W7 ⟨b2, rfl, hr7, hE7, hb2⟩
  have hbl3 := HR3.out.lt
  have hbb : b ≠ b2 := by omega
  have HR7 := Lib.hid hr7
  clear hr7
  go_wp2_with fail
  refine (take_c b2 s1 (1 + m) _ HR7.out HI1.out (by omega) (by omega)).mono ?_
  rintro e W8 ⟨s8, a, err, rfl, hr8, hi8, hE8, hrel⟩
  have hr9 : SpR W8 b s1 := by
    obtain ⟨cc, hcc⟩ := HR7.out.blk
    exact (HR3.out.ext0 hE7).other hE8 hbb hcc
  have HR8 := Lib.hid hr8
  have HI8 := Lib.hid hi8
  have HR9 := Lib.hid hr9
  have HREL := Lib.hid hrel
  have herr : err = (if 1 + m ≤ c - k then 0 else 5) := by
    rcases HREL.out with ⟨h, _⟩ | ⟨_, h | h, _, _, h1⟩ | ⟨_, h1, _, h2, _⟩
    · omega
    · rw [if_neg (by omega)]; exact h1
    · rw [HFR1.out] at h
      simp [fitsB] at h
      rw [if_neg (by omega)]; exact h1
    · rw [if_pos (by omega)]; exact h2
  have hbd : err = 0 ∨ err = 5 := by rw [herr]; split <;> simp
  clear hr8 hi8 hr9 hrel
  have HB2 := Lib.hid hb2
  clear hb2
  have hlb2 : W6.heap.size ≤ b2 := HB2.out
  by_cases hmk : 1 + m ≤ c - k
  · rw [if_pos hmk] at herr
    subst herr
    go_wp2_with fail
    refine (free_c b s1 _ HR9.out HI1.out).mono ?_
    rintro e W10 ⟨rfl, hE10⟩
    simp only [f1, k1]
    go_wp2_with fail
    refine (used_c b s1 _ (HR9.out.ext0 hE10) HI1.out).mono ?_
    rintro e W11 ⟨v11, rfl, how, hE11, _⟩
    rw [HUS1.out] at how
    obtain ⟨p11, c11, rfl, _⟩ := how.rd.len_eq
    clear how
    have hr11 := (HR9.out.ext0 hE10).ext0 hE11
    have HR11 := Lib.hid hr11
    clear hr11
    go_wp2_with fail
    refine (reserve_c b s1 (-k) _ HR11.out HI1.out (by omega) (by omega)).mono ?_
    rintro e W12 ⟨s12, err, rfl, hr12, hi12, hE12, hrel⟩
    obtain ⟨hs12, rfl⟩ : s12 = { s1 with back := s1.back + -k } ∧ err = 0 := by
      rcases hrel with ⟨h, _⟩ | ⟨_, h, _⟩ | ⟨_, _, h1, h2⟩
      · omega
      · omega
      · exact ⟨h1, h2⟩
    have f12 : cntL s12.free = c := by rw [hs12]; exact f1
    have k12 : s12.back = 0 := by rw [hs12]; show s1.back + -k = 0; omega
    have HFR12 : Hid (s12.free = [(0, c)]) := by rw [hs12]; exact HFR1
    have hr8' := ((HR8.out.ext0 hE10).ext0 hE11).other hE12 (Ne.symm hbb) HR11.out.blk.choose_spec
    have HR8' := Lib.hid hr8'
    have HR12 := Lib.hid hr12
    have HI12 := Lib.hid hi12
    clear hrel hr12 hi12 hs12 hr8'
    go_wp2_with fail
    refine (take_c b s12 c _ HR12.out HI12.out (by omega) (by omega)).mono ?_
    rintro e W13 ⟨s13, a13, err, rfl, hr13, hi13, hE13, hrel⟩
    obtain ⟨rfl, rfl, ht⟩ := hrel.ok (f := (0, c)) (by omega) (by omega) (by rw [HFR12.out]; simp [fitsB])
    have f13 : cntL s13.free = 0 := by rw [ht.cntF]; omega
    have k13 : s13.back = 0 := by rw [ht.back]; exact k12
    have hr8' := HR8'.out.other hE13 (Ne.symm hbb) HR12.out.blk.choose_spec
    have HR8'' := Lib.hid hr8'
    have HR13 := Lib.hid hr13
    have HI13 := Lib.hid hi13
    clear hrel hr13 hi13 ht hr8'
    go_wp2_with fail
    refine (free_c b s13 _ HR13.out HI13.out).mono ?_
    rintro e W14 ⟨rfl, hE14⟩
    simp only [f13, k13]
    go_wp2_with fail
    refine (copy_c b2 s8 _ (HR8''.out.ext0 hE14)).mono ?_
    rintro e W15 ⟨b3, rfl, hr15, hE15, _⟩
    have HR15 := Lib.hid hr15
    clear hr15
    go_wp2_with fail
    refine (free_c b3 s8 _ HR15.out HI8.out).mono ?_
    rintro e W16 ⟨rfl, hE16⟩
    go_wp2_with fail
    refine (free_c b2 s8 _ (((HR8''.out.ext0 hE14).ext0 hE15).ext0 hE16) HI8.out).mono ?_
    rintro e W17 ⟨rfl, hE17⟩
    go_wp2
    go_ret
    have hA : Ext [] w W2 := (hE1.drewN _).trans hE2
    have hbw : w.heap.size ≤ b := by have h1 := hE1.size; have h2 : W1.heap.size ≤ b := hb; omega
    have hb2w : w.heap.size ≤ b2 := by
      have h1 := hA.size; have h3 := hE3.size; have h4 := hE4.size; have h5 := hE5.size; have h6 := hE6.size
      omega
    have S1 : ∀ x ∈ [b], x ∈ [b, b2] ∨ W2.heap.size ≤ x := fun x hx => .inl (by simp at hx; simp [hx])
    have m1 : ∀ {u v : World}, Ext [b] u v → Ext [b, b2] u v := fun h => h.mono (fun x hx => .inl (by simp at hx; simp [hx]))
    have m2 : ∀ {u v : World}, Ext [b2] u v → Ext [b, b2] u v := fun h => h.mono (fun x hx => .inl (by simp at hx; simp [hx]))
    have hB := (((((((((((((m1 hE3).trans hE4.nil).trans (m1 hE5)).trans (m1 hE6)).trans hE7.nil).trans (m2 hE8)).trans hE10.nil).trans hE11.nil).trans (m1 hE12)).trans (m1 hE13)).trans hE14.nil).trans hE15.nil).trans hE16.nil).trans hE17.nil
    exact ⟨rfl, hA.trans' hB (by simp) (fun x hx => .inr (by simp at hx; rcases hx with rfl | rfl <;> assumption))⟩
  · rw [if_neg hmk] at herr
    subst herr
    go_wp2_with fail
    refine (free_c b s1 _ HR9.out HI1.out).mono ?_
    rintro e W10 ⟨rfl, hE10⟩
    simp only [f1, k1]
    go_wp2_with fail
    refine (used_c b s1 _ (HR9.out.ext0 hE10) HI1.out).mono ?_
    rintro e W11 ⟨v11, rfl, how, hE11, _⟩
    rw [HUS1.out] at how
    obtain ⟨p11, c11, rfl, _⟩ := how.rd.len_eq
    clear how
    have hr11 := (HR9.out.ext0 hE10).ext0 hE11
    have HR11 := Lib.hid hr11
    clear hr11
    go_wp2_with fail
    refine (reserve_c b s1 (-k) _ HR11.out HI1.out (by omega) (by omega)).mono ?_
    rintro e W12 ⟨s12, err, rfl, hr12, hi12, hE12, hrel⟩
    obtain ⟨hs12, rfl⟩ : s12 = { s1 with back := s1.back + -k } ∧ err = 0 := by
      rcases hrel with ⟨h, _⟩ | ⟨_, h, _⟩ | ⟨_, _, h1, h2⟩
      · omega
      · omega
      · exact ⟨h1, h2⟩
    have f12 : cntL s12.free = c := by rw [hs12]; exact f1
    have k12 : s12.back = 0 := by rw [hs12]; show s1.back + -k = 0; omega
    have HFR12 : Hid (s12.free = [(0, c)]) := by rw [hs12]; exact HFR1
    have hr8' := ((HR8.out.ext0 hE10).ext0 hE11).other hE12 (Ne.symm hbb) HR11.out.blk.choose_spec
    have HR8' := Lib.hid hr8'
    have HR12 := Lib.hid hr12
    have HI12 := Lib.hid hi12
    clear hrel hr12 hi12 hs12 hr8'
    go_wp2_with fail
    refine (take_c b s12 c _ HR12.out HI12.out (by omega) (by omega)).mono ?_
    rintro e W13 ⟨s13, a13, err, rfl, hr13, hi13, hE13, hrel⟩
    obtain ⟨rfl, rfl, ht⟩ := hrel.ok (f := (0, c)) (by omega) (by omega) (by rw [HFR12.out]; simp [fitsB])
    have f13 : cntL s13.free = 0 := by rw [ht.cntF]; omega
    have k13 : s13.back = 0 := by rw [ht.back]; exact k12
    have hr8' := HR8'.out.other hE13 (Ne.symm hbb) HR12.out.blk.choose_spec
    have HR8'' := Lib.hid hr8'
    have HR13 := Lib.hid hr13
    have HI13 := Lib.hid hi13
    clear hrel hr13 hi13 ht hr8'
    go_wp2_with fail
    refine (free_c b s13 _ HR13.out HI13.out).mono ?_
    rintro e W14 ⟨rfl, hE14⟩
    simp only [f13, k13]
    go_wp2_with fail
    refine (copy_c b2 s8 _ (HR8''.out.ext0 hE14)).mono ?_
    rintro e W15 ⟨b3, rfl, hr15, hE15, _⟩
    have HR15 := Lib.hid hr15
    clear hr15
    go_wp2_with fail
    refine (free_c b3 s8 _ HR15.out HI8.out).mono ?_
    rintro e W16 ⟨rfl, hE16⟩
    go_wp2_with fail
    refine (free_c b2 s8 _ (((HR8''.out.ext0 hE14).ext0 hE15).ext0 hE16) HI8.out).mono ?_
    rintro e W17 ⟨rfl, hE17⟩
    go_wp2
    go_ret
    have hA : Ext [] w W2 := (hE1.drewN _).trans hE2
    have hbw : w.heap.size ≤ b := by have h1 := hE1.size; have h2 : W1.heap.size ≤ b := hb; omega
    have hb2w : w.heap.size ≤ b2 := by
      have h1 := hA.size; have h3 := hE3.size; have h4 := hE4.size; have h5 := hE5.size; have h6 := hE6.size
      omega
    have S1 : ∀ x ∈ [b], x ∈ [b, b2] ∨ W2.heap.size ≤ x := fun x hx => .inl (by simp at hx; simp [hx])
    have m1 : ∀ {u v : World}, Ext [b] u v → Ext [b, b2] u v := fun h => h.mono (fun x hx => .inl (by simp at hx; simp [hx]))
    have m2 : ∀ {u v : World}, Ext [b2] u v → Ext [b, b2] u v := fun h => h.mono (fun x hx => .inl (by simp at hx; simp [hx]))
    have hB := (((((((((((((m1 hE3).trans hE4.nil).trans (m1 hE5)).trans (m1 hE6)).trans hE7.nil).trans (m2 hE8)).trans hE10.nil).trans hE11.nil).trans (m1 hE12)).trans (m1 hE13)).trans hE14.nil).trans hE15.nil).trans hE16.nil).trans hE17.nil
    exact ⟨rfl, hA.trans' hB (by simp) (fun x hx => .inr (by simp at hx; rcases hx with rfl | rfl <;> assumption))⟩

end Go.Proofs.Ytaknhoplgcnhkaa
