
import Derived.Test.YtaknhoplgcnhkaaSpN
namespace Go.Proofs.Ytaknhoplgcnhkaa
open Go.RowKit

theorem NewRel.ok {nc : Int} {us : List Rng} {w w' : World} {p : Option Addr} {err : Int} (h : NewRel nc us w w' p err) (h1 : 1 ≤ nc) (h2 : nc ≤ 40000) (h3 : us.all (goodB nc) = true) (h4 : ApartTo us us.length) :
    err = 0 ∧ ∃ b s, p = some ⟨b, 0, none⟩ ∧ w.heap.size ≤ b ∧ SpR w' b s ∧ SpI s ∧ Fresh s nc us us.length := by
  rcases h with ⟨h, _⟩ | ⟨_, _, h, _⟩ | ⟨_, _, _, h, _⟩ | ⟨_, _, _, _, h5, h6⟩
  · omega
  · rw [h3] at h; cases h
  · exact (h h4).elim
  · exact ⟨h5, h6⟩

theorem Fresh.two {s : Spc} (h : Fresh s 10 [(2, 4)] 1) (hi : SpI s) : s.free = [(0, 2), (4, 10)] := by
  refine hi.okF.ext ⟨by simp, by simp⟩ (fun c => ?_)
  have h1 := hi.all c
  have h2 := hi.fu c
  have h3 := @Mem_nil c
  rw [h.leaving, h.cells, h.used] at h1
  rw [h.used] at h2
  simp only [List.take_succ_cons, List.take_zero, Mem_cons] at h1 h2 ⊢
  grind

theorem TakeRel.ok {s s' : Spc} {n a err : Int} {f : Rng} (h : TakeRel s n s' a err) (h1 : 1 ≤ n) (h2 : n ≤ cntL s.free - s.back) (h3 : s.free.find? (fitsB n) = some f) : err = 0 ∧ a = f.1 ∧ Took s s' a n := by
  rcases h with ⟨h, _⟩ | ⟨_, h | h, _⟩ | ⟨_, _, ⟨g, h4, h5⟩, h6, h7⟩
  · omega
  · omega
  · rw [h3] at h; cases h
  · rw [h3] at h4; cases h4; exact ⟨h6, h5, h7⟩

theorem GiveRel.ok {s s' : Spc} {f n err : Int} (h : GiveRel s f n s' err) (h1 : inB s f n = true) (h2 : hasB s.used (f, f + n) = true) : err = 0 ∧ Given s s' f n := by
  rcases h with ⟨h, _⟩ | ⟨_, h, _⟩ | ⟨_, _, h3, h4⟩
  · rw [h1] at h; cases h
  · rw [h2] at h; cases h
  · exact ⟨h3, h4⟩

set_option maxRecDepth 100000 in
set_option maxHeartbeats 1000000 in
theorem known_c (w : World) : Calls Try.prog 10 #[] w fun e w' => e = .returned (.bool true) ∧ Ext [] w w' := by
  go_enter Try.func10, Try.ntmps10
  go_wp2_with fail
  have hrd : ER.Rd (w.alloc (.cells #[.int .i64 2, .int .i64 4] 41)) (.slice (some ⟨w.heap.size, 0, none⟩) 1 1) [(2, 4)] := (one_rd rfl).rd
  refine (new_c 10 _ [(2, 4)] _ hrd (by omega) (by omega) (by simp)).mono ?_
  rintro e w1 ⟨p, err, rfl, hE, hrel⟩
  obtain ⟨rfl, b, s, rfl, hb, hr, hi, hf⟩ := hrel.ok (by omega) (by omega) (by simp [goodB]) (by intro i hi; simp at hi; subst hi; rfl)
  have hfr := hf.two hi
  have c0 : cntL s.free = 8 := by rw [hfr]; rfl
  have k0 := hf.back
  have HR := Lib.hid hr
  have HI := Lib.hid hi
  have HF := Lib.hid hf
  have HFR := Lib.hid hfr
  clear hrel hr hi hf hfr hrd
  go_wp2_with fail
  refine (free_c b s _ HR.out HI.out).mono ?_
  rintro e w2 ⟨rfl, hE2⟩
  rw [c0, k0]
  go_wp2_with fail
  refine (take_c b s 3 _ (HR.out.ext0 hE2) HI.out (by omega) (by omega)).mono ?_
  rintro e w3 ⟨s3, a, err, rfl, hr3, hi3, hE3, hrel⟩
  obtain ⟨rfl, rfl, ht⟩ := hrel.ok (f := (4, 10)) (by omega) (by omega) (by rw [HFR.out]; rfl)
  have hin3 : inB s3 2 2 = true := by simp [inB, ht.cells, HF.out.cells]
  have hhas3 : hasB s3.used (2, 2 + 2) = true := hasB_of_mem hi3.okU (by simp) (fun c hc => (ht.used c).2 (.inl ((HF.out.used c).2 ⟨(2, 4), by simp, by simp at hc ⊢; omega⟩)))
  have c3 : cntL s3.free = 5 := by rw [ht.cntF]; omega
  have k3 : s3.back = 0 := by rw [ht.back]; exact k0
  have l3 : cntL s3.leaving = 0 := by rw [ht.leaving, HF.out.leaving]; rfl
  have HR3 := Lib.hid hr3
  have HI3 := Lib.hid hi3
  have HIN := Lib.hid hin3
  have HHS := Lib.hid hhas3
  clear hrel ht hr3 hi3 hin3 hhas3
  go_wp2_with fail
  refine (give_c b s3 2 2 _ HR3.out HI3.out (by omega) (by omega) (by omega) (by omega)).mono ?_
  rintro e w4 ⟨s4, err, rfl, hr4, hi4, hE4, hrel⟩
  obtain ⟨rfl, ht⟩ := hrel.ok HIN.out HHS.out
  have c4 : cntL s4.free = 5 := by rw [ht.free]; exact c3
  have k4 : s4.back = 0 := by rw [ht.back]; exact k3
  have l4 : cntL s4.leaving = 2 := by rw [ht.cntV]; omega
  have HR4 := Lib.hid hr4
  have HI4 := Lib.hid hi4
  clear hrel ht hr4 hi4
  go_wp2_with fail
  refine (free_c b s4 _ HR4.out HI4.out).mono ?_
  rintro e w5 ⟨rfl, hE5⟩
  rw [c4, k4]
  go_wp2_with fail
  refine (settle_c b s4 _ (HR4.out.ext0 hE5) HI4.out).mono ?_
  rintro e w6 ⟨s6, rfl, hr6, hi6, hE6, ht⟩
  rw [l4]
  have c6 : cntL s6.free = 7 := by rw [ht.cnt]; omega
  have k6 : s6.back = 0 := by rw [ht.back]; exact k4
  have HR6 := Lib.hid hr6
  have HI6 := Lib.hid hi6
  clear ht hr6 hi6
  go_wp2_with fail
  refine (free_c b s6 _ HR6.out HI6.out).mono ?_
  rintro e w7 ⟨rfl, hE7⟩
  rw [c6, k6]
  go_wp2
  go_ret
  have hb' : w.heap.size ≤ b := by simp at hb; omega
  have h1 : Ext [] w w2 := (((Ext.refl [] w).alloc _).trans hE).trans hE2
  exact ⟨rfl, (h1.trans' (((((hE3.trans hE4).trans hE5.nil).trans hE6).trans hE7.nil)) (by simp) (fun x hx => by simp at hx; subst hx; exact .inr hb'))⟩

end Go.Proofs.Ytaknhoplgcnhkaa
