
import Derived.Test.YtgfajlaibgbdoaaGreatSpF
namespace Go.Proofs.YtgfajlaibgbdoaaGreat
open Go.RowKit

/-- a new set in new memory. -/
def SetPost (w : World) (p : List Rng → Prop) (e : Ending) (w' : World) : Prop := ∃ v' s', e = .returned v' ∧ ER.Ow 104 w' v' s' ∧ p s' ∧ Ext [] w w'

theorem split_at {s : List Rng} {k : Nat} (h : k < s.length) : s = s.take k ++ s.getD k (0,0) :: s.drop (k + 1) := by
  have e : s.getD k (0,0) = s[k] := by simp [List.getD, h]
  rw [e, ← List.drop_eq_getElem_cons h, List.take_append_drop]

theorem blk_new {W0 : World} {o : Obj} {n : Nat} (h : n = W0.heap.size) : (W0.alloc o).heap[n]? = some o := by subst h; exact heap_alloc_new _ _
theorem one_rd {W0 : World} {a b : Int} {n : Nat} (h : n = W0.heap.size) : ER.Ow 104 (W0.alloc (.cells #[.int .i64 a, .int .i64 b] 104)) (.slice (some ⟨n, 0, none⟩) 1 1) [(a, b)] :=
  .inr ⟨n, 0, 1, [(a, b)], rfl, blk_new h, by simp, by simp, by simp⟩


set_option maxHeartbeats 1000000 in
theorem cut_c (v : Value) (s : List Rng) (f t : Int) (w : World) (hv : ER.Ow 104 w v s) (hs : Ok s) (h0 : 0 ≤ f) (h1 : f < t) (h2 : t ≤ 40000) (hh : hasB s (f, t) = true) :
    Calls Tryz.prog 45 #[v, .agg #[.int .i64 f, .int .i64 t]] w (SetPost w fun s' => Ok s' ∧ (∀ c, Mem s' c ↔ Mem s c ∧ ¬ (f ≤ c ∧ c < t)) ∧ cntL s' = cntL s - (t - f)) := by
  have hl := hs.len
  have HV := Lib.hid hv
  have HS := Lib.hid hs
  obtain ⟨p, cap, rfl, hcap⟩ := hv.rd.len_eq
  clear hv hs
  go_enter Tryz.func45, Tryz.ntmps45
  go_wp2_with fail
  refine (at_c _ s f _ h0 (by omega) (by omega) (HV.out.rd.ext0 ((Ext.refl _ _).alloc _)) HS.out.srt).mono ?_
  rintro e w1 ⟨k, rfl, hk, hE1⟩
  have hE : Ext [] w w1 := ((Ext.refl [] w).alloc _).trans hE1
  have hc0 : w1.cell? ⟨w.heap.size, 0, none⟩ = some (.int .i64 f) := hE1.cell (by simp) (by simp)
  have hc1 : w1.cell? ⟨w.heap.size, 1, none⟩ = some (.int .i64 t) := hE1.cell (by simp) (by simp)
  have hb := hasB_cut (r := (f, t)) HS.out hk h1
  rw [hh] at hb
  simp at hb
  obtain ⟨hlt, g1, g2⟩ := hb
  have hlt1 : w.heap.size < w1.heap.size := by have := hE1.size; simp at this; omega
  have HV1 := Lib.hid (HV.out.ext0 hE)
  have HSP := Lib.hid (split_at hlt)
  clear hE1 hk HV hh
  obtain ⟨x, hx⟩ : ∃ x, x = s.getD k (0,0) := ⟨_, rfl⟩
  have hxe : s.getD k (0,0) = (s[k]?.getD (0,0)) := rfl
  rw [← hxe, ← hx] at g1 g2
  obtain ⟨g, o, rfl⟩ : ∃ g o, p = some ⟨g, o, none⟩ := by
    rcases HV1.out.rd with ⟨_, h⟩ | ⟨g, o, c, h, _⟩
    · subst h; simp at hlt
    · cases h; exact ⟨g, o, rfl⟩
  obtain ⟨hm1, hm2⟩ := ER_cells HV1.out.rd k hlt
  rw [← hx] at hm1 hm2
  have HX := Lib.hid hx
  clear hx hxe
  have hw1 : w.heap.size < w1.heap.size := hlt1
  have HPn : ∀ W, ER.Ow 104 W (.slice none 0 0) [] := fun W => .inl ⟨rfl, rfl⟩
  by_cases c1 : x.1 < f
  · have C1 := Lib.hid c1
    go_wp2_with (with_reducible refine hold_at (d := 28) ?_)
    refine wpl_of rfl fun K hK => opw_append (E := ER) (T := 104) (zero := (0,0)) (bytes := 16) (v := .slice none 0 0) (xs := []) (ys := [(x.1, f)]) tiR Tryz.underlying60 Tryz.underlying60 rfl rfl rfl (.inl ⟨rfl, rfl⟩) (one_rd (by simp)).rd (by simp) (by simp) ?_
    intro v2 w2 how2 hext2 hnear2 hnn2
    have hE2 : Ext [] w1 w2 := (((Ext.refl [] w1).alloc _).alloc _).trans' hext2 (by simp) (by simp [blkL])
    have k1 : w2.cell? ⟨w1.heap.size, 1, none⟩ = some (.int .i64 x.2) := hext2.cell (by simp [World.cell?_alloc_lt]) (by simp [blkL])
    have k2 : w2.cell? ⟨w.heap.size, 1, none⟩ = some (.int .i64 t) := hE2.cell hc1 (by simp)
    have kz : w1.heap.size < w2.heap.size := by have := hext2.size; simp at this; omega
    have hnew2 : ∀ b ∈ blkL v2, w1.heap.size ≤ b := fun b hb => by
      rcases hnear2 b hb with h | h
      · simp [blkL] at h
      · simp at h; omega
    refine hK _ _ ?_
    clear hK hext2 hnear2 hnn2 hc0 hc1 hm1 hm2
    simp only [List.nil_append] at how2
    have HO2 := Lib.hid how2
    clear how2
    have hb2 : ∀ b ∈ blkL v2, w1.heap.size ≤ b := hnew2
    by_cases c2 : t < x.2
    · have C2 := Lib.hid c2
      go_wp2_with (with_reducible refine hold_at (d := 41) ?_)
      refine wpl_of rfl fun K hK => opw_append (E := ER) (T := 104) (zero := (0,0)) (bytes := 16) (v := v2) (xs := [(x.1, f)]) (ys := [(t, x.2)]) tiR Tryz.underlying60 Tryz.underlying60 rfl rfl rfl (HO2.out.ext0 ((Ext.refl _ _).alloc _)) (one_rd (by simp)).rd (by simp) (by simp) ?_
      intro v3 w3 how3 hext3 hnear3 hnn3
      have hE3 : Ext [] w1 w3 := (hE2.alloc _).trans' hext3 (by simp) (fun b hb => .inr (hb2 b hb))
      refine hK _ _ ?_
      clear hK hext3 hnear3 hnn3 k1 k2
      have HO3 := Lib.hid how3
      clear how3
      go_wp2_with fail
      refine (clone_c _ s w3 (by omega) (HV1.out.ext0 (hE3)).rd).mono ?_
      rintro e w5 ⟨vc, rfl, howc, hEc, hfrc, hnn⟩
      rcases howc with ⟨_, h⟩ | ⟨gc, qc, capc, lc, rfl, hbc, hcc, hqc, hwc⟩
      · subst h; simp at hlt
      have HP5 := Lib.hid ((HO3.out).ext0 hEc)
      have hne : ∀ b ∈ blkL (v3), b ≠ gc := fun b hb hbe => by
        have h2 := hfrc gc (by simp [blkL])
        first | (simp [blkL] at hb; done) | (have h1 := (HO3.out).lt b hb; omega)
      have hgc := hfrc gc (by simp [blkL])
      have hE5 : Ext [] w w5 := (hE.trans (hE3)).trans hEc
      have hle := (hE.trans (hE3)).size
      clear hnn hfrc hEc
      go_wp2_with fail
      refine (replace_c gc qc capc lc _ s ([(x.1, f)] ++ [(t, x.2)]) k (k + 1) _ hbc hcc hqc hwc HP5.out hne (by omega) (by omega) (by simp; omega)).mono ?_
      rintro e w6 ⟨v6, rfl, how6, hE6, _⟩
      go_wp2
      go_ret
      have hok := cutR_ok (A := s.take k) (B := s.drop (k + 1)) (x := x) (r := (f, t)) (by rw [HX.out, ← HSP.out]; exact HS.out) h1 g1 g2
      rw [HX.out, ← HSP.out, ← HX.out] at hok
      refine ⟨v6, _, rfl, how6, ?_, hE5.trans' hE6 (by simp) (by simp [blkL]; omega)⟩
      have e : s.take k ++ ([(x.1, f)] ++ [(t, x.2)]) ++ s.drop (k + 1) = cutR (s.take k) x (f, t) (s.drop (k + 1)) := by
        have d1 := C1.out
        have d2 := C2.out
        simp only [cutR]
        (repeat' split) <;> first | (exfalso; omega) | simp
      rw [e]; exact hok
    · have C2 := Lib.hid c2
      go_wp2_with fail
      refine (clone_c _ s w2 (by omega) (HV1.out.ext0 (hE2)).rd).mono ?_
      rintro e w5 ⟨vc, rfl, howc, hEc, hfrc, hnn⟩
      rcases howc with ⟨_, h⟩ | ⟨gc, qc, capc, lc, rfl, hbc, hcc, hqc, hwc⟩
      · subst h; simp at hlt
      have HP5 := Lib.hid ((HO2.out).ext0 hEc)
      have hne : ∀ b ∈ blkL (v2), b ≠ gc := fun b hb hbe => by
        have h2 := hfrc gc (by simp [blkL])
        first | (simp [blkL] at hb; done) | (have h1 := (HO2.out).lt b hb; omega)
      have hgc := hfrc gc (by simp [blkL])
      have hE5 : Ext [] w w5 := (hE.trans (hE2)).trans hEc
      have hle := (hE.trans (hE2)).size
      clear hnn hfrc hEc
      go_wp2_with fail
      refine (replace_c gc qc capc lc _ s ([(x.1, f)]) k (k + 1) _ hbc hcc hqc hwc HP5.out hne (by omega) (by omega) (by simp; omega)).mono ?_
      rintro e w6 ⟨v6, rfl, how6, hE6, _⟩
      go_wp2
      go_ret
      have hok := cutR_ok (A := s.take k) (B := s.drop (k + 1)) (x := x) (r := (f, t)) (by rw [HX.out, ← HSP.out]; exact HS.out) h1 g1 g2
      rw [HX.out, ← HSP.out, ← HX.out] at hok
      refine ⟨v6, _, rfl, how6, ?_, hE5.trans' hE6 (by simp) (by simp [blkL]; omega)⟩
      have e : s.take k ++ ([(x.1, f)]) ++ s.drop (k + 1) = cutR (s.take k) x (f, t) (s.drop (k + 1)) := by
        have d1 := C1.out
        have d2 := C2.out
        simp only [cutR]
        (repeat' split) <;> first | (exfalso; omega) | simp
      rw [e]; exact hok
  · have C1 := Lib.hid c1
    by_cases c2 : t < x.2
    · have C2 := Lib.hid c2
      go_wp2_with (with_reducible refine hold_at (d := 41) ?_)
      refine wpl_of rfl fun K hK => opw_append (E := ER) (T := 104) (zero := (0,0)) (bytes := 16) (v := .slice none 0 0) (xs := []) (ys := [(t, x.2)]) tiR Tryz.underlying60 Tryz.underlying60 rfl rfl rfl (HPn _) (one_rd (by simp)).rd (by simp) (by simp) ?_
      intro v2 w2 how2 hext2 hnear2 hnn2
      have hE2 : Ext [] w1 w2 := (((Ext.refl [] w1).alloc _).alloc _).trans' hext2 (by simp) (by simp [blkL])
      refine hK _ _ ?_
      clear hK hext2 hnear2 hnn2 hc0 hc1 hm1 hm2
      simp only [List.nil_append] at how2
      have HO2 := Lib.hid how2
      clear how2
      go_wp2_with fail
      refine (clone_c _ s w2 (by omega) (HV1.out.ext0 (hE2)).rd).mono ?_
      rintro e w5 ⟨vc, rfl, howc, hEc, hfrc, hnn⟩
      rcases howc with ⟨_, h⟩ | ⟨gc, qc, capc, lc, rfl, hbc, hcc, hqc, hwc⟩
      · subst h; simp at hlt
      have HP5 := Lib.hid ((HO2.out).ext0 hEc)
      have hne : ∀ b ∈ blkL (v2), b ≠ gc := fun b hb hbe => by
        have h2 := hfrc gc (by simp [blkL])
        first | (simp [blkL] at hb; done) | (have h1 := (HO2.out).lt b hb; omega)
      have hgc := hfrc gc (by simp [blkL])
      have hE5 : Ext [] w w5 := (hE.trans (hE2)).trans hEc
      have hle := (hE.trans (hE2)).size
      clear hnn hfrc hEc
      go_wp2_with fail
      refine (replace_c gc qc capc lc _ s ([(t, x.2)]) k (k + 1) _ hbc hcc hqc hwc HP5.out hne (by omega) (by omega) (by simp; omega)).mono ?_
      rintro e w6 ⟨v6, rfl, how6, hE6, _⟩
      go_wp2
      go_ret
      have hok := cutR_ok (A := s.take k) (B := s.drop (k + 1)) (x := x) (r := (f, t)) (by rw [HX.out, ← HSP.out]; exact HS.out) h1 g1 g2
      rw [HX.out, ← HSP.out, ← HX.out] at hok
      refine ⟨v6, _, rfl, how6, ?_, hE5.trans' hE6 (by simp) (by simp [blkL]; omega)⟩
      have e : s.take k ++ ([(t, x.2)]) ++ s.drop (k + 1) = cutR (s.take k) x (f, t) (s.drop (k + 1)) := by
        have d1 := C1.out
        have d2 := C2.out
        simp only [cutR]
        (repeat' split) <;> first | (exfalso; omega) | simp
      rw [e]; exact hok
    · have C2 := Lib.hid c2
      go_wp2_with fail
      refine (clone_c _ s _ (by omega) (HV1.out.ext0 (((Ext.refl [] w1).alloc (.cells #[.int .i64 x.1, .int .i64 x.2] 104)))).rd).mono ?_
      rintro e w5 ⟨vc, rfl, howc, hEc, hfrc, hnn⟩
      rcases howc with ⟨_, h⟩ | ⟨gc, qc, capc, lc, rfl, hbc, hcc, hqc, hwc⟩
      · subst h; simp at hlt
      have HP5 := Lib.hid (((HPn _)).ext0 hEc)
      have hne : ∀ b ∈ blkL (.slice none 0 0), b ≠ gc := fun b hb hbe => by
        have h2 := hfrc gc (by simp [blkL])
        first | (simp [blkL] at hb; done) | (have h1 := ((HPn _)).lt b hb; omega)
      have hgc := hfrc gc (by simp [blkL])
      have hE5 : Ext [] w w5 := (hE.trans (((Ext.refl [] w1).alloc (.cells #[.int .i64 x.1, .int .i64 x.2] 104)))).trans hEc
      have hle := (hE.trans (((Ext.refl [] w1).alloc (.cells #[.int .i64 x.1, .int .i64 x.2] 104)))).size
      clear hnn hfrc hEc
      go_wp2_with fail
      refine (replace_c gc qc capc lc _ s (([] : List Rng)) k (k + 1) _ hbc hcc hqc hwc HP5.out hne (by omega) (by omega) (by simp; omega)).mono ?_
      rintro e w6 ⟨v6, rfl, how6, hE6, _⟩
      go_wp2
      go_ret
      have hok := cutR_ok (A := s.take k) (B := s.drop (k + 1)) (x := x) (r := (f, t)) (by rw [HX.out, ← HSP.out]; exact HS.out) h1 g1 g2
      rw [HX.out, ← HSP.out, ← HX.out] at hok
      refine ⟨v6, _, rfl, how6, ?_, hE5.trans' hE6 (by simp) (by simp [blkL]; omega)⟩
      have e : s.take k ++ (([] : List Rng)) ++ s.drop (k + 1) = cutR (s.take k) x (f, t) (s.drop (k + 1)) := by
        have d1 := C1.out
        have d2 := C2.out
        simp only [cutR]
        (repeat' split) <;> first | (exfalso; omega) | simp
      rw [e]; exact hok

end Go.Proofs.YtgfajlaibgbdoaaGreat
