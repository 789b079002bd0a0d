
import Derived.Test.YtaknhoplgcnhkaaSpQ
namespace Go.Proofs.Ytaknhoplgcnhkaa
open Go.RowKit

theorem tiL : Ti Try.prog EL 58 24 (false, 0, 0) := Ti.mk' (z := .agg #[.bool false, .int .i64 0, .int .i64 0]) (by kernel_rfl) rfl

/-- the shortest log. -/
def lg (s : List Rng) : List Lin := s.map (fun r => (true, r.1, r.2 - r.1))

def CondRel (nc : Int) (l : List Lin) (w w' : World) (v : Value) (err : Int) : Prop :=
  ((nc < 1 ∨ 40000 < nc) ∧ v = .slice none 0 0 ∧ err = 1) ∨
  (1 ≤ nc ∧ nc ≤ 40000 ∧ (∃ k h, Played (List.replicate nc.toNat 0) l k h ∧ k < l.length ∧ Bad h (l.getD k (false,0,0))) ∧ v = .slice none 0 0 ∧ err = 2) ∨
  (1 ≤ nc ∧ nc ≤ 40000 ∧ err = 0 ∧ ∃ s h, SpI s ∧ s.back = 0 ∧ s.leaving = [] ∧ StRel s h ∧ Played (List.replicate nc.toNat 0) l l.length h ∧ EL.Ow 58 w' v (lg s.used) ∧ ∀ g ∈ blkL v, w.heap.size ≤ g)

def CondPost (nc : Int) (l : List Lin) (w : World) (e : Ending) (w' : World) : Prop :=
  ∃ v err, e = .returned (.tuple #[v, .int .i64 err]) ∧ Ext [] w w' ∧ CondRel nc l w w' v err

set_option maxRecDepth 100000 in
set_option maxHeartbeats 1000000 in
theorem condense_c (nc : Int) (v : Value) (l : List Lin) (w : World) (hu : EL.Rd w v l) (hc1 : -9223372036854775808 ≤ nc) (hc2 : nc ≤ 9223372036854775807) (hl : l.length ≤ 9223372036854775807)
    (hg : ∀ x ∈ l, (-9223372036854775808 ≤ x.2.1 ∧ x.2.1 ≤ 9223372036854775807) ∧ (-9223372036854775808 ≤ x.2.2 ∧ x.2.2 ≤ 9223372036854775807)) :
    Calls Try.prog 28 #[.int .i64 nc, v] w (CondPost nc l w) := by
  obtain ⟨pv, cv, rfl, _⟩ := hu.len_eq
  have HU := Lib.hid hu
  have HG := Lib.hid hg
  clear hu hg
  go_enter Try.func28, Try.ntmps28
  go_wp2_with fail
  refine (replay_c nc _ l _ HU.out hc1 hc2 hl HG.out).mono ?_
  rintro e W2 ⟨p, err, rfl, hE2, hrel⟩
  rcases hrel with ⟨h, rfl, rfl⟩ | ⟨h1, h2, h3, rfl, rfl⟩ | ⟨h1, h2, rfl, b, s, h, rfl, hb, hr, hi, hbk, hlv, hst, hpl⟩
  · go_wp2
    go_ret2
    exact ⟨_, 1, rfl, hE2, .inl ⟨h, rfl, rfl⟩⟩
  · have H3 := Lib.hid h3
    clear h3
    go_wp2
    go_ret2
    exact ⟨_, 2, rfl, hE2, .inr (.inl ⟨h1, h2, H3.out, rfl, rfl⟩)⟩
  · have hlU := hi.okU.len
    have HI := Lib.hid hi
    have HST := Lib.hid hst
    have HPL := Lib.hid hpl
    have HLV := Lib.hid hlv
    obtain ⟨pf, nf, cf, pu, nu, cu, pl, nl, cl, hbk2, r1, r2, r3⟩ := hr
    have m2 : W2.cell? ⟨b, 2, none⟩ = some (.slice pu nu cu) := by rw [cell_of_row W2 b 2 _ _ _ hbk2]; rfl
    have R2 := Lib.hid r2
    obtain ⟨p', c', e1, _⟩ := r2.rd.len_eq
    obtain rfl : nu = s.used.length := by cases e1; rfl
    clear hi hst hpl hlv hbk2 r1 r2 r3 e1
    go_wp2_with fail
    go_loopw [8, 10, 25] (fun ov _ iv wr => ∃ k : Nat, k ≤ s.used.length ∧ iv = .int .i64 k ∧ Ext [] W2 wr ∧ Hid (EL.Ow 58 wr ov (lg (s.used.take k)) ∧ ∀ g ∈ blkL ov, W2.heap.size ≤ g)) (fun _ _ iv _ => s.used.length - (intOf iv).toNat)
    case atStart => exact ⟨0, Nat.zero_le _, rfl, Ext.refl _ _, .inl ⟨rfl, rfl⟩, by simp [blkL]⟩
    case round =>
      obtain ⟨k, hk, rfl, hB, HV⟩ := hrel
      by_cases hlt : k < s.used.length
      · obtain ⟨g, o, rfl⟩ : ∃ g o, pu = some ⟨g, o, none⟩ := by
          rcases R2.out.rd with ⟨_, h⟩ | ⟨g, o, c, h, _⟩
          · rw [h] at hlt; simp at hlt
          · cases h; exact ⟨g, o, rfl⟩
        obtain ⟨hm1, hm2⟩ := ER_cells (R2.out.ext0 hB).rd k hlt
        have hx0 := HI.out.okU.at hlt
        have hts := take_step hlt
        obtain ⟨x, hx⟩ : ∃ x, x = s.used.getD k (0,0) := ⟨_, rfl⟩
        rw [← hx] at hm1 hm2 hx0 hts
        have HTS := Lib.hid hts
        obtain ⟨x1, x2, x3⟩ := hx0
        clear hx hts
        have hlen : (lg (s.used.take k)).length ≤ 40000 := by simp [lg]; omega
        have e1 : IntKind.i64.wrap (x.2 - x.1) = x.2 - x.1 := IntWalk.i64_in _ (by omega)
        go_wp2_with (with_reducible refine hold_at (d := 39) ?_)
        refine wpl_of rfl fun K hK => opw_append (E := EL) (T := 58) (zero := (false,0,0)) (bytes := 24) (v := u8) (xs := lg (s.used.take k)) (ys := [(true, x.1, x.2 - x.1)]) tiL Try.underlying55 Try.underlying55 rfl rfl rfl (HV.out.1.ext0 (((Ext.refl [] _).alloc _).alloc _)) (.inr ⟨wr.heap.size + 1, 0, 1, rfl, Nat.le_refl _, by simp, fun j u hj => ?_⟩) (by simp; omega) (by simp; omega) ?_
        · match j, hj with
          | 0, hj => cases hj; go_simp
          | 1, hj => cases hj; go_simp
          | 2, hj => cases hj; go_simp
          | j + 3, hj => simp [EL, Enc.flat] at hj
        · intro v5 w5 how5 hE5 hnear5 _
          refine hK _ _ ?_
          clear hK
          go_wp2
          go_roundw
          case rel =>
            have hA : Ext [] W2 ((wr.alloc (.cells #[.int .i64 x.1, .int .i64 x.2] 41)).alloc (.cells #[.bool true, .int .i64 x.1, .int .i64 (x.2 - x.1)] 58)) := (hB.alloc _).alloc _
            refine ⟨k + 1, by omega, by go_num, hA.trans' hE5 (by simp) (fun y hy => .inr (HV.out.2 y hy)), ?_, fun y hy => ?_⟩
            · rw [HTS.out]
              simp only [lg, List.map_append, List.map_cons, List.map_nil]
              exact how5
            · rcases hnear5 y hy with h | h
              · exact HV.out.2 y h
              · have h3 := hA.size; omega
          case measure => simp [intOf]; omega
      · obtain rfl : k = s.used.length := by omega
        go_wp2
        go_ret2
        have hv := HV.out
        rw [List.take_length] at hv
        exact ⟨_, 0, rfl, hE2.trans hB, .inr (.inr ⟨h1, h2, rfl, s, h, HI.out, hbk, HLV.out, HST.out, HPL.out, hv.1, fun y hy => Nat.le_trans hE2.size (hv.2 y hy)⟩)⟩

end Go.Proofs.Ytaknhoplgcnhkaa
