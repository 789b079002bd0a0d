
import Derived.Test.YtaknhoplgcnhkaaSpL
namespace Go.Proofs.Ytaknhoplgcnhkaa
open Go.RowKit

def ReserveRel (s : Spc) (n : Int) (s' : Spc) (err : Int) : Prop :=
  (n < -s.back ∧ s' = s ∧ err = 1) ∨
  (-s.back ≤ n ∧ cntL s.free - s.back < n ∧ s' = s ∧ err = 5) ∨
  (-s.back ≤ n ∧ n ≤ cntL s.free - s.back ∧ s' = { s with back := s.back + n } ∧ err = 0)

theorem SpI.reserved {s : Spc} {n : Int} (h : SpI s) (h1 : -s.back ≤ n) (h2 : n ≤ cntL s.free - s.back) : SpI { s with back := s.back + n } :=
  ⟨h.c1, h.c2, h.okF, h.okU, h.okL, h.all, h.fu, h.fl, h.ul, by show 0 ≤ s.back + n; omega, by show s.back + n ≤ cntL s.free; omega⟩

def ReservePost (b : Nat) (s : Spc) (n : Int) (w : World) (e : Ending) (w' : World) : Prop :=
  ∃ s' err, e = .returned (.int .i64 err) ∧ SpR w' b s' ∧ SpI s' ∧ Ext [b] w w' ∧ ReserveRel s n s' err

set_option maxRecDepth 100000 in
theorem reserve_c (b : Nat) (s : Spc) (n : Int) (w : World) (hr : SpR w b s) (hi : SpI s) (hn1 : -9223372036854775808 ≤ n) (hn2 : n ≤ 9223372036854775807) :
    Calls Try.prog 18 #[.pointer (some ⟨b, 0, none⟩), .int .i64 n] w (ReservePost b s n w) := by
  have HR := Lib.hid hr
  have HI := Lib.hid hi
  have bd := hi.okF.cnt
  have bd1 := hi.b0
  have bd2 := hi.b1
  have m4 : w.cell? ⟨b, 4, none⟩ = some (.int .i64 s.back) := by
    obtain ⟨pf, nf, cf, pu, nu, cu, pl, nl, cl, hb, h1, h2, h3⟩ := hr
    rw [cell_of_row w b 4 _ _ _ hb]; rfl
  by_cases g1 : n < -s.back
  · clear hi hr
    go_enter Try.func18, Try.ntmps18
    go_wp2
    go_ret
    exact ⟨s, 1, rfl, HR.out, HI.out, Ext.refl _ _, .inl ⟨by omega, rfl, rfl⟩⟩
  · clear hi
    have g1' : decide (n < -s.back) = false := by simpa using g1
    go_enter Try.func18, Try.ntmps18
    go_wp2_with fail
    refine (free_c b s _ hr HI.out).mono ?_
    rintro e w1 ⟨rfl, hE⟩
    have m4' := hE.cell m4 (by simp)
    obtain ⟨pf, nf, cf, pu, nu, cu, pl, nl, cl, hb, h1, h2, h3⟩ := HR.out.ext0 hE
    have hfz : ∀ j, w1.frozen? ⟨b, j, none⟩ = false := fun j => frozen_of_row _ _ _ _ _ hb
    have HB := Lib.hid hb
    have H1 := Lib.hid h1
    have H2 := Lib.hid h2
    have H3 := Lib.hid h3
    clear hb h1 h2 h3 hr
    by_cases g2 : cntL s.free - s.back < n
    · go_wp2
      go_ret
      exact ⟨s, 5, rfl, HR.out.ext0 hE, HI.out, hE.nil, .inr (.inl ⟨by omega, g2, rfl, rfl⟩)⟩
    · have e1 : IntKind.i64.wrap (s.back + n) = s.back + n := IntWalk.i64_in _ (by omega)
      go_wp2
      go_ret
      have hW : Ext [b] w1 (w1.setCell ⟨b, 4, none⟩ (.int .i64 (s.back + n))) := (Ext.refl [b] w1).setCell (.inl (by simp)) _
      have hnf : ∀ (xs : List Rng) (v : Value), ER.Ow 41 w1 v xs → ER.Ow 41 (w1.setCell ⟨b, 4, none⟩ (.int .i64 (s.back + n))) v xs := fun xs v h => h.ext hW (by simpa using h.ne HB.out (by decide))
      exact ⟨{ s with back := s.back + n }, 0, rfl, ⟨_, _, _, _, _, _, _, _, _, heap_setCell_same _ b 4 _ _ _ HB.out, hnf _ _ H1.out, hnf _ _ H2.out, hnf _ _ H3.out⟩, HI.out.reserved (by omega) (by omega), hE.nil.trans hW, .inr (.inr ⟨by omega, by omega, rfl, rfl⟩)⟩

end Go.Proofs.Ytaknhoplgcnhkaa
