
import Derived.Test.YtgfajlaibgbdoaaGreatSpH
import Derived.Test.YtgfajlaibgbdoaaGreatRg
namespace Go.Proofs.YtgfajlaibgbdoaaGreat
open Go.RowKit

/-- a space: its cells; the free, used and leaving ones; how many are kept back. -/
structure Spc where
  cells : Int
  free : List Rng
  used : List Rng
  leaving : List Rng
  back : Int

/-- it lies in block b. -/
def SpR (w : World) (b : Nat) (s : Spc) : Prop := ∃ pf nf cf pu nu cu pl nl cl,
  w.heap[b]? = some (.cells #[.int .i64 s.cells, .slice pf nf cf, .slice pu nu cu, .slice pl nl cl, .int .i64 s.back] 114 (0, 0)) ∧
  ER.Ow 104 w (.slice pf nf cf) s.free ∧ ER.Ow 104 w (.slice pu nu cu) s.used ∧ ER.Ow 104 w (.slice pl nl cl) s.leaving

structure SpI (s : Spc) : Prop where
  c1 : 1 ≤ s.cells
  c2 : s.cells ≤ 40000
  okF : Ok s.free
  okU : Ok s.used
  okL : Ok s.leaving
  all : ∀ c, (0 ≤ c ∧ c < s.cells) ↔ (Mem s.free c ∨ Mem s.used c ∨ Mem s.leaving c)
  fu : ∀ c, ¬ (Mem s.free c ∧ Mem s.used c)
  fl : ∀ c, ¬ (Mem s.free c ∧ Mem s.leaving c)
  ul : ∀ c, ¬ (Mem s.used c ∧ Mem s.leaving c)
  b0 : 0 ≤ s.back
  b1 : s.back ≤ cntL s.free

theorem SpR.ext0 {w w' : World} {b : Nat} {s : Spc} (h : SpR w b s) (he : Ext [] w w') : SpR w' b s := by
  obtain ⟨pf, nf, cf, pu, nu, cu, pl, nl, cl, hb, h1, h2, h3⟩ := h
  exact ⟨pf, nf, cf, pu, nu, cu, pl, nl, cl, he.blk hb (by simp), h1.ext0 he, h2.ext0 he, h3.ext0 he⟩
/-- another space is changed. -/
theorem SpR.other {w w' : World} {b b2 : Nat} {s : Spc} (h : SpR w b s) (he : Ext [b2] w w') (hne : b ≠ b2) {c : Array Value} {f : Nat × Nat} (h2 : w.heap[b2]? = some (.cells c 114 f)) : SpR w' b s := by
  obtain ⟨pf, nf, cf, pu, nu, cu, pl, nl, cl, hb, a1, a2, a3⟩ := h
  exact ⟨pf, nf, cf, pu, nu, cu, pl, nl, cl, he.blk hb (by simpa using hne), a1.ext he (by simpa using a1.ne h2 (by decide)), a2.ext he (by simpa using a2.ne h2 (by decide)), a3.ext he (by simpa using a3.ne h2 (by decide))⟩
theorem SpR.blk {w : World} {b : Nat} {s : Spc} (h : SpR w b s) : ∃ c, w.heap[b]? = some (.cells c 114 (0, 0)) := by
  obtain ⟨pf, nf, cf, pu, nu, cu, pl, nl, cl, hb, _⟩ := h; exact ⟨_, hb⟩
theorem SpR.lt {w : World} {b : Nat} {s : Spc} (h : SpR w b s) : b < w.heap.size := by obtain ⟨c, hc⟩ := h.blk; exact lt_of_blk hc

theorem free_c (b : Nat) (s : Spc) (w : World) (hr : SpR w b s) (hi : SpI s) :
    Calls Tryz.prog 42 #[.pointer (some ⟨b, 0, none⟩)] w fun e w' => e = .returned (.int .i64 (cntL s.free - s.back)) ∧ Ext [] w w' := by
  have HR := Lib.hid hr
  have HI := Lib.hid hi
  obtain ⟨pf, nf, cf, pu, nu, cu, pl, nl, cl, hb, h1, h2, h3⟩ := hr
  have m1 : w.cell? ⟨b, 1, none⟩ = some (.slice pf nf cf) := by rw [cell_of_row w b 1 _ _ _ hb]; rfl
  have m4 : w.cell? ⟨b, 4, none⟩ = some (.int .i64 s.back) := by rw [cell_of_row w b 4 _ _ _ hb]; rfl
  have bd := HI.out.okF.cnt
  have bd1 := HI.out.b0
  have bd2 := HI.out.b1
  have H1 := Lib.hid h1
  clear hi hb h1 h2 h3
  have e1 : IntKind.i64.wrap (cntL s.free - s.back) = cntL s.free - s.back := IntWalk.i64_in _ (by omega)
  go_enter Tryz.func42, Tryz.ntmps42
  go_wp2_with fail
  go_region_held3 (fun W => W.cell? ⟨b, 1, none⟩ = some (.slice pf nf cf) ∧ W.cell? ⟨b, 4, none⟩ = some (.int .i64 s.back)) (first | exact ⟨hE1.cell m1 (by simp), hE1.cell m4 (by simp)⟩ | go_keep)
    (first | (go_at_call 78; refine (count_c _ s.free _ (H1.out.rd.ext0 (Ext.refl [] w).drew) HI.out.okF).mono ?_; rintro e w1 ⟨rfl, hE1'⟩; have hE1 : Ext [] w w1 := (Ext.refl [] w).drew.trans hE1'))
  go_wp2
  go_ret
  exact ⟨rfl, hE1⟩


theorem used_c (b : Nat) (s : Spc) (w : World) (hr : SpR w b s) (hi : SpI s) :
    Calls Tryz.prog 43 #[.pointer (some ⟨b, 0, none⟩)] w fun e w' => ∃ v, e = .returned v ∧ ER.Ow 104 w' v s.used ∧ Ext [] w w' ∧ ∀ g ∈ blkL v, w.heap.size ≤ g := by
  have HI := Lib.hid hi
  obtain ⟨pf, nf, cf, pu, nu, cu, pl, nl, cl, hb, h1, h2, h3⟩ := hr
  have m1 : w.cell? ⟨b, 2, none⟩ = some (.slice pu nu cu) := by rw [cell_of_row w b 2 _ _ _ hb]; rfl
  have H2 := Lib.hid h2
  have hl := hi.okU.len
  clear hi hb h1 h2 h3
  go_enter Tryz.func43, Tryz.ntmps43
  go_wp2_with fail
  refine (clone_c _ s.used _ (by omega) H2.out.rd).mono ?_
  rintro e w1 ⟨v, rfl, how, hE, hn, _⟩
  go_wp2
  go_ret
  exact ⟨v, rfl, how, hE, hn⟩

def inB (s : Spc) (f n : Int) : Bool := decide (1 ≤ n) && decide (n ≤ s.cells) && decide (0 ≤ f) && decide (f ≤ s.cells - n)

theorem in_c (b : Nat) (s : Spc) (f n : Int) (w : World) (hr : SpR w b s) (hi : SpI s) :
    Calls Tryz.prog 51 #[.pointer (some ⟨b, 0, none⟩), .int .i64 f, .int .i64 n] w fun e w' => e = .returned (.bool (inB s f n)) ∧ w = w' := by
  obtain ⟨pf, nf, cf, pu, nu, cu, pl, nl, cl, hb, h1, h2, h3⟩ := hr
  have m0 : w.cell? ⟨b, 0, none⟩ = some (.int .i64 s.cells) := by rw [cell_of_row w b 0 _ _ _ hb]; rfl
  have c1 := hi.c1
  have c2 := hi.c2
  clear hb h1 h2 h3 hi
  by_cases g1 : 1 ≤ n
  · by_cases g2 : n ≤ s.cells
    · by_cases g3 : 0 ≤ f
      · by_cases g4 : f ≤ s.cells - n
        · have fin : inB s f n = true := by simp [inB, g1, g2, g3, g4]
          rw [fin]
          go_enter Tryz.func51, Tryz.ntmps51
          go_wp2
          go_ret
          exact ⟨rfl, rfl⟩
        · have fin : inB s f n = false := by simp [inB]; omega
          have g4' : decide (f ≤ s.cells - n) = false := by simpa using g4
          rw [fin]
          go_enter Tryz.func51, Tryz.ntmps51
          go_wp2
          go_ret
          exact ⟨rfl, rfl⟩
      · have fin : inB s f n = false := by simp [inB]; omega
        have g3' : decide (0 ≤ f) = false := by simpa using g3
        rw [fin]
        go_enter Tryz.func51, Tryz.ntmps51
        go_wp2
        go_ret
        exact ⟨rfl, rfl⟩
    · have fin : inB s f n = false := by simp [inB]; omega
      have g2' : decide (n ≤ s.cells) = false := by simpa using g2
      rw [fin]
      go_enter Tryz.func51, Tryz.ntmps51
      go_wp2
      go_ret
      exact ⟨rfl, rfl⟩
  · have fin : inB s f n = false := by simp [inB]; omega
    have g1' : decide (1 ≤ n) = false := by simpa using g1
    rw [fin]
    go_enter Tryz.func51, Tryz.ntmps51
    go_wp2
    go_ret
    exact ⟨rfl, rfl⟩

end Go.Proofs.YtgfajlaibgbdoaaGreat
