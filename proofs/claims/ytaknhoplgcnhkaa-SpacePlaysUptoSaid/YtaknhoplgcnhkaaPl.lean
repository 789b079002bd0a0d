
import Derived.Test.YtaknhoplgcnhkaaAl
import Derived.Test.YtaknhoplgcnhkaaRf6
import Derived.Test.YtaknhoplgcnhkaaSpV
import Derived.Test.YtaknhoplgcnhkaaLwKeeps
namespace Go.Proofs.Ytaknhoplgcnhkaa
open Go.RowKit

/-! the calls of no space. -/
theorem nobody_c (w : World) : Calls Try.prog 20 #[] w fun e w' => e = .returned (.pointer none) ∧ w' = w := by
  go_enter Try.func20, Try.ntmps20
  go_wp2
  go_ret
  exact ⟨rfl, rfl⟩
theorem free_nil (w : World) : Calls Try.prog 15 #[.pointer none] w fun e w' => e = .returned (.int .i64 0) ∧ w' = w := by
  go_enter Try.func15, Try.ntmps15
  go_wp2
  go_ret
  exact ⟨rfl, rfl⟩
theorem in_nil (w : World) : Calls Try.prog 35 #[.pointer none, .int .i64 0, .int .i64 1] w fun e w' => e = .returned (.bool false) ∧ w' = w := by
  go_enter Try.func35, Try.ntmps35
  go_wp2
  go_ret
  exact ⟨rfl, rfl⟩
theorem give_nil (w : World) : Calls Try.prog 13 #[.pointer none, .int .i64 0, .int .i64 1] w fun e w' => e = .returned (.int .i64 1) ∧ w' = w := by
  go_enter Try.func13, Try.ntmps13
  go_wp2_with fail
  refine (in_nil _).mono ?_
  rintro e w1 ⟨rfl, rfl⟩
  go_wp2
  go_ret
  exact ⟨rfl, rfl⟩
theorem copy_nil (w : World) : Calls Try.prog 19 #[.pointer none] w fun e w' => e = .returned (.pointer none) ∧ w' = w := by
  go_enter Try.func19, Try.ntmps19
  go_wp2
  go_ret
  exact ⟨rfl, rfl⟩
theorem settle_nil (w : World) : Calls Try.prog 14 #[.pointer none] w fun e w' => e = .returned (.int .i64 0) ∧ w' = w := by
  go_enter Try.func14, Try.ntmps14
  go_wp2
  go_ret
  exact ⟨rfl, rfl⟩

/-! both spaces answer alike. -/
theorem fresh_states {s : Spc} {h : List Int} {us : List Rng} {nc : Int} (hi : SpI s) (f : Fresh s nc us us.length) (hl : (h.length : Int) = nc) (m : StM h us) : StRel s h := by
  refine ⟨by rw [f.cells, hl], fun i hil => ?_⟩
  have hu := f.used (i : Int)
  rw [List.take_length] at hu
  rcases m i hil with ⟨h1, h2⟩ | ⟨h1, h2⟩
  · exact .inr (.inl ⟨h1, hu.2 h2⟩)
  · refine .inl ⟨h1, ?_⟩
    rcases (hi.all i).1 ⟨by omega, by rw [f.cells]; omega⟩ with h3 | h3 | h3
    · exact h3
    · exact (h2 (hu.1 h3)).elim
    · rw [f.leaving] at h3; exact (Mem_nil h3).elim

theorem new_match {nc : Int} {us : List Rng} {w w' v v' : World} {p q : Option Addr} {e f : Int} (r : NewRelN nc us w w' p e) (t : RNew nc us v v' q f) :
    (p = none ∧ q = none ∧ e = f) ∨
    (e = 0 ∧ f = 0 ∧ ∃ b s b2 g h, p = some ⟨b, 0, none⟩ ∧ q = some ⟨b2, 0, none⟩ ∧ w.heap.size ≤ b ∧ v.heap.size ≤ b2 ∧ v.heap.size ≤ g ∧ SpRn w.heap.size w' b s ∧ SpI s ∧ s.back = 0 ∧ StRel s h ∧ RfR v' b2 g h 0) := by
  rcases r with ⟨h1, rfl, rfl⟩ | ⟨h1, h2, h3, rfl, rfl⟩ | ⟨h1, h2, h3, h4, rfl, rfl⟩ | ⟨h1, h2, h3, h4, rfl, b, s, rfl, hb, hr, hi, hf⟩
  · rcases t with ⟨_, rfl, rfl⟩ | ⟨_, _, _, rfl, rfl⟩ | ⟨_, _, _, _, rfl, rfl⟩ | ⟨_, _, _⟩
    · exact .inl ⟨rfl, rfl, rfl⟩
    · omega
    · omega
    · omega
  · rcases t with ⟨_, rfl, rfl⟩ | ⟨_, _, _, rfl, rfl⟩ | ⟨_, _, k, _⟩ | ⟨_, _, k, _⟩
    · omega
    · exact .inl ⟨rfl, rfl, rfl⟩
    · rw [h3] at k; cases k
    · rw [h3] at k; cases k
  · rcases t with ⟨_, rfl, rfl⟩ | ⟨_, _, k, _⟩ | ⟨_, _, _, _, rfl, rfl⟩ | ⟨_, _, _, k, _⟩
    · omega
    · rw [h3] at k; cases k
    · exact .inl ⟨rfl, rfl, rfl⟩
    · exact (h4 k).elim
  · rcases t with ⟨_, rfl, rfl⟩ | ⟨_, _, k, _⟩ | ⟨_, _, _, k, _⟩ | ⟨_, _, _, _, rfl, b2, g, h, rfl, hb2, hg, hr', hl, hm⟩
    · omega
    · rw [h3] at k; cases k
    · exact (k h4).elim
    · exact .inr ⟨rfl, rfl, b, s, b2, g, h, rfl, rfl, hb, hb2, hg, hr, hi, hf.back, fresh_states hi hf hl hm, hr'⟩

theorem take_match {s s' : Spc} {h h' : List Int} {rs : List Rng} {n a e a' e' : Int} (hi : SpI s) (r : StRel s h) (q : RsOf h 0 h.length rs) (t : TakeRel s n s' a e) (t' : RTake h s.back rs n h' a' e') :
    a = a' ∧ e = e' ∧ StRel s' h' ∧ s'.back = s.back := by
  obtain rfl := rs_free hi r q
  have hc := r.cntF hi
  rcases t with ⟨t1, rfl, rfl, rfl⟩ | ⟨t1, t2, rfl, rfl, rfl⟩ | ⟨t1, t2, ⟨f, t3, rfl⟩, rfl, t4⟩
  · rcases t' with ⟨_, rfl, rfl, rfl⟩ | ⟨k, _⟩ | ⟨k, _⟩
    · exact ⟨rfl, rfl, r, rfl⟩
    · omega
    · omega
  · rcases t' with ⟨k, _⟩ | ⟨_, _, rfl, rfl, rfl⟩ | ⟨_, k, ⟨f, k2, _⟩, _⟩
    · omega
    · exact ⟨rfl, rfl, r, rfl⟩
    · rcases t2 with t2 | t2
      · omega
      · rw [t2] at k2; cases k2
  · rcases t' with ⟨k, _⟩ | ⟨_, k, _⟩ | ⟨_, _, ⟨f', k2, rfl, k3⟩, rfl⟩
    · omega
    · rcases k with k | k
      · omega
      · rw [t3] at k; cases k
    · rw [t3] at k2
      simp only [Option.some.injEq] at k2
      subst k2
      exact ⟨rfl, rfl, r.took hi t4 k3, t4.back⟩

theorem in_match {s : Spc} {h : List Int} (r : StRel s h) (f n : Int) : inB s f n = inH h f n := by
  simp only [inB, inH, r.1]
  cases decide (1 ≤ n) <;> cases decide (0 ≤ f) <;> cases decide (n ≤ (h.length : Int)) <;> cases decide (f ≤ (h.length : Int) - n) <;> rfl

theorem give_match {s s' : Spc} {h h' : List Int} {f n e e' : Int} (hi : SpI s) (r : StRel s h) (t : GiveRel s f n s' e) (t' : RGive h f n h' e') : e = e' ∧ StRel s' h' ∧ s'.back = s.back := by
  have hin := in_match r f n
  have hu : inH h f n = true → (hasB s.used (f, f + n) = true ↔ AllAre h f n 1) := fun k => by
    have hb := inH_bounds k
    exact r.hasU hi hb.2.1 hb.1 (by rw [r.1]; exact hb.2.2)
  rcases t with ⟨t1, rfl, rfl⟩ | ⟨t1, t2, rfl, rfl⟩ | ⟨t1, t2, rfl, t3⟩
  · rw [hin] at t1
    rcases t' with ⟨_, rfl, rfl⟩ | ⟨k, _⟩ | ⟨k, _⟩
    · exact ⟨rfl, r, rfl⟩
    · rw [t1] at k; cases k
    · rw [t1] at k; cases k
  · rw [hin] at t1
    rcases t' with ⟨k, _⟩ | ⟨_, _, rfl, rfl⟩ | ⟨_, k, _⟩
    · rw [t1] at k; cases k
    · exact ⟨rfl, r, rfl⟩
    · rw [(hu t1).2 k] at t2; cases t2
  · rw [hin] at t1
    rcases t' with ⟨k, _⟩ | ⟨_, k, _⟩ | ⟨_, _, k, rfl⟩
    · rw [t1] at k; cases k
    · exact (k ((hu t1).1 t2)).elim
    · exact ⟨rfl, r.given hi t3 k, t3.back⟩

theorem reserve_match {s s' : Spc} {h : List Int} {n back' e e' : Int} (hi : SpI s) (r : StRel s h) (t : ReserveRel s n s' e) (t' : RReserve h s.back n back' e') : e = e' ∧ StRel s' h ∧ s'.back = back' := by
  have hc := r.cntF hi
  rcases t with ⟨t1, rfl, rfl⟩ | ⟨t1, t2, rfl, rfl⟩ | ⟨t1, t2, rfl, rfl⟩
  · rcases t' with ⟨_, rfl, rfl⟩ | ⟨k, _⟩ | ⟨k, _⟩
    · exact ⟨rfl, r, rfl⟩
    · omega
    · omega
  · rcases t' with ⟨k, _⟩ | ⟨_, _, rfl, rfl⟩ | ⟨_, k, _⟩
    · omega
    · exact ⟨rfl, r, rfl⟩
    · omega
  · rcases t' with ⟨k, _⟩ | ⟨_, k, _⟩ | ⟨_, _, rfl, rfl⟩
    · omega
    · omega
    · exact ⟨rfl, r, rfl⟩

theorem SpR.foreignT {w w' : World} {b g : Nat} {s : Spc} (h : SpR w b s) (he : Ext [g] w w') (hne : b ≠ g) {T : TypeId} (hT : 41 ≠ T) {c : Array Value} {f : Nat × Nat} (hg : w.heap[g]? = some (.cells c T f)) : SpR w' b s := by
  obtain ⟨pf, nf, cf, pu, nu, cu, pl, nl, cl, hb, a1, a2, a3⟩ := h
  exact ⟨pf, nf, cf, pu, nu, cu, pl, nl, cl, he.blk hb (by simpa using hne), a1.ext he (by simpa using a1.ne hg hT), a2.ext he (by simpa using a2.ne hg hT), a3.ext he (by simpa using a3.ne hg hT)⟩

theorem play_ne {w : World} {b b2 g : Nat} {s : Spc} {h : List Int} {bk : Int} (hr : SpR w b s) (hq : RfR w b2 g h bk) : b ≠ g ∧ b ≠ b2 := by
  obtain ⟨c, hc⟩ := hr.blk
  constructor
  · rintro rfl
    rw [hq.2] at hc
    simp only [Option.some.injEq, Obj.cells.injEq] at hc
    exact absurd hc.2.1 (by decide)
  · rintro rfl
    rw [hq.1] at hc
    simp only [Option.some.injEq, Obj.cells.injEq] at hc
    exact absurd hc.2.1 (by decide)

/-- both spaces, the same. -/
def PlayRel (w : World) (b2 g : Nat) (W : World) (b : Nat) : Prop := ∃ (s : Spc) (h : List Int), Ext [] w W ∧ w.heap.size ≤ b ∧ Hid (SpR W b s) ∧ Hid (SpI s) ∧ Hid (StRel s h) ∧ Hid (RfR W b2 g h s.back)

end Go.Proofs.Ytaknhoplgcnhkaa
