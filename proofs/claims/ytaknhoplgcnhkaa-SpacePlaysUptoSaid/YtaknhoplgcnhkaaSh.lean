
import Derived.Test.YtaknhoplgcnhkaaSpS
namespace Go.Proofs.Ytaknhoplgcnhkaa
open Go.RowKit

theorem SetTo.same {h h1 h2 : List Int} {a n v : Int} (s1 : SetTo h h1 a n v) (s2 : SetTo h h2 a n v) : h1 = h2 := by
  apply List.ext_getElem (by rw [s1.1, s2.1])
  intro i hi1 hi2
  have hi : i < h.length := by rw [s1.1] at hi1; exact hi1
  have e1 := s1.2 i hi
  have e2 := s2.2 i hi
  have f1 : h1.getD i 9 = h1[i] := by simp [List.getD, hi1]
  have f2 : h2.getD i 9 = h2[i] := by simp [List.getD, hi2]
  rw [← f1, ← f2, e1, e2]

theorem Played.same {h0 : List Int} {l : List Lin} {k : Nat} {h : List Int} (p : Played h0 l k h) : ∀ h', Played h0 l k h' → h = h' := by
  induction p with
  | start => intro h' p'; cases p'; rfl
  | next p1 hk hs ih =>
    intro h' p'
    cases p' with
    | next p2 hk2 hs2 =>
      have e := ih _ p2
      subst e
      exact hs.2.2.same hs2.2.2

theorem Step.not_bad {h h' : List Int} {o : Lin} (s : Step h o h') (b : Bad h o) : False := by
  rcases b with b | ⟨_, b⟩
  · rw [s.1] at b; cases b
  · exact b s.2.1

theorem Played.no_bad {h0 : List Int} {l : List Lin} {n : Nat} {h : List Int} (p : Played h0 l n h) : ∀ k h', k < n → Played h0 l k h' → Bad h' (l.getD k (false,0,0)) → False := by
  induction p with
  | start => intro k h' hk; omega
  | next p1 hk hs ih =>
    intro k h' hk' p2 hb
    rcases Nat.lt_or_eq_of_le (Nat.lt_succ_iff.1 hk') with h1 | h1
    · exact ih k h' h1 p2 hb
    · subst h1
      have e := p1.same _ p2
      subst e
      exact hs.not_bad hb

theorem Played.len {h0 : List Int} {l : List Lin} {n : Nat} {h : List Int} (p : Played h0 l n h) : h.length = h0.length := by
  induction p with
  | start => rfl
  | next p1 hk hs ih => rw [hs.2.2.1, ih]

/-- a log can't be played and be refused. -/
theorem played_one {nc : Int} {l : List Lin} {h : List Int} (p : Played (List.replicate nc.toNat 0) l l.length h) (q : ∃ k h', Played (List.replicate nc.toNat 0) l k h' ∧ k < l.length ∧ Bad h' (l.getD k (false,0,0))) : False := by
  obtain ⟨k, h', h1, h2, h3⟩ := q
  exact p.no_bad k h' h2 h1 h3

theorem lg_getD {U : List Rng} {k : Nat} (hk : k < U.length) : (lg U).getD k (false,0,0) = (true, (U.getD k (0,0)).1, (U.getD k (0,0)).2 - (U.getD k (0,0)).1) := by
  simp [lg, List.getD, hk]

/-- the states behind the first lines of a condensed log. -/
theorem played_lg {C : Nat} {U : List Rng} {k : Nat} {h : List Int} (p : Played (List.replicate C 0) (lg U) k h) : h.length = C ∧ ∀ i : Nat, i < C → (h.getD i 9 = 0 ∨ h.getD i 9 = 1) ∧ (h.getD i 9 = 1 ↔ Mem (U.take k) i) := by
  induction p with
  | start =>
    refine ⟨by simp, fun i hi => ?_⟩
    have e : (List.replicate C (0 : Int)).getD i 9 = 0 := by simp [hi]
    rw [e]
    simp [Mem]
  | @next k h h' p1 hk hs ih =>
    have hk' : k < U.length := by simpa [lg] using hk
    rw [lg_getD hk'] at hs
    obtain ⟨_, _, s1, s2⟩ := hs
    refine ⟨by rw [s1, ih.1], fun i hi => ?_⟩
    have h1 := ih.2 i hi
    have h2 := s2 i (by rw [ih.1]; exact hi)
    simp only [if_true] at h2
    rw [h2, take_step hk', Mem_append, Mem_cons]
    have h3 := @Mem_nil (i : Int)
    by_cases hx : (U.getD k (0,0)).1 ≤ (i : Int) ∧ (i : Int) < (U.getD k (0,0)).1 + ((U.getD k (0,0)).2 - (U.getD k (0,0)).1)
    · rw [if_pos hx]
      exact ⟨.inr rfl, iff_of_true rfl (.inr (.inl ⟨hx.1, by omega⟩))⟩
    · rw [if_neg hx]
      refine ⟨h1.1, h1.2.trans ⟨.inl, fun h4 => ?_⟩⟩
      rcases h4 with h4 | h4 | h4
      · exact h4
      · exact (hx ⟨h4.1, by omega⟩).elim
      · exact (h3 h4).elim

theorem lg_good {s : Spc} (hi : SpI s) {k : Nat} {h : List Int} (p : Played (List.replicate s.cells.toNat 0) (lg s.used) k h) (hk : k < (lg s.used).length) : ¬ Bad h ((lg s.used).getD k (false,0,0)) := by
  have hk' : k < s.used.length := by simpa [lg] using hk
  have hp := played_lg p
  have hc := mem_cells hi (.inr (.inl (getD_mem hk')))
  have c1 := hi.c1
  rw [lg_getD hk']
  intro b
  have hin : inC h.length (s.used.getD k (0,0)).1 ((s.used.getD k (0,0)).2 - (s.used.getD k (0,0)).1) = true := by
    rw [hp.1]; simp only [inC, Bool.and_eq_true, decide_eq_true_eq]; omega
  rcases b with b | ⟨_, b⟩
  · rw [hin] at b; cases b
  · refine b (fun i hi2 => ?_)
    simp only [if_true] at hi2 ⊢
    have h1 := hp.2 i (by omega)
    rcases h1.1 with h2 | h2
    · exact h2
    · exact (hi.okU.take_out hk' hi2.1 (h1.2.1 h2)).elim

/-- two spaces with nothing leaving and the same states: the same used and free cells. -/
theorem StRel.used_eq {s t : Spc} {h : List Int} (hs : SpI s) (ht : SpI t) (r : StRel s h) (q : StRel t h) : s.used = t.used ∧ s.free = t.free := by
  have e : s.cells = t.cells := by rw [r.1, q.1]
  have cell : ∀ {u : Spc} (hu : SpI u) (c : Int), Mem u.used c ∨ Mem u.free c → 0 ≤ c ∧ c < u.cells := fun hu c h => (hu.all c).2 (by rcases h with h | h; exact .inr (.inl h); exact .inl h)
  constructor
  · refine hs.okU.ext ht.okU (fun c => ?_)
    constructor
    · intro hm
      have hc := cell hs c (.inl hm)
      have h1 := r.iff hs (i := c.toNat) (by have := r.1; omega)
      have h2 := q.iff ht (i := c.toNat) (by have := r.1; omega)
      rw [Int.toNat_of_nonneg hc.1] at h1 h2
      exact h2.2.1.1 (h1.2.1.2 hm)
    · intro hm
      have hc := cell ht c (.inl hm)
      have h1 := r.iff hs (i := c.toNat) (by have := r.1; omega)
      have h2 := q.iff ht (i := c.toNat) (by have := r.1; omega)
      rw [Int.toNat_of_nonneg hc.1] at h1 h2
      exact h1.2.1.1 (h2.2.1.2 hm)
  · refine hs.okF.ext ht.okF (fun c => ?_)
    constructor
    · intro hm
      have hc := cell hs c (.inr hm)
      have h1 := r.iff hs (i := c.toNat) (by have := r.1; omega)
      have h2 := q.iff ht (i := c.toNat) (by have := r.1; omega)
      rw [Int.toNat_of_nonneg hc.1] at h1 h2
      exact h2.1.1 (h1.1.2 hm)
    · intro hm
      have hc := cell ht c (.inr hm)
      have h1 := r.iff hs (i := c.toNat) (by have := r.1; omega)
      have h2 := q.iff ht (i := c.toNat) (by have := r.1; omega)
      rw [Int.toNat_of_nonneg hc.1] at h1 h2
      exact h1.1.1 (h2.1.2 hm)

/-- the condensed log leaves the same states. -/
theorem lg_states {s : Spc} (hi : SpI s) (hl : s.leaving = []) {h h2 : List Int} (r : StRel s h) (p : Played (List.replicate s.cells.toNat 0) (lg s.used) (lg s.used).length h2) : h2 = h := by
  have hp := played_lg p
  have c1 := hi.c1
  have e : (lg s.used).length = s.used.length := by simp [lg]
  have hlen : h2.length = h.length := by have := r.1; rw [hp.1]; omega
  apply List.ext_getElem hlen
  intro i h3 h4
  have hh := r.iff hi h4
  have h5 := hp.2 i (by rw [← hp.1]; exact h3)
  rw [e, List.take_length] at h5
  have h6 := r.2 i h4
  rw [hl] at h6
  have f1 : h2.getD i 9 = h2[i] := by simp [List.getD, h3]
  have f2 : h.getD i 9 = h[i] := by simp [List.getD, h4]
  rw [f1] at h5
  rw [f2] at h6 hh
  have h7 := @Mem_nil (i : Int)
  grind

theorem few_eq (nc : Int) : (if 80 < nc ∧ nc ≤ 40000 then (80 : Int) else nc) = nc ∨ (if 80 < nc ∧ nc ≤ 40000 then (80 : Int) else nc) = 80 := by
  split
  · exact .inr rfl
  · exact .inl rfl

theorem few_c (nc : Int) (w : World) : Calls Try.prog 21 #[.int .i64 nc] w fun e w' => e = .returned (.int .i64 (if 80 < nc ∧ nc ≤ 40000 then 80 else nc)) ∧ w = w' := by
  by_cases g1 : 80 < nc
  · by_cases g2 : nc ≤ 40000
    · rw [if_pos ⟨g1, g2⟩]
      go_enter Try.func21, Try.ntmps21
      go_wp2
      go_ret
      exact ⟨rfl, rfl⟩
    · rw [if_neg (fun h => g2 h.2)]
      have g2' : decide (nc ≤ 40000) = false := by simpa using g2
      go_enter Try.func21, Try.ntmps21
      go_wp2
      go_ret
      exact ⟨rfl, rfl⟩
  · rw [if_neg (fun h => g1 h.1)]
    go_enter Try.func21, Try.ntmps21
    go_wp2
    go_ret
    exact ⟨rfl, rfl⟩

end Go.Proofs.Ytaknhoplgcnhkaa
