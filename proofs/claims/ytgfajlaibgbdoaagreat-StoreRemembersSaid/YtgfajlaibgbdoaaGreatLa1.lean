
import Derived.Test.YtgfajlaibgbdoaaGreatLb1
import Derived.Test.YtgfajlaibgbdoaaGreatSr9
namespace Go.Proofs.YtgfajlaibgbdoaaGreat
open Go.RowKit

/-! StoreApart: the plain part. -/
abbrev Ptr4 := Nat × Nat × Int × List UInt8
def cov (k : Nat) (p : Ptr4) (c : Int) : Prop := (p.1 : Int) ≤ c ∧ c < p.1 + costF k p.2.1
structure ApR (k C : Nat) (s : Spc) (H : List Bool) (ps : List Ptr4) : Prop where
  len : H.length = C
  cells : s.cells = C
  held : ∀ i : Nat, i < C → (H.getD i false = true ↔ ¬ Mem s.free i)
  used : ∀ c, Mem s.used c ↔ ∃ p ∈ ps, cov k p c
  apart : ps.Pairwise (fun p q => ∀ c, ¬ (cov k p c ∧ cov k q c))
  good : ∀ p ∈ ps, 1 ≤ p.2.1 ∧ p.2.1 ≤ 1024 ∧ p.1 + costF k p.2.1 ≤ C
  back : s.back = 0

/-- the cells of a range are held. -/
def SetB (H H' : List Bool) (a n : Nat) : Prop := H'.length = H.length ∧ ∀ i : Nat, i < H.length → H'.getD i false = (decide (a ≤ i ∧ i < a + n) || H.getD i false)
theorem SetB.zero (H : List Bool) (a : Nat) : SetB H H a 0 := ⟨rfl, fun i _ => by rw [decide_eq_false (by omega)]; rfl⟩
theorem SetB.step {H H' : List Bool} {a n : Nat} (s : SetB H H' a n) : SetB H (H'.set (a + n) true) a (n + 1) := by
  refine ⟨by rw [List.length_set]; exact s.1, fun i hi => ?_⟩
  have h := s.2 i hi
  simp only [List.getD_eq_getElem?_getD, List.getElem?_set] at h ⊢
  by_cases hj : a + n = i
  · rw [if_pos hj, if_pos (by rw [s.1]; omega), decide_eq_true (by omega)]; rfl
  · rw [if_neg hj, h]
    congr 1
    rw [decide_eq_decide]
    omega

theorem ApR.start {k C : Nat} {s : Spc} (hc : s.cells = C) (hf : s.free = [(0, s.cells)]) (hu : s.used = []) (hb : s.back = 0) : ApR k C s (List.replicate C false) [] := by
  refine ⟨by simp, hc, fun i hi => ?_, fun c => ?_, List.Pairwise.nil, by simp, hb⟩
  · simp only [List.getD_eq_getElem?_getD, List.getElem?_replicate, if_pos hi, Option.getD_some]
    constructor
    · intro h; cases h
    · intro h
      exact (h (by rw [hf]; exact ⟨(0, s.cells), by simp, by simp only; omega⟩)).elim
  · rw [hu]
    constructor
    · rintro ⟨x, hx, _⟩; cases hx
    · rintro ⟨x, hx, _⟩; cases hx
theorem ApR.took {k C : Nat} {s s' : Spc} {H H' : List Bool} {ps : List Ptr4} {p : Ptr4} (h : ApR k C s H ps) (hi : SpI s) (t : Took s s' p.1 (costF k p.2.1)) (hs : SetB H H' p.1 (costF k p.2.1)) (h1 : 1 ≤ p.2.1) (h2 : p.2.1 ≤ 1024) (hb : p.1 + costF k p.2.1 ≤ C) : ApR k C s' H' (ps ++ [p]) := by
  refine ⟨by rw [hs.1, h.len], by rw [t.cells, h.cells], fun i hi' => ?_, fun c => ?_, ?_, fun q hq => ?_, by rw [t.back, h.back]⟩
  · rw [hs.2 i (by rw [h.len]; exact hi'), t.free, Bool.or_eq_true, h.held i hi', decide_eq_true_eq]
    constructor
    · rintro (h3 | h3) ⟨h4, h5⟩
      · exact h5 (by omega)
      · exact h3 h4
    · intro h3
      by_cases h4 : (p.1 : Int) ≤ i ∧ (i : Int) < p.1 + costF k p.2.1
      · exact .inl (by omega)
      · exact .inr (fun h5 => h3 ⟨h5, h4⟩)
  · rw [t.used, h.used]
    constructor
    · rintro (⟨q, hq, hc⟩ | hc)
      · exact ⟨q, by simp [hq], hc⟩
      · exact ⟨p, by simp, hc⟩
    · rintro ⟨q, hq, hc⟩
      rcases List.mem_append.1 hq with hq | hq
      · exact .inl ⟨q, hq, hc⟩
      · simp at hq; subst hq; exact .inr hc
  · rw [List.pairwise_append]
    refine ⟨h.apart, by simp, fun q hq p' hp c hc => ?_⟩
    simp at hp
    subst hp
    exact hi.fu c ⟨t.at1 c hc.2, (h.used c).2 ⟨q, hq, hc.1⟩⟩
  · rcases List.mem_append.1 hq with hq | hq
    · exact h.good q hq
    · simp at hq; subst hq; exact ⟨h1, h2, hb⟩
theorem ApR.given {k C : Nat} {s s' : Spc} {H : List Bool} {A B : List Ptr4} {p : Ptr4} (h : ApR k C s H (A ++ p :: B)) (t : Given s s' p.1 (costF k p.2.1)) : ApR k C s' H (A ++ B) := by
  have hap := List.pairwise_append.1 h.apart
  have hpb := List.pairwise_cons.1 hap.2.1
  refine ⟨h.len, by rw [t.cells, h.cells], fun i hi' => by rw [t.free]; exact h.held i hi', fun c => ?_, ?_, fun q hq => h.good q ?_, by rw [t.back, h.back]⟩
  · rw [t.used, h.used]
    constructor
    · rintro ⟨⟨q, hq, hc⟩, hn⟩
      rcases List.mem_append.1 hq with hq | hq
      · exact ⟨q, by simp [hq], hc⟩
      · rcases List.mem_cons.1 hq with hq | hq
        · subst hq; exact (hn hc).elim
        · exact ⟨q, by simp [hq], hc⟩
    · rintro ⟨q, hq, hc⟩
      rcases List.mem_append.1 hq with hq | hq
      · exact ⟨⟨q, by simp [hq], hc⟩, fun hp => hap.2.2 q hq p (by simp) c ⟨hc, hp⟩⟩
      · exact ⟨⟨q, by simp [hq], hc⟩, fun hp => hpb.1 q hq c ⟨hp, hc⟩⟩
  · exact List.pairwise_append.2 ⟨hap.1, hpb.2, fun q hq r hr => hap.2.2 q hq r (by simp [hr])⟩
  · rcases List.mem_append.1 hq with hq | hq
    · simp [hq]
    · simp [hq]
/-- what lies there is given back. -/
theorem ApR.gives {k C : Nat} {s s' : Spc} {H : List Bool} {ps : List Ptr4} {p : Ptr4} {err : Int} (h : ApR k C s H ps) (hi : SpI s) (hp : p ∈ ps) (hr : GiveRel s p.1 (costF k p.2.1) s' err) : err = 0 ∧ Given s s' p.1 (costF k p.2.1) := by
  obtain ⟨g1, g2, g3⟩ := h.good p hp
  have hcb := costF_bd k p.2.1 g1 g2
  have hin : inB s p.1 (costF k p.2.1) = true := by simp [inB, h.cells]; omega
  have hhas : hasB s.used (p.1, (p.1 : Int) + costF k p.2.1) = true := hasB_of_mem hi.okU (by simp only; omega) (fun c hc => (h.used c).2 ⟨p, hp, hc⟩)
  rcases hr with ⟨h1, _⟩ | ⟨_, h1, _⟩ | ⟨_, _, h1, h2⟩
  · rw [hin] at h1; cases h1
  · rw [hhas] at h1; cases h1
  · exact ⟨h1, h2⟩
/-- and not twice. -/
theorem Given.twice {k C : Nat} {s s' s'' : Spc} {H : List Bool} {ps : List Ptr4} {p : Ptr4} {err : Int} (h : ApR k C s H ps) (h1 : 1 ≤ p.2.1) (h2 : p.2.1 ≤ 1024) (hb : p.1 + costF k p.2.1 ≤ C) (t : Given s s' p.1 (costF k p.2.1)) (hr : GiveRel s' p.1 (costF k p.2.1) s'' err) : err = 7 ∧ s'' = s' := by
  have hcb := costF_bd k p.2.1 h1 h2
  have hin : inB s' p.1 (costF k p.2.1) = true := by simp [inB, t.cells, h.cells]; omega
  rcases hr with ⟨h1, _⟩ | ⟨_, _, h1, h2⟩ | ⟨_, h1, _⟩
  · rw [hin] at h1; cases h1
  · exact ⟨h2, h1⟩
  · exfalso
    obtain ⟨x, hx, h3⟩ := List.any_eq_true.1 h1
    simp only [Bool.and_eq_true, decide_eq_true_eq] at h3
    exact ((t.used p.1).1 ⟨x, hx, by omega⟩).2 ⟨by omega, by omega⟩
/-- all is given back, and settled. -/
theorem ApR.all {k C : Nat} {s s' : Spc} {H : List Bool} (h : ApR k C s H []) (hi : SpI s) (hi' : SpI s') (t : Settled s s') (hC : 1 ≤ C) (hC2 : C ≤ 40000) : cntL s'.free - s'.back = C ∧ s'.used = [] := by
  have hu : ∀ c, ¬ Mem s.used c := fun c hc => by obtain ⟨p, hp, _⟩ := (h.used c).1 hc; cases hp
  have hu2 : s.used = [] := Ok.ext hi.okU ⟨List.Pairwise.nil, by simp⟩ (fun c => ⟨fun hc => (hu c hc).elim, fun ⟨x, hx, _⟩ => by cases hx⟩)
  have hf : s'.free = [(0, (C : Int))] := by
    refine Ok.ext hi'.okF ⟨by simp, by simp; omega⟩ (fun c => ?_)
    rw [t.free]
    have h1 := hi.all c
    rw [h.cells] at h1
    constructor
    · intro h2
      have h3 := h1.2 (by rcases h2 with h2 | h2; exact .inl h2; exact .inr (.inr h2))
      exact ⟨(0, (C : Int)), by simp, h3⟩
    · rintro ⟨x, hx, h2⟩
      simp at hx
      subst hx
      rcases h1.1 h2 with h3 | h3 | h3
      · exact .inl h3
      · exact (hu c h3).elim
      · exact .inr h3
  refine ⟨by rw [hf, t.back, h.back]; simp [cntL], by rw [t.used, hu2]⟩

end Go.Proofs.YtgfajlaibgbdoaaGreat
