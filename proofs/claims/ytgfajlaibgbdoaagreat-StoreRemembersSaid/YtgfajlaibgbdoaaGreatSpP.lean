
import Derived.Test.YtgfajlaibgbdoaaGreatSpA
namespace Go.Proofs.YtgfajlaibgbdoaaGreat

/-! plain facts on sets of ranges -/

def Ok (s : List Rng) : Prop := s.Pairwise (fun a b => a.2 < b.1) ∧ ∀ r ∈ s, 0 ≤ r.1 ∧ r.1 < r.2 ∧ r.2 ≤ 40000
def Mem (s : List Rng) (c : Int) : Prop := ∃ x ∈ s, x.1 ≤ c ∧ c < x.2
def hasB (s : List Rng) (r : Rng) : Bool := s.any (fun x => decide (x.1 ≤ r.1) && decide (r.2 ≤ x.2))
def meetsB (s : List Rng) (r : Rng) : Bool := s.any (fun x => decide (x.1 < r.2) && decide (r.1 < x.2))
def cntL : List Rng → Int
  | [] => 0
  | r :: s => (r.2 - r.1) + cntL s

theorem cntL_append (a b : List Rng) : cntL (a ++ b) = cntL a + cntL b := by
  induction a with
  | nil => simp [cntL]
  | cons x a ih => simp [cntL, ih]; omega
theorem Ok.nil : Ok [] := ⟨List.Pairwise.nil, by simp⟩
theorem Ok.cons {r : Rng} {s : List Rng} (h : Ok (r :: s)) : Ok s := ⟨(List.pairwise_cons.1 h.1).2, fun x hx => h.2 x (List.mem_cons_of_mem _ hx)⟩
theorem Ok.append {a b : List Rng} (h : Ok (a ++ b)) : Ok a ∧ Ok b :=
  ⟨⟨(List.pairwise_append.1 h.1).1, fun x hx => h.2 x (List.mem_append_left _ hx)⟩, ⟨(List.pairwise_append.1 h.1).2.1, fun x hx => h.2 x (List.mem_append_right _ hx)⟩⟩
theorem Mem_append {a b : List Rng} {c : Int} : Mem (a ++ b) c ↔ Mem a c ∨ Mem b c := by simp [Mem, or_and_right, exists_or]
theorem Mem_cons {r : Rng} {b : List Rng} {c : Int} : Mem (r :: b) c ↔ (r.1 ≤ c ∧ c < r.2) ∨ Mem b c := by simp [Mem]
theorem Mem_nil {c : Int} : ¬ Mem [] c := by simp [Mem]

theorem getD_mem {s : List Rng} {i : Nat} (h : i < s.length) : s.getD i (0,0) ∈ s := by
  simp only [List.getD, List.getElem?_eq_getElem h, Option.getD_some]; exact List.getElem_mem h
theorem Ok.lt {s : List Rng} (h : Ok s) {i j : Nat} (hij : i < j) (hj : j < s.length) : (s.getD i (0,0)).2 < (s.getD j (0,0)).1 := by
  have := List.pairwise_iff_getElem.1 h.1 i j (by omega) hj hij
  simpa [List.getD, List.getElem?_eq_getElem hj, List.getElem?_eq_getElem (show i < s.length by omega)] using this
theorem Ok.at {s : List Rng} (h : Ok s) {i : Nat} (hi : i < s.length) : 0 ≤ (s.getD i (0,0)).1 ∧ (s.getD i (0,0)).1 < (s.getD i (0,0)).2 ∧ (s.getD i (0,0)).2 ≤ 40000 := h.2 _ (getD_mem hi)
theorem Ok.srt {s : List Rng} (h : Ok s) : Srt s := fun i j hij hj => by
  have h1 := h.lt hij hj
  have h2 := h.at hj
  omega

theorem Cut.split {s : List Rng} {c : Int} {k : Nat} (h : Cut s c k) : (∀ x ∈ s.take k, x.2 ≤ c) ∧ (∀ x ∈ s.drop k, c < x.2) := by
  obtain ⟨h1, h2, h3⟩ := h
  constructor
  · intro x hx
    obtain ⟨i, hi, rfl⟩ := List.mem_iff_getElem.1 hx
    have hi' : i < k := by simp at hi; omega
    have := h2 i hi'
    simpa [List.getD, List.getElem?_eq_getElem (show i < s.length by omega)] using this
  · intro x hx
    obtain ⟨i, hi, rfl⟩ := List.mem_iff_getElem.1 hx
    have hi' : k + i < s.length := by simp at hi; omega
    have := h3 (k + i) (by omega) hi'
    simpa [List.getD, List.getElem?_eq_getElem hi'] using this

theorem hasB_cut {s : List Rng} {r : Rng} {k : Nat} (hs : Ok s) (hk : Cut s r.1 k) (hr : r.1 < r.2) :
    hasB s r = (decide (k < s.length) && (decide ((s.getD k (0,0)).1 ≤ r.1) && decide (r.2 ≤ (s.getD k (0,0)).2))) := by
  rw [Bool.eq_iff_iff]
  simp only [hasB, List.any_eq_true, Bool.and_eq_true, decide_eq_true_eq]
  constructor
  · rintro ⟨x, hx, h1, h2⟩
    obtain ⟨j, hj, rfl⟩ := List.mem_iff_getElem.1 hx
    have e : s.getD j (0,0) = s[j] := by simp [List.getD, hj]
    rw [← e] at h1 h2
    have hkj : k ≤ j := by
      by_cases hlt : j < k
      · have := hk.2.1 j hlt; omega
      · omega
    have hk1 : k < s.length := by omega
    by_cases hkj' : k = j
    · subst hkj'; exact ⟨hk1, h1, h2⟩
    · have := hs.lt (show k < j by omega) hj
      have := hk.2.2 k (Nat.le_refl _) hk1
      omega
  · rintro ⟨h1, h2, h3⟩
    exact ⟨_, getD_mem h1, h2, h3⟩

theorem meetsB_cut {s : List Rng} {r : Rng} {k : Nat} (hs : Ok s) (hk : Cut s r.1 k) :
    meetsB s r = (decide (k < s.length) && decide ((s.getD k (0,0)).1 < r.2)) := by
  rw [Bool.eq_iff_iff]
  simp only [meetsB, List.any_eq_true, Bool.and_eq_true, decide_eq_true_eq]
  constructor
  · rintro ⟨x, hx, h1, h2⟩
    obtain ⟨j, hj, rfl⟩ := List.mem_iff_getElem.1 hx
    have e : s.getD j (0,0) = s[j] := by simp [List.getD, hj]
    rw [← e] at h1 h2
    have hkj : k ≤ j := by
      by_cases hlt : j < k
      · have := hk.2.1 j hlt; omega
      · omega
    have hk1 : k < s.length := by omega
    refine ⟨hk1, ?_⟩
    by_cases hkj' : k = j
    · subst hkj'; exact h1
    · have h4 := hs.lt (show k < j by omega) hj
      have h5 := hs.at hk1
      omega
  · rintro ⟨h1, h2⟩
    exact ⟨_, getD_mem h1, h2, hk.2.2 k (Nat.le_refl _) h1⟩

theorem meetsB_iff {s : List Rng} {r : Rng} (hr : r.1 < r.2) (hs : ∀ x ∈ s, x.1 < x.2) : meetsB s r = true ↔ ∃ c, Mem s c ∧ r.1 ≤ c ∧ c < r.2 := by
  simp only [meetsB, List.any_eq_true, Bool.and_eq_true, decide_eq_true_eq]
  constructor
  · rintro ⟨x, hx, h1, h2⟩
    have := hs x hx
    exact ⟨max x.1 r.1, ⟨x, hx, by omega, by omega⟩, by omega, by omega⟩
  · rintro ⟨c, ⟨x, hx, h1, h2⟩, h3, h4⟩
    exact ⟨x, hx, by omega, by omega⟩

/-- adding a range between two halves. -/
def addR (A : List Rng) (r : Rng) (B : List Rng) : List Rng :=
  let p : Int × List Rng := match B with
    | x :: B' => if r.2 = x.1 then (x.2, B') else (r.2, B)
    | [] => (r.2, [])
  match A.getLast? with
  | some y => if y.2 = r.1 then A.dropLast ++ (y.1, p.1) :: p.2 else A ++ (r.1, p.1) :: p.2
  | none => (r.1, p.1) :: p.2

theorem Ok.mk3 {A B : List Rng} {m : Rng} (hA : Ok A) (hB : Ok B) (h1 : ∀ x ∈ A, x.2 < m.1) (h2 : ∀ x ∈ B, m.2 < x.1) (hm : 0 ≤ m.1 ∧ m.1 < m.2 ∧ m.2 ≤ 40000) : Ok (A ++ m :: B) := by
  refine ⟨List.pairwise_append.2 ⟨hA.1, List.pairwise_cons.2 ⟨h2, hB.1⟩, ?_⟩, ?_⟩
  · intro x hx y hy
    rcases List.mem_cons.1 hy with rfl | hy
    · exact h1 x hx
    · have := h1 x hx; have := h2 y hy; omega
  · intro x hx
    rcases List.mem_append.1 hx with hx | hx
    · exact hA.2 x hx
    · rcases List.mem_cons.1 hx with rfl | hx
      · exact hm
      · exact hB.2 x hx

/-- the right half: the new end, and what is left. -/
def addT (r : Rng) (B : List Rng) : Int × List Rng := match B with
  | x :: B' => if r.2 = x.1 then (x.2, B') else (r.2, B)
  | [] => (r.2, [])

theorem addT_ok {B : List Rng} {r : Rng} (h : Ok B) (hr : 0 ≤ r.1 ∧ r.1 < r.2 ∧ r.2 ≤ 40000) (hB : ∀ x ∈ B, r.2 ≤ x.1) :
    Ok (addT r B).2 ∧ r.2 ≤ (addT r B).1 ∧ (addT r B).1 ≤ 40000 ∧ (∀ x ∈ (addT r B).2, (addT r B).1 < x.1) ∧ (∀ c, (r.1 ≤ c ∧ c < (addT r B).1) ∨ Mem (addT r B).2 c ↔ Mem B c ∨ (r.1 ≤ c ∧ c < r.2)) := by
  cases B with
  | nil => simp [addT, Ok.nil, Mem_nil]; omega
  | cons x B' =>
    have hx := h.2 x (List.mem_cons_self ..)
    have hrx := hB x (List.mem_cons_self ..)
    have hp := (List.pairwise_cons.1 h.1).1
    simp only [addT]
    split
    · rename_i e
      refine ⟨h.cons, by simp only; omega, hx.2.2, hp, fun c => ?_⟩
      simp only [Mem_cons]
      have : (r.1 ≤ c ∧ c < x.2) ↔ (x.1 ≤ c ∧ c < x.2) ∨ (r.1 ≤ c ∧ c < r.2) := by omega
      rw [this]
      constructor
      · rintro ((h | h) | h)
        · exact .inl (.inl h)
        · exact .inr h
        · exact .inl (.inr h)
      · rintro ((h | h) | h)
        · exact .inl (.inl h)
        · exact .inr h
        · exact .inl (.inr h)
    · rename_i e
      refine ⟨h, by simp only; omega, hr.2.2, ?_, fun c => ?_⟩
      · intro y hy
        rcases List.mem_cons.1 hy with rfl | hy
        · simp only; omega
        · have := hp y hy; simp only; omega
      · exact or_comm

theorem addT_cnt (r : Rng) (B : List Rng) : (addT r B).1 - r.1 + cntL (addT r B).2 = cntL B + (r.2 - r.1) := by
  cases B with
  | nil => simp [addT, cntL]
  | cons x B' =>
    simp only [addT]
    split <;> simp only [cntL] <;> omega

theorem addR_eq (A : List Rng) (r : Rng) (B : List Rng) : addR A r B = match A.getLast? with
  | some y => if y.2 = r.1 then A.dropLast ++ (y.1, (addT r B).1) :: (addT r B).2 else A ++ (r.1, (addT r B).1) :: (addT r B).2
  | none => (r.1, (addT r B).1) :: (addT r B).2 := rfl

theorem addR_ok {A B : List Rng} {r : Rng} (h : Ok (A ++ B)) (hr : 0 ≤ r.1 ∧ r.1 < r.2 ∧ r.2 ≤ 40000) (hA : ∀ x ∈ A, x.2 ≤ r.1) (hB : ∀ x ∈ B, r.2 ≤ x.1) :
    Ok (addR A r B) ∧ (∀ c, Mem (addR A r B) c ↔ Mem (A ++ B) c ∨ (r.1 ≤ c ∧ c < r.2)) ∧ cntL (addR A r B) = cntL (A ++ B) + (r.2 - r.1) := by
  obtain ⟨hoA, hoB⟩ := h.append
  have hcT := addT_cnt r B
  obtain ⟨t1, t2, t3, t4, t5⟩ := addT_ok hoB hr hB
  rw [addR_eq]
  generalize addT r B = p at *
  rcases List.eq_nil_or_concat A with hAe | ⟨A0, y, hAe⟩
  · subst hAe
    simp only [List.getLast?_nil, List.nil_append]
    refine ⟨by simpa using Ok.mk3 (A := []) (m := (r.1, p.1)) Ok.nil t1 (by simp) t4 (by simp only; omega), fun c => ?_, by simp only [cntL]; omega⟩
    rw [Mem_cons, ← t5]
  · rw [List.concat_eq_append] at hAe
    subst hAe
    have hA0 := hoA.append.1
    have hy := hoA.2 y (by simp)
    have hyr := hA y (by simp)
    have hlast : ∀ x ∈ A0, x.2 < y.1 := fun x hx => (List.pairwise_append.1 hoA.1).2.2 x hx y (by simp)
    simp only [List.getLast?_append, List.getLast?_singleton, Option.some_or]
    split
    · rename_i e
      rw [List.dropLast_concat]
      refine ⟨Ok.mk3 (m := (y.1, p.1)) hA0 t1 hlast t4 (by simp only; omega), fun c => ?_, by simp only [cntL, cntL_append]; omega⟩
      simp only [Mem_append, Mem_cons]
      have h5 := t5 c
      have : (y.1 ≤ c ∧ c < p.1) ↔ (y.1 ≤ c ∧ c < y.2) ∨ (r.1 ≤ c ∧ c < p.1) := by omega
      rw [this, or_assoc (a := y.1 ≤ c ∧ c < y.2), h5]
      simp only [or_assoc, Mem_nil, false_or]
    · rename_i e
      refine ⟨Ok.mk3 (m := (r.1, p.1)) hoA t1 ?_ t4 (by simp only; omega), fun c => ?_, by simp only [cntL, cntL_append]; omega⟩
      · intro x hx
        rcases List.mem_append.1 hx with hx | hx
        · have := hlast x hx; simp only; omega
        · simp only [List.mem_singleton] at hx; subst hx; simp only; omega
      · simp only [Mem_append, Mem_cons]
        have h5 := t5 c
        rw [h5]
        simp only [or_assoc]

/-- cutting a range out of one that holds it. -/
def cutR (A : List Rng) (x r : Rng) (B : List Rng) : List Rng := A ++ ((if x.1 < r.1 then [(x.1, r.1)] else []) ++ (if r.2 < x.2 then [(r.2, x.2)] else [])) ++ B

theorem cutR_ok {A B : List Rng} {x r : Rng} (h : Ok (A ++ x :: B)) (hr : r.1 < r.2) (h1 : x.1 ≤ r.1) (h2 : r.2 ≤ x.2) :
    Ok (cutR A x r B) ∧ (∀ c, Mem (cutR A x r B) c ↔ Mem (A ++ x :: B) c ∧ ¬ (r.1 ≤ c ∧ c < r.2)) ∧ cntL (cutR A x r B) = cntL (A ++ x :: B) - (r.2 - r.1) := by
  obtain ⟨hoA, hoB⟩ := h.append
  have hx := h.2 x (by simp)
  have hB := (List.pairwise_cons.1 hoB.1).1
  have hA : ∀ y ∈ A, y.2 < x.1 := fun y hy => (List.pairwise_append.1 h.1).2.2 y hy x (by simp)
  have hB' := hoB.cons
  have mA : ∀ c, Mem A c → c < x.1 := by rintro c ⟨y, hy, h3, h4⟩; have := hA y hy; omega
  have mB : ∀ c, Mem B c → x.2 < c := by rintro c ⟨y, hy, h3, h4⟩; have := hB y hy; omega
  unfold cutR
  refine ⟨?_, fun c => ?_, ?_⟩
  · by_cases c1 : x.1 < r.1 <;> by_cases c2 : r.2 < x.2 <;> simp only [c1, c2, if_true, if_false, List.nil_append, List.append_nil, List.append_assoc, List.cons_append]
    · refine Ok.mk3 (m := (x.1, r.1)) hoA (Ok.mk3 (A := []) (m := (r.2, x.2)) Ok.nil hB' (by simp) hB (by simp only; omega)) hA ?_ (by simp only; omega)
      intro y hy
      rcases List.mem_cons.1 hy with rfl | hy
      · simp only; omega
      · have := hB y hy; simp only; omega
    · exact Ok.mk3 (m := (x.1, r.1)) hoA hB' hA (fun y hy => by have := hB y hy; simp only; omega) (by simp only; omega)
    · exact Ok.mk3 (m := (r.2, x.2)) hoA hB' (fun y hy => by have := hA y hy; simp only; omega) hB (by simp only; omega)
    · refine ⟨List.pairwise_append.2 ⟨hoA.1, hB'.1, fun y hy z hz => ?_⟩, fun y hy => ?_⟩
      · have := hA y hy; have := hB z hz; omega
      · rcases List.mem_append.1 hy with hy | hy
        · exact hoA.2 y hy
        · exact hB'.2 y hy
  · simp only [Mem_append, Mem_cons]
    have a1 := mA c
    have b1 := mB c
    by_cases c1 : x.1 < r.1 <;> by_cases c2 : r.2 < x.2 <;> simp only [c1, c2, if_true, if_false, Mem_cons, Mem_nil, or_false, false_or] <;>
      grind
  · simp only [cntL_append, cntL]
    by_cases c1 : x.1 < r.1 <;> by_cases c2 : r.2 < x.2 <;> simp only [c1, c2, if_true, if_false, cntL] <;> omega

/-- a set is known by its cells. -/
theorem Ok.ext {s t : List Rng} (hs : Ok s) (ht : Ok t) (h : ∀ c, Mem s c ↔ Mem t c) : s = t := by
  induction s generalizing t with
  | nil =>
    cases t with
    | nil => rfl
    | cons y t =>
      have hy := ht.2 y (by simp)
      exact absurd ((h y.1).2 ⟨y, by simp, by omega, by omega⟩) Mem_nil
  | cons x s ih =>
    cases t with
    | nil =>
      have hx := hs.2 x (by simp)
      exact absurd ((h x.1).1 ⟨x, by simp, by omega, by omega⟩) Mem_nil
    | cons y t =>
      have hx := hs.2 x (by simp)
      have hy := ht.2 y (by simp)
      have px := (List.pairwise_cons.1 hs.1).1
      have py := (List.pairwise_cons.1 ht.1).1
      have low : ∀ (x : Rng) (s : List Rng), Ok (x :: s) → ∀ c, Mem (x :: s) c → x.1 ≤ c := by
        rintro x s hs c ⟨z, hz, h1, h2⟩
        have hx := hs.2 x (by simp)
        rcases List.mem_cons.1 hz with rfl | hz
        · omega
        · have := (List.pairwise_cons.1 hs.1).1 z hz; omega
      have e1 : x.1 = y.1 := by
        have h1 := low y t ht x.1 ((h x.1).1 ⟨x, by simp, by omega, by omega⟩)
        have h2 := low x s hs y.1 ((h y.1).2 ⟨y, by simp, by omega, by omega⟩)
        omega
      have end_ : ∀ (x : Rng) (s : List Rng), Ok (x :: s) → ¬ Mem (x :: s) x.2 := by
        rintro x s hs ⟨z, hz, h1, h2⟩
        rcases List.mem_cons.1 hz with rfl | hz
        · omega
        · have := (List.pairwise_cons.1 hs.1).1 z hz; omega
      have e2 : x.2 = y.2 := by
        have a1 := end_ x s hs
        have a2 := end_ y t ht
        rw [h] at a1
        rw [← h] at a2
        have b1 : ¬ (y.1 ≤ x.2 ∧ x.2 < y.2) := fun hh => a1 ⟨y, by simp, hh.1, hh.2⟩
        have b2 : ¬ (x.1 ≤ y.2 ∧ y.2 < x.2) := fun hh => a2 ⟨x, by simp, hh.1, hh.2⟩
        omega
      have e : x = y := Prod.ext e1 e2
      subst e
      congr 1
      refine ih hs.cons ht.cons fun c => ?_
      have hc := h c
      simp only [Mem_cons] at hc
      have nx : Mem s c → x.2 < c := by rintro ⟨z, hz, h1, h2⟩; have := px z hz; omega
      have ny : Mem t c → x.2 < c := by rintro ⟨z, hz, h1, h2⟩; have := py z hz; omega
      constructor
      · intro hm
        rcases hc.1 (.inr hm) with h1 | h1
        · have := nx hm; omega
        · exact h1
      · intro hm
        rcases hc.2 (.inr hm) with h1 | h1
        · have := ny hm; omega
        · exact h1

theorem Ok.len_le {s : List Rng} (hs : Ok s) : ∀ b : Int, (∀ x ∈ s, b ≤ x.1) → b ≤ 40000 → (s.length : Int) ≤ 40000 - b := by
  induction s with
  | nil => intro b _ hb; simp; omega
  | cons x s ih =>
    intro b hb hb2
    have hx := hs.2 x (by simp)
    have := hb x (by simp)
    have := ih hs.cons (x.2) (fun y hy => by have := (List.pairwise_cons.1 hs.1).1 y hy; omega) (by omega)
    simp; omega
theorem Ok.len {s : List Rng} (hs : Ok s) : s.length ≤ 40000 := by
  have := hs.len_le 0 (fun x hx => (hs.2 x hx).1) (by omega)
  omega

end Go.Proofs.YtgfajlaibgbdoaaGreat
