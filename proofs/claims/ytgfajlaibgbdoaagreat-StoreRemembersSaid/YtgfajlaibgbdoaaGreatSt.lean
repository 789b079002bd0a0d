
import Derived.Test.YtgfajlaibgbdoaaGreatSpN
import Derived.Test.YtgfajlaibgbdoaaGreatOp
import Derived.Laws.MakeOwn
namespace Go.Proofs.YtgfajlaibgbdoaaGreat
open Go.RowKit

def EI : Enc Int where
  k := 1
  hk := by decide
  enc x := [.int .i64 x]
  len _ := rfl
  one _ v hv := by simp at hv; subst hv; rfl

theorem tiI : Ti Tryz.prog EI 3 8 0 := Ti.mk' (z := .int .i64 0) (by kernel_rfl) rfl

theorem flatI (l : List Int) : EI.flat l = l.map (Value.int .i64) := by
  induction l with
  | nil => rfl
  | cons a l ih => simp [ih]; rfl

theorem make_ints (n : Nat) (hn : n ≤ 65536) (w : World) :
    (Instr.makeSlice 22 (.int .i64 (n : Int)) (.int .i64 (n : Int))).run Tryz.prog w = .ok (.slice (some ⟨w.heap.size, 0, none⟩) n n) (w.alloc (.cells (EI.flat (List.replicate n 0)).toArray 3)) := by
  obtain ⟨i, z, hi, hz, hsize, hby, hzz⟩ := tiI.row
  have hr := run_make (P := Tryz.prog) w 22 3 i z Tryz.underlying22 hi hz .i64 .i64 n n (by omega) (by omega) (by rw [hby]; omega) (by omega)
  simp only [Int.toNat_natCast] at hr
  rw [hr]
  have e : z.cells = #[.int .i64 0] := Array.ext' hzz
  have e2 : madeCells z.cells (n * i.size) = (EI.flat (List.replicate n 0)).toArray := by
    rw [e, hsize, show n * EI.k = n from Nat.mul_one n, flatI]
    apply Array.ext'
    apply List.ext_getElem?
    intro j
    simp only [madeCells, Array.toList_map, Array.toList_range, List.getElem?_map, List.map_replicate, List.getElem?_replicate]
    by_cases hj : j < n
    · simp [hj, Nat.mod_one]
    · simp [hj]
  rw [e2]

/-- the cells of a space as a list of states: 0 free, 1 used, 2 leaving. -/
def StRel (s : Spc) (h : List Int) : Prop := s.cells = h.length ∧ ∀ i : Nat, i < h.length → (h.getD i 9 = 0 ∧ Mem s.free i) ∨ (h.getD i 9 = 1 ∧ Mem s.used i) ∨ (h.getD i 9 = 2 ∧ Mem s.leaving i)

theorem StRel.iff {s : Spc} {h : List Int} (r : StRel s h) (hi : SpI s) {i : Nat} (hl : i < h.length) : (h.getD i 9 = 0 ↔ Mem s.free i) ∧ (h.getD i 9 = 1 ↔ Mem s.used i) ∧ (h.getD i 9 = 2 ↔ Mem s.leaving i) := by
  have h1 := r.2 i hl
  have h2 := hi.fu i
  have h3 := hi.fl i
  have h4 := hi.ul i
  grind

theorem StRel.start {c : Nat} {s : Spc} (hc : s.cells = c) (hf : s.free = [(0, (c : Int))]) : StRel s (List.replicate c 0) := by
  refine ⟨by simpa using hc, fun i hi => .inl ⟨?_, ?_⟩⟩
  · simp at hi
    simp [hi]
  · simp at hi
    rw [hf]
    exact ⟨_, List.mem_singleton_self _, by simp, by simp; omega⟩

/-- some states are set. -/
def SetTo (h h' : List Int) (a n : Int) (v : Int) : Prop := h'.length = h.length ∧ ∀ i : Nat, i < h.length → h'.getD i 9 = if a ≤ i ∧ (i : Int) < a + n then v else h.getD i 9

theorem SetTo.zero (h : List Int) (a v : Int) : SetTo h h a 0 v := ⟨rfl, fun i _ => by rw [if_neg (by omega)]⟩

theorem getD_set {h : List Int} {j i : Nat} (v : Int) (hi : i < h.length) : (h.set j v).getD i 9 = if j = i then v else h.getD i 9 := by
  simp only [List.getD, List.getElem?_set]
  by_cases hji : j = i
  · subst hji; simp [hi]
  · simp [hji]

theorem SetTo.step {h h' : List Int} {a n v : Int} (s : SetTo h h' a n v) (ha : 0 ≤ a) (hn : 0 ≤ n) : SetTo h (h'.set (a + n).toNat v) a (n + 1) v := by
  refine ⟨by rw [List.length_set]; exact s.1, fun i hi => ?_⟩
  rw [getD_set v (by rw [s.1]; exact hi), s.2 i hi]
  by_cases h1 : (a + n).toNat = i
  · rw [if_pos h1, if_pos (by omega)]
  · rw [if_neg h1]
    by_cases h2 : a ≤ i ∧ (i : Int) < a + n
    · rw [if_pos h2, if_pos (by omega)]
    · rw [if_neg h2, if_neg (by omega)]

theorem StRel.took {s s' : Spc} {h h' : List Int} {a n : Int} (r : StRel s h) (hi : SpI s) (t : Took s s' a n) (hs : SetTo h h' a n 1) : StRel s' h' := by
  refine ⟨by rw [t.cells, r.1, hs.1], fun i hl => ?_⟩
  rw [hs.1] at hl
  rw [hs.2 i hl, t.free, t.used, t.leaving]
  have h1 := r.2 i hl
  have h2 := t.at1 i
  have h3 := hi.fu i
  have h4 := hi.fl i
  grind

theorem StRel.given {s s' : Spc} {h h' : List Int} {a n : Int} (r : StRel s h) (hi : SpI s) (t : Given s s' a n) (hs : SetTo h h' a n 2) : StRel s' h' := by
  refine ⟨by rw [t.cells, r.1, hs.1], fun i hl => ?_⟩
  rw [hs.1] at hl
  rw [hs.2 i hl, t.free, t.used, t.leaving]
  have h1 := r.2 i hl
  have h2 := t.at1 i
  have h3 := hi.fu i
  have h4 := hi.ul i
  grind

/-- what was leaving is free. -/
def Loosed (h h' : List Int) (k : Nat) : Prop := h'.length = h.length ∧ ∀ i : Nat, i < h.length → h'.getD i 9 = if i < k ∧ h.getD i 9 = 2 then 0 else h.getD i 9

theorem Loosed.zero (h : List Int) : Loosed h h 0 := ⟨rfl, fun i _ => by rw [if_neg (by omega)]⟩
theorem Loosed.stay {h h' : List Int} {k : Nat} (s : Loosed h h' k) (hk : h.getD k 9 ≠ 2) : Loosed h h' (k + 1) := by
  refine ⟨s.1, fun i hi => ?_⟩
  rw [s.2 i hi]
  by_cases h1 : i = k
  · subst h1; rw [if_neg (by omega), if_neg (by grind)]
  · by_cases h2 : i < k ∧ h.getD i 9 = 2
    · rw [if_pos h2, if_pos (by omega)]
    · rw [if_neg h2, if_neg (by omega)]
theorem Loosed.step {h h' : List Int} {k : Nat} (s : Loosed h h' k) (hk : h.getD k 9 = 2) : Loosed h (h'.set k 0) (k + 1) := by
  refine ⟨by rw [List.length_set]; exact s.1, fun i hi => ?_⟩
  rw [getD_set 0 (by rw [s.1]; exact hi), s.2 i hi]
  by_cases h1 : k = i
  · subst h1; rw [if_pos rfl, if_pos ⟨by omega, hk⟩]
  · rw [if_neg h1]
    by_cases h2 : i < k ∧ h.getD i 9 = 2
    · rw [if_pos h2, if_pos (by omega)]
    · rw [if_neg h2, if_neg (by omega)]

theorem StRel.settled {s s' : Spc} {h h' : List Int} (r : StRel s h) (t : Settled s s') (hs : Loosed h h' h.length) : StRel s' h' := by
  refine ⟨by rw [t.cells, r.1, hs.1], fun i hl => ?_⟩
  rw [hs.1] at hl
  rw [hs.2 i hl, t.free, t.used]
  have h1 := r.2 i hl
  grind

/-- all of some cells have a state. -/
def AllAre (h : List Int) (a n v : Int) : Prop := ∀ i : Nat, a ≤ i ∧ (i : Int) < a + n → h.getD i 9 = v

theorem StRel.hasU {s : Spc} {h : List Int} (r : StRel s h) (hi : SpI s) {a n : Int} (ha : 0 ≤ a) (hn : 1 ≤ n) (han : a + n ≤ s.cells) : hasB s.used (a, a + n) = true ↔ AllAre h a n 1 := by
  constructor
  · intro h1 i hi2
    have h2 := mem_of_hasB h1 i (by simp; omega)
    exact ((r.iff hi (by have := r.1; omega)).2.1).2 h2
  · intro h1
    refine hasB_of_mem hi.okU (by simp; omega) (fun c hc => ?_)
    simp only at hc
    have h2 := h1 c.toNat (by omega)
    have h3 := ((r.iff hi (i := c.toNat) (by have := r.1; omega)).2.1).1 h2
    rwa [Int.toNat_of_nonneg (by omega)] at h3

theorem StRel.hasF {s : Spc} {h : List Int} (r : StRel s h) (hi : SpI s) {a n : Int} (ha : 0 ≤ a) (hn : 1 ≤ n) (han : a + n ≤ s.cells) : hasB s.free (a, a + n) = true ↔ AllAre h a n 0 := by
  constructor
  · intro h1 i hi2
    have h2 := mem_of_hasB h1 i (by simp; omega)
    exact ((r.iff hi (by have := r.1; omega)).1).2 h2
  · intro h1
    refine hasB_of_mem hi.okF (by simp; omega) (fun c hc => ?_)
    simp only at hc
    have h2 := h1 c.toNat (by omega)
    have h3 := ((r.iff hi (i := c.toNat) (by have := r.1; omega)).1).1 h2
    rwa [Int.toNat_of_nonneg (by omega)] at h3

/-- how many of the first cells have a state. -/
def cntS (h : List Int) (v : Int) (k : Nat) : Nat := (h.take k).countP (fun x => decide (x = v))

theorem cntS_succ {h : List Int} {v : Int} {k : Nat} (hk : k < h.length) : cntS h v (k + 1) = cntS h v k + (if h.getD k 9 = v then 1 else 0) := by
  have e : h.getD k 9 = h[k] := by simp [List.getD, hk]
  simp only [cntS, e, List.take_succ_eq_append_getElem hk, List.countP_append, List.countP_singleton, decide_eq_true_eq]

/-- how many numbers below k lie in a set of ranges. -/
def below (s : List Rng) (k : Nat) : Int := match s with
  | [] => 0
  | x :: s => (if (k : Int) ≤ x.1 then 0 else if x.2 ≤ k then x.2 - x.1 else k - x.1) + below s k

theorem below_out {s : List Rng} {k : Nat} (h : ∀ x ∈ s, (k : Int) ≤ x.1) : below s k = 0 := by
  induction s with
  | nil => rfl
  | cons x s ih => simp only [below]; rw [if_pos (h x (by simp)), ih (fun y hy => h y (by simp [hy]))]; rfl

theorem below_succ {s : List Rng} (hs : Ok s) (k : Nat) : (Mem s k → below s (k + 1) = below s k + 1) ∧ (¬ Mem s k → below s (k + 1) = below s k) := by
  induction s with
  | nil => exact ⟨fun h => (Mem_nil h).elim, fun _ => rfl⟩
  | cons x s ih =>
    have ih' := ih hs.cons
    have h1 := hs.2 x (by simp)
    by_cases hx : x.1 ≤ (k : Int) ∧ (k : Int) < x.2
    · have hno : ¬ Mem s k := by
        rintro ⟨y, hy, h2, h3⟩
        have := (List.pairwise_cons.1 hs.1).1 y hy
        omega
      refine ⟨fun _ => ?_, fun h => (h (Mem_cons.2 (.inl hx))).elim⟩
      simp only [below]
      rw [ih'.2 hno]
      (repeat' split) <;> omega
    · have e : Mem (x :: s) k ↔ Mem s k := by rw [Mem_cons]; simp [hx]
      rw [e]
      have e2 : (if ((k + 1 : Nat) : Int) ≤ x.1 then (0 : Int) else if x.2 ≤ ((k + 1 : Nat) : Int) then x.2 - x.1 else ((k + 1 : Nat) : Int) - x.1) = (if (k : Int) ≤ x.1 then 0 else if x.2 ≤ (k : Int) then x.2 - x.1 else (k : Int) - x.1) := by
        (repeat' split) <;> omega
      refine ⟨fun h => ?_, fun h => ?_⟩
      · simp only [below]; rw [ih'.1 h, e2]; omega
      · simp only [below]; rw [ih'.2 h, e2]

theorem below_all {s : List Rng} (hs : Ok s) {k : Nat} (h : ∀ x ∈ s, x.2 ≤ (k : Int)) : below s k = cntL s := by
  induction s with
  | nil => rfl
  | cons x s ih =>
    have h1 := hs.2 x (by simp)
    have h2 := h x (by simp)
    simp only [below, cntL, ih hs.cons (fun y hy => h y (by simp [hy]))]
    rw [if_neg (by omega), if_pos h2]

theorem count_states {s : List Rng} (hs : Ok s) {h : List Int} {v : Int} (hm : ∀ i : Nat, i < h.length → (h.getD i 9 = v ↔ Mem s i)) : ∀ k ≤ h.length, (cntS h v k : Int) = below s k
  | 0, _ => by
    rw [below_out (fun x hx => by have := hs.2 x hx; simp; omega)]; simp [cntS]
  | k + 1, hk => by
    have ih := count_states hs hm k (by omega)
    rw [cntS_succ (by omega)]
    have h1 := hm k (by omega)
    by_cases h2 : h.getD k 9 = v
    · rw [if_pos h2, (below_succ hs k).1 (h1.1 h2)]; omega
    · rw [if_neg h2, (below_succ hs k).2 (fun h3 => h2 (h1.2 h3))]; omega

theorem mem_cells {s : Spc} (hi : SpI s) {x : Rng} (hx : x ∈ s.free ∨ x ∈ s.used ∨ x ∈ s.leaving) : 0 ≤ x.1 ∧ x.1 < x.2 ∧ x.2 ≤ s.cells := by
  have h0 : 0 ≤ x.1 ∧ x.1 < x.2 ∧ x.2 ≤ 40000 := by
    rcases hx with h | h | h
    · exact hi.okF.2 x h
    · exact hi.okU.2 x h
    · exact hi.okL.2 x h
  have h1 := (hi.all (x.2 - 1)).2 (by
    rcases hx with h | h | h
    · exact .inl ⟨x, h, by omega, by omega⟩
    · exact .inr (.inl ⟨x, h, by omega, by omega⟩)
    · exact .inr (.inr ⟨x, h, by omega, by omega⟩))
  omega

theorem StRel.cntF {s : Spc} {h : List Int} (r : StRel s h) (hi : SpI s) : (cntS h 0 h.length : Int) = cntL s.free := by
  rw [count_states hi.okF (fun i hl => (r.iff hi hl).1) _ (Nat.le_refl _)]
  refine below_all hi.okF (fun x hx => ?_)
  have := mem_cells hi (.inl hx); have := r.1; omega
theorem StRel.cntV {s : Spc} {h : List Int} (r : StRel s h) (hi : SpI s) : (cntS h 2 h.length : Int) = cntL s.leaving := by
  rw [count_states hi.okL (fun i hl => (r.iff hi hl).2.2) _ (Nat.le_refl _)]
  refine below_all hi.okL (fun x hx => ?_)
  have := mem_cells hi (.inr (.inr hx)); have := r.1; omega

end Go.Proofs.YtgfajlaibgbdoaaGreat
