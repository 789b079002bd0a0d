
import Derived.Test.YtaknhoplgcnhkaaLwHolds
namespace Go.Proofs.Ytaknhoplgcnhkaa
open Go.RowKit

/-! Plain law of SpaceWhole: what is held, as pairs of a first cell and a count. -/

structure Parts (s : Spc) (L : List (Int × Int)) : Prop where
  iff : ∀ c, Mem s.used c ↔ ∃ p ∈ L, p.1 ≤ c ∧ c < p.1 + p.2
  one : ∀ p ∈ L, 1 ≤ p.2 ∧ p.2 ≤ 9
  apart : L.Pairwise (fun p q => ∀ c, ¬ ((p.1 ≤ c ∧ c < p.1 + p.2) ∧ (q.1 ≤ c ∧ c < q.1 + q.2)))

theorem Parts.nil {s : Spc} (h : s.used = []) : Parts s [] :=
  ⟨fun c => by rw [h]; exact ⟨fun h => (Mem_nil h).elim, fun ⟨_, h, _⟩ => by simp at h⟩, by simp, List.Pairwise.nil⟩

theorem Parts.take {s s' : Spc} {L : List (Int × Int)} (h : Parts s L) (hi : SpI s) {a n : Int} (t : Took s s' a n) (hn : 1 ≤ n ∧ n ≤ 9) : Parts s' (L ++ [(a, n)]) := by
  refine ⟨fun c => ?_, fun p hp => ?_, ?_⟩
  · rw [t.used, h.iff]
    constructor
    · rintro (⟨p, hp, h1⟩ | h1)
      · exact ⟨p, by simp [hp], h1⟩
      · exact ⟨(a, n), by simp, h1⟩
    · rintro ⟨p, hp, h1⟩
      rcases List.mem_append.1 hp with hp | hp
      · exact .inl ⟨p, hp, h1⟩
      · simp at hp; subst hp; exact .inr h1
  · rcases List.mem_append.1 hp with hp | hp
    · exact h.one p hp
    · simp at hp; subst hp; exact hn
  · refine List.pairwise_append.2 ⟨h.apart, List.pairwise_singleton _ _, fun p hp q hq c hc => ?_⟩
    simp at hq; subst hq
    exact hi.fu c ⟨t.at1 c hc.2, (h.iff c).2 ⟨p, hp, hc.1⟩⟩

theorem Parts.same {s s' : Spc} {L : List (Int × Int)} (h : Parts s L) (e : s'.used = s.used) : Parts s' L := ⟨by rw [e]; exact h.iff, h.one, h.apart⟩

theorem cut_at {α : Type} {L : List α} {k : Nat} (d : α) (hk : k < L.length) : L = L.take k ++ L.getD k d :: L.drop (k + 1) := by
  have e : L.getD k d = L[k] := by simp [List.getD, hk]
  rw [e, ← List.drop_eq_getElem_cons hk, List.take_append_drop]

theorem Parts.mem {s : Spc} {L : List (Int × Int)} (h : Parts s L) {k : Nat} (hk : k < L.length) : ∀ c, (L.getD k (0,0)).1 ≤ c ∧ c < (L.getD k (0,0)).1 + (L.getD k (0,0)).2 → Mem s.used c := fun c hc =>
  (h.iff c).2 ⟨_, by rw [show L.getD k (0,0) = L[k] by simp [List.getD, hk]]; exact List.getElem_mem hk, hc⟩

theorem Parts.at {s : Spc} {L : List (Int × Int)} (h : Parts s L) (hi : SpI s) {k : Nat} (hk : k < L.length) :
    1 ≤ (L.getD k (0,0)).2 ∧ (L.getD k (0,0)).2 ≤ 9 ∧ 0 ≤ (L.getD k (0,0)).1 ∧ (L.getD k (0,0)).1 + (L.getD k (0,0)).2 ≤ s.cells ∧ inB s (L.getD k (0,0)).1 (L.getD k (0,0)).2 = true ∧
      hasB s.used ((L.getD k (0,0)).1, (L.getD k (0,0)).1 + (L.getD k (0,0)).2) = true := by
  have hm := h.mem hk
  have h1 := h.one (L.getD k (0,0)) (by rw [show L.getD k (0,0) = L[k] by simp [List.getD, hk]]; exact List.getElem_mem hk)
  revert hm h1
  generalize L.getD k (0,0) = p
  intro hm h1
  have h2 := (hi.all p.1).2 (.inr (.inl (hm p.1 (by omega))))
  have h3 := (hi.all (p.1 + p.2 - 1)).2 (.inr (.inl (hm _ (by omega))))
  refine ⟨h1.1, h1.2, h2.1, by omega, by simp [inB]; omega, hasB_of_mem hi.okU (by simp; omega) hm⟩

theorem Parts.give {s s' : Spc} {L : List (Int × Int)} (h : Parts s L) {k : Nat} (hk : k < L.length) (t : Given s s' (L.getD k (0,0)).1 (L.getD k (0,0)).2) : Parts s' (L.take k ++ L.drop (k + 1)) := by
  have e := cut_at (0,0) hk
  have ha := h.apart
  revert e ha t
  generalize L.getD k (0,0) = p
  intro t e ha
  rw [e] at ha
  obtain ⟨a1, a2, a3⟩ := List.pairwise_append.1 ha
  obtain ⟨a4, a5⟩ := List.pairwise_cons.1 a2
  refine ⟨fun c => ?_, fun q hq => h.one q ?_, List.pairwise_append.2 ⟨a1, a5, fun x hx y hy => a3 x hx y (List.mem_cons_of_mem _ hy)⟩⟩
  · rw [t.used, h.iff]
    constructor
    · rintro ⟨⟨q, hq, h1⟩, h2⟩
      rw [e] at hq
      rcases List.mem_append.1 hq with hq | hq
      · exact ⟨q, List.mem_append.2 (.inl hq), h1⟩
      · rcases List.mem_cons.1 hq with rfl | hq
        · exact (h2 h1).elim
        · exact ⟨q, List.mem_append.2 (.inr hq), h1⟩
    · rintro ⟨q, hq, h1⟩
      rcases List.mem_append.1 hq with hq | hq
      · exact ⟨⟨q, by rw [e]; exact List.mem_append.2 (.inl hq), h1⟩, fun h2 => a3 q hq p (by simp) c ⟨h1, h2⟩⟩
      · exact ⟨⟨q, by rw [e]; exact List.mem_append.2 (.inr (List.mem_cons_of_mem _ hq)), h1⟩, fun h2 => a4 q hq c ⟨h2, h1⟩⟩
  · rw [e]
    rcases List.mem_append.1 hq with hq | hq
    · exact List.mem_append.2 (.inl hq)
    · exact List.mem_append.2 (.inr (List.mem_cons_of_mem _ hq))

/-- what is given back is not used any more. -/
theorem Given.gone {s s' : Spc} {a n : Int} (t : Given s s' a n) (hn : 1 ≤ n) : hasB s'.used (a, a + n) = false := by
  cases h : hasB s'.used (a, a + n) with
  | false => rfl
  | true =>
    have h1 := mem_of_hasB h a (by simp; omega)
    exact (((t.used a).1 h1).2 (by omega)).elim

theorem used_none {s : Spc} (hi : SpI s) (h : Parts s []) : s.used = [] :=
  hi.okU.ext Ok.nil fun c => ⟨fun hm => by obtain ⟨p, hp, _⟩ := (h.iff c).1 hm; simp at hp, fun hm => (Mem_nil hm).elim⟩

theorem all_free {s : Spc} (hi : SpI s) (hu : s.used = []) (hl : s.leaving = []) : s.free = [(0, s.cells)] := by
  have h1 := hi.c1
  have h2 := hi.c2
  refine hi.okF.ext ⟨List.pairwise_singleton _ _, fun r hr => ?_⟩ (fun c => ?_)
  · simp at hr; subst hr; simp only; omega
  · have h := hi.all c
    rw [hu, hl] at h
    have h3 := @Mem_nil c
    constructor
    · intro hm
      exact Mem_cons.2 (.inl (h.2 (.inl hm)))
    · intro hm
      rcases Mem_cons.1 hm with hm | hm
      · rcases h.1 hm with h4 | h4 | h4
        · exact h4
        · exact (h3 h4).elim
        · exact (h3 h4).elim
      · exact (h3 hm).elim

/-! lists of numbers -/
theorem EI_cell {w : World} {g o n cap : Nat} {s : List Int} (h : EI.Rd w (.slice (some ⟨g, o, none⟩) n cap) s) (i : Nat) (hi : i < s.length) : w.cell? ⟨g, o + i, none⟩ = some (.int .i64 (s.getD i 0)) := by
  have e : s.getD i 0 = s[i] := by simp [List.getD, hi]
  have h1 := h.cells i 0 hi (by decide)
  rw [e]
  simpa [EI] using h1

theorem one_int (w : World) (x : Int) : EI.Rd (w.alloc (.cells #[.int .i64 x] 3)) (.slice (some ⟨w.heap.size, 0, none⟩) 1 1) [x] := by
  refine .inr ⟨w.heap.size, 0, 1, rfl, Nat.le_refl _, by simp, fun j u hj => ?_⟩
  rw [cell_of_row _ w.heap.size _ _ _ _ (heap_alloc_new _ _)]
  match j, hj with
  | 0, hj => exact hj
  | j + 1, hj => simp [EI, Enc.flat] at hj

/-- a part of a slice. -/
theorem EI_take {w : World} {a : Addr} {n cap k : Nat} {s : List Int} (h : EI.Rd w (.slice (some a) n cap) s) (hk : k ≤ s.length) : EI.Rd w (.slice (some a) k cap) (s.take k) := by
  rcases h with ⟨h, _⟩ | ⟨g, o, c, h, h1, h2, h3⟩
  · cases h
  · simp only [Value.slice.injEq, Option.some.injEq] at h
    obtain ⟨rfl, rfl, rfl⟩ := h
    refine .inr ⟨g, o, cap, by simp [hk], by simp; omega, h2, fun j u hj => h3 j u ?_⟩
    rw [EI.flat_take] at hj
    rw [List.getElem?_take] at hj
    split at hj
    · exact hj
    · cases hj

theorem EI_drop {w : World} {g o n cap k : Nat} {s : List Int} (h : EI.Rd w (.slice (some ⟨g, o, none⟩) n cap) s) : EI.Rd w (.slice (some ⟨g, o + k, none⟩) (n - k) (cap - k)) (s.drop k) := by
  rcases h with ⟨h, _⟩ | ⟨g', o', c, h, h1, h2, h3⟩
  · cases h
  · simp only [Value.slice.injEq, Option.some.injEq, Addr.mk.injEq] at h
    obtain ⟨⟨rfl, rfl, _⟩, rfl, rfl⟩ := h
    refine .inr ⟨g, o + k, cap - k, by simp, by simp; omega, h2, fun j u hj => ?_⟩
    rw [EI.flat_drop, List.getElem?_drop] at hj
    rw [← h3 (k * 1 + j) u hj]
    congr 2
    omega

theorem EI_drop2 {w : World} {g o n cap k : Nat} {s : List Int} (h : EI.Rd w (.slice (some ⟨g, o, none⟩) n cap) s) : EI.Rd w (.slice (if cap = k then some ⟨g, o, none⟩ else some ⟨g, o + k, none⟩) (n - k) (cap - k)) (s.drop k) := by
  by_cases hc : cap = k
  · rw [if_pos hc]
    rcases h with ⟨h, _⟩ | ⟨g', o', c, h, h1, h2, h3⟩
    · cases h
    · simp only [Value.slice.injEq, Option.some.injEq, Addr.mk.injEq] at h
      obtain ⟨⟨rfl, rfl, _⟩, rfl, rfl⟩ := h
      have e : s.drop k = [] := List.drop_eq_nil_of_le (by omega)
      rw [e]
      exact .inr ⟨g, o, cap - k, by simp; omega, by simp, h2, fun j u hj => by simp [Enc.flat] at hj⟩
  · rw [if_neg hc]
    exact EI_drop h
theorem empty_int (W : World) {n : Nat} (h : n = W.heap.size) : EI.Ow 3 ((W.alloc (.cells #[] 3)).drew) (.slice (some ⟨n, 0, none⟩) 0 0) [] := by
  subst h
  exact .inr ⟨W.heap.size, 0, 0, [], rfl, heap_alloc_new _ _, by simp, by simp, rfl⟩

theorem near_new {W W7 W8 : World} {v7 v8 : Value} {n : Nat} (hn : n = W.heap.size) (h7 : Ext [n] ((W.alloc (.cells #[] 3)).drew) W7) (n7 : Near ((W.alloc (.cells #[] 3)).drew) (.slice (some ⟨n, 0, none⟩) 0 0) v7) (h8 : Ext (blkL v7) W7 W8) (n8 : Near W7 v7 v8) :
    Ext [] W W8 ∧ ∀ g ∈ blkL v8, W.heap.size ≤ g := by
  subst hn
  have hb7 : ∀ g ∈ blkL v7, W.heap.size ≤ g := fun g hg => by
    rcases n7 g hg with h | h
    · simp [blkL] at h; omega
    · have h : W.heap.size + 1 ≤ g := by simpa using h
      omega
  have hE7 : Ext [] W W7 := (((Ext.refl [] W).alloc (.cells #[] 3)).drew).trans' h7 (by simp) (fun y hy => .inr (by simp at hy; omega))
  refine ⟨hE7.trans' h8 (by simp) (fun y hy => .inr (hb7 y hy)), fun g hg => ?_⟩
  rcases n8 g hg with h | h
  · exact hb7 g h
  · have := hE7.size; omega
end Go.Proofs.Ytaknhoplgcnhkaa
