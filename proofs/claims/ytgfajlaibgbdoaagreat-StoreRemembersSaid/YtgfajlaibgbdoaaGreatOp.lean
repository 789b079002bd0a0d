
import Derived.Deep.Slices
import Derived.Deep.Fields
import Derived.ChangeSame
import Derived.Test.YtgfajlaibgbdoaaGreatLb
namespace Go.Proofs.YtgfajlaibgbdoaaGreat
open Go.RowKit Go.ChangeShapes Go.WideShapes Go.Deep

/-- an argument that is a slice: it reads as a list. -/
def AR {α : Type} (E : Enc α) (w : World) (v : Value) (xs : List α) : Prop := ∃ p cap, v = .slice p xs.length cap ∧ (xs ≠ [] → E.Rd w v xs)

theorem AR.ext0 {α : Type} {E : Enc α} {w w' : World} {v : Value} {xs : List α} (h : AR E w v xs) (he : Ext [] w w') : AR E w' v xs := by
  obtain ⟨p, cap, h1, h2⟩ := h
  exact ⟨p, cap, h1, fun h => (h2 h).ext0 he⟩

theorem choose_list {α : Type} (p : Nat → α → Prop) : ∀ n : Nat, (∀ i < n, ∃ x, p i x) → ∃ xs : List α, xs.length = n ∧ ∀ i x, xs[i]? = some x → p i x
  | 0, _ => ⟨[], rfl, by simp⟩
  | n + 1, h => by
    obtain ⟨xs, h1, h2⟩ := choose_list p n (fun i hi => h i (by omega))
    obtain ⟨y, hy⟩ := h n (by omega)
    refine ⟨xs ++ [y], by simp [h1], fun i x hx => ?_⟩
    rcases Nat.lt_trichotomy i n with h3 | h3 | h3
    · rw [List.getElem?_append_left (by omega)] at hx; exact h2 i x hx
    · subst h3
      rw [List.getElem?_append_right (by omega), h1, Nat.sub_self] at hx
      simp at hx; subst hx; exact hy
    · rw [List.getElem?_eq_none (by simp; omega)] at hx; cases hx

theorem ar_of {α : Type} {E : Enc α} {w : World} {a : Addr} {len cap : Nat} (good : α → Prop) (hk : 0 < E.k) (hl : len ≤ cap)
    (h : ∀ i < len, ∃ x : α, good x ∧ ∀ r < E.k, w.cell? (a.add (i * E.k + r)) = (E.enc x)[r]?) : ∃ xs : List α, (∀ x ∈ xs, good x) ∧ AR E w (.slice (some a) len cap) xs := by
  obtain ⟨xs, h1, h2⟩ := choose_list _ len h
  subst h1
  refine ⟨xs, fun x hx => ?_, ⟨_, cap, rfl, fun hne => ?_⟩⟩
  · obtain ⟨i, hi, rfl⟩ := List.getElem_of_mem hx
    exact (h2 i _ (List.getElem?_eq_getElem hi)).1
  · have hpos : 0 < xs.length := List.length_pos_iff.2 hne
    have h3 := (h2 0 _ (List.getElem?_eq_getElem hpos)).2 0 hk
    have h4 : w.cell? a = some ((E.enc xs[0])[0]'(by rw [E.len]; exact hk)) := by
      have e : a.add (0 * E.k + 0) = a := by simp [Addr.add]
      rw [e, List.getElem?_eq_getElem (by rw [E.len]; exact hk)] at h3
      exact h3
    obtain ⟨g, o, sp⟩ := a
    have hsp : sp = none := World.cell?_spot h4
    subst hsp
    refine .inr ⟨g, o, cap, rfl, hl, ?_, fun j u hj => ?_⟩
    · rcases Nat.lt_or_ge g w.heap.size with h | h
      · exact h
      · simp [World.cell?, Array.getElem?_eq_none h] at h4
    · have hjl : j < xs.length * E.k := by have := (List.getElem?_eq_some_iff.1 hj).1; rwa [E.length_flat] at this
      have hr : j % E.k < E.k := Nat.mod_lt _ hk
      have hq : j / E.k < xs.length := (Nat.div_lt_iff_lt_mul hk).2 hjl
      have ej : j = j / E.k * E.k + j % E.k := by rw [Nat.mul_comm]; exact (Nat.div_add_mod j E.k).symm
      have h5 := (h2 (j / E.k) _ (List.getElem?_eq_getElem hq)).2 (j % E.k) hr
      rw [← ej] at h5
      have e2 : (⟨g, o, none⟩ : Addr).add j = ⟨g, o + j, none⟩ := by
        simp only [Addr.add]
        split
        · rename_i h; subst h; rfl
        · rfl
      rw [e2] at h5
      rw [h5]
      rw [ej, E.flat_get xs _ _ hr, List.getElem?_eq_getElem hq] at hj
      simpa using hj

section
variable {H : Type} {enc : TypeId × Value → H} {P : Program} {w : World} {base : Nat} {spare : Nat → Bool} {held : Bool}

/-- a struct of fields of one cell: each field reads. -/
theorem field_reads {e : TypeId} {fs : Array Field} {n : Nat} {cs : List Value} {x : DataW H × List MemPlace} {a : Addr} (he : P.underlying e = some (.struct fs)) (hone : oneCellFields P fs = true)
    (hC : P.cellsOf e = fs.size) (hc : w.cells? base a (P.cellsOf e) = some cs) (h : DataW.trod enc P w base spare held n e cs = some x) {j : Nat} {f : Field} (hj : fs[j]? = some f) :
    ∃ v y m, w.cell? (a.add j) = some v ∧ DataW.trod enc P w base spare held m f.type [v] = some y := by
  obtain ⟨ys, m, _, _, _, hyl, hf⟩ := DataW.trod_struct he h
  obtain ⟨_, hcl, hat⟩ := World.cells?_some hc
  obtain ⟨ho, hk⟩ := hone_of hone j f hj
  have hjl : j < fs.size := (Array.getElem?_eq_some_iff.1 hj).1
  have hjc : j < cs.length := by omega
  have h1 := hf j f hj
  have hd : (cs.drop j).take 1 = [cs[j]] := by rw [List.drop_eq_getElem_cons hjc]; rfl
  rw [ho, hk, hd, List.getElem?_eq_getElem (by omega)] at h1
  exact ⟨_, _, m, by rw [hat j (by omega), List.getElem?_eq_getElem hjc], h1⟩

theorem field_int {e : TypeId} {fs : Array Field} {n : Nat} {cs : List Value} {x : DataW H × List MemPlace} {a : Addr} (he : P.underlying e = some (.struct fs)) (hone : oneCellFields P fs = true)
    (hC : P.cellsOf e = fs.size) (hc : w.cells? base a (P.cellsOf e) = some cs) (h : DataW.trod enc P w base spare held n e cs = some x) {j : Nat} {f : Field} (hj : fs[j]? = some f) (hi : P.underlying f.type = some (.int .i64)) :
    ∃ z, w.cell? (a.add j) = some (.int .i64 z) ∧ -9223372036854775808 ≤ z ∧ z ≤ 9223372036854775807 := by
  obtain ⟨v, y, m, h1, h2⟩ := field_reads he hone hC hc h hj
  obtain ⟨z, h3, _, h4⟩ := DataW.trod_int hi h2
  obtain rfl : v = .int .i64 z := by simpa using h3
  refine ⟨z, h1, ?_⟩
  simp only [Lit.wf, IntKind.min, IntKind.max, IntKind.signed, IntKind.bits, Bool.and_eq_true, decide_eq_true_eq, if_true] at h4
  omega

theorem field_bool {e : TypeId} {fs : Array Field} {n : Nat} {cs : List Value} {x : DataW H × List MemPlace} {a : Addr} (he : P.underlying e = some (.struct fs)) (hone : oneCellFields P fs = true)
    (hC : P.cellsOf e = fs.size) (hc : w.cells? base a (P.cellsOf e) = some cs) (h : DataW.trod enc P w base spare held n e cs = some x) {j : Nat} {f : Field} (hj : fs[j]? = some f) (hi : P.underlying f.type = some .bool) :
    ∃ z, w.cell? (a.add j) = some (.bool z) := by
  obtain ⟨v, y, m, h1, h2⟩ := field_reads he hone hC hc h hj
  obtain ⟨z, h3, _⟩ := DataW.trod_bool hi h2
  obtain rfl : v = .bool z := by simpa using h3
  exact ⟨z, h1⟩

/-- an argument that is a slice of structs. -/
theorem open_ar {α : Type} (E : Enc α) (good : α → Prop) {t e : TypeId} {v : Value} {d : DataW H} {ps : List MemPlace} (hk : 0 < E.k) (ht : P.underlying t = some (.slice e)) (hC : P.cellsOf e = E.k)
    (h : DataW.Trod enc P w base spare held t v d ps) {r : Reach} {b0 : Nat} (hv : Value.okWide P w r b0 t v)
    (hel : ∀ (a : Addr) (n : Nat) (cs : List Value) (x : DataW H × List MemPlace), w.cells? base a (P.cellsOf e) = some cs → DataW.trod enc P w base spare held n e cs = some x → ∃ y : α, good y ∧ ∀ q < E.k, w.cell? (a.add q) = (E.enc y)[q]?) :
    ∃ xs : List α, (∀ x ∈ xs, good x) ∧ AR E w v xs := by
  obtain ⟨p, len, cap, rfl⟩ := okWide_slice ht hv
  obtain ⟨fuel, hf⟩ := h
  rcases open_slice ht hf with ⟨h0, _⟩ | ⟨a, len', cap', m, n, D, Pl, hcs, hb, hl, hm, hmm, hx, hi⟩
  · have h1 : (Value.slice p len cap) = .slice none 0 0 := by simpa [Value.cells] using h0
    cases h1
    exact ⟨[], by simp, none, 0, rfl, fun h => (h rfl).elim⟩
  · have h1 : (Value.slice p len cap) = .slice (some a) len' cap' := by simpa [Value.cells] using hcs
    cases h1
    refine ar_of good hk hl (fun i hil => ?_)
    obtain ⟨cs, hc, htr⟩ := hi i (by rw [hmm]; split <;> omega)
    rw [hC] at hc
    obtain ⟨y, hy, hcell⟩ := hel _ n cs _ (by rw [hC]; exact hc) htr
    refine ⟨y, hy, fun q hq => ?_⟩
    rw [← hcell q hq, add_add]
end

end Go.Proofs.YtgfajlaibgbdoaaGreat
