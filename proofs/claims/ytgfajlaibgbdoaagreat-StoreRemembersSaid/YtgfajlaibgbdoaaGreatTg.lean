
import Derived.Test.YtgfajlaibgbdoaaGreatLb
namespace Go.Proofs.YtgfajlaibgbdoaaGreat
open Go.RowKit

/-! A frame by types: what is changed lies in the blocks of a list, or in blocks of some types. -/
def tagOf (w : World) (y : Nat) : Option TypeId := match w.heap[y]? with
  | some (.cells _ T _) => some T
  | _ => none
theorem tagOf_of {w : World} {y : Nat} {c : Array Value} {T : TypeId} {x : Nat × Nat} (h : w.heap[y]? = some (.cells c T x)) : tagOf w y = some T := by simp [tagOf, h]

def ExtT (bs : List Nat) (Ts : List TypeId) (w w' : World) : Prop := ∃ S, Ext S w w' ∧ ∀ y ∈ S, y ∈ bs ∨ ∃ T ∈ Ts, tagOf w y = some T ∧ ∃ b ∈ bs, b ≤ y

theorem ExtT.of {S bs : List Nat} {Ts : List TypeId} {w w' : World} (h : Ext S w w') (hs : ∀ y ∈ S, y ∈ bs ∨ (∃ T ∈ Ts, tagOf w y = some T ∧ ∃ b ∈ bs, b ≤ y) ∨ w.heap.size ≤ y) : ExtT bs Ts w w' := by
  refine ⟨S.filter (fun y => decide (y < w.heap.size)), h.mono (fun x hx => ?_), fun y hy => ?_⟩
  · by_cases hl : x < w.heap.size
    · exact .inl (by simp [hx, hl])
    · exact .inr (by omega)
  · simp at hy
    rcases hs y hy.1 with h | h | h
    · exact .inl h
    · exact .inr h
    · omega
theorem ExtT.of0 {bs : List Nat} {Ts : List TypeId} {w w' : World} (h : Ext [] w w') : ExtT bs Ts w w' := ⟨[], h, by simp⟩
theorem ExtT.refl (bs : List Nat) (Ts : List TypeId) (w : World) : ExtT bs Ts w w := .of0 (Ext.refl _ _)
theorem ExtT.size {bs : List Nat} {Ts : List TypeId} {w w' : World} (h : ExtT bs Ts w w') : w.heap.size ≤ w'.heap.size := by obtain ⟨S, h, _⟩ := h; exact h.size

theorem ExtT.trans' {bs bs' bs'' : List Nat} {Ts Ts' Ts'' : List TypeId} {a b c : World} (h : ExtT bs Ts a b) (k : ExtT bs' Ts' b c) (h1 : ∀ x ∈ bs, x ∈ bs'' ∨ a.heap.size ≤ x) (h2 : ∀ x ∈ bs', x ∈ bs'' ∨ a.heap.size ≤ x) (t1 : ∀ T ∈ Ts, T ∈ Ts'') (t2 : ∀ T ∈ Ts', T ∈ Ts'') : ExtT bs'' Ts'' a c := by
  obtain ⟨S, hS, hs⟩ := h
  obtain ⟨S', hS', hs'⟩ := k
  refine .of (S := S ++ S') (hS.trans' hS' (fun x hx => .inl (by simp [hx])) (fun x hx => .inl (by simp [hx]))) (fun y hy => ?_)
  have up1 : (∃ b ∈ bs, b ≤ y) → (∃ b ∈ bs'', b ≤ y) ∨ a.heap.size ≤ y := fun ⟨b, hb, hby⟩ => by
    rcases h1 b hb with h | h
    · exact .inl ⟨b, h, hby⟩
    · exact .inr (by omega)
  have up2 : (∃ b ∈ bs', b ≤ y) → (∃ b ∈ bs'', b ≤ y) ∨ a.heap.size ≤ y := fun ⟨b, hb, hby⟩ => by
    rcases h2 b hb with h | h
    · exact .inl ⟨b, h, hby⟩
    · exact .inr (by omega)
  by_cases hin : y ∈ S
  · rcases hs y hin with h | ⟨T, h, h', h''⟩
    · rcases h1 y h with h | h
      · exact .inl h
      · exact .inr (.inr h)
    · rcases up1 h'' with h3 | h3
      · exact .inr (.inl ⟨T, t1 T h, h', h3⟩)
      · exact .inr (.inr h3)
  · have hy' : y ∈ S' := by simpa [hin] using hy
    rcases hs' y hy' with h | ⟨T, h, h', h''⟩
    · rcases h2 y h with h | h
      · exact .inl h
      · exact .inr (.inr h)
    · by_cases hl : y < a.heap.size
      · rcases up2 h'' with h3 | h3
        · refine .inr (.inl ⟨T, t2 T h, ?_, h3⟩)
          rw [tagOf] at h' ⊢
          rwa [hS.block y hl hin] at h'
        · omega
      · exact .inr (.inr (by omega))
theorem ExtT.trans {bs : List Nat} {Ts : List TypeId} {a b c : World} (h : ExtT bs Ts a b) (k : ExtT bs Ts b c) : ExtT bs Ts a c := h.trans' k (fun _ h => .inl h) (fun _ h => .inl h) (fun _ h => h) (fun _ h => h)
theorem ExtT.mono {bs bs' : List Nat} {Ts Ts' : List TypeId} {a b : World} (h : ExtT bs Ts a b) (hs : ∀ x ∈ bs, x ∈ bs' ∨ a.heap.size ≤ x) (ht : ∀ T ∈ Ts, T ∈ Ts') : ExtT bs' Ts' a b :=
  h.trans' (ExtT.refl [] [] b) hs (by simp) ht (by simp)
theorem ExtT.andThen {bs : List Nat} {Ts : List TypeId} {a b c : World} (h : ExtT bs Ts a b) (k : Ext [] b c) : ExtT bs Ts a c := h.trans (.of0 k)
theorem ExtT.blk {bs : List Nat} {Ts : List TypeId} {w w' : World} (h : ExtT bs Ts w w') {g : Nat} {c : Array Value} {T : TypeId} {x : Nat × Nat} (hg : w.heap[g]? = some (.cells c T x)) (hn : g ∉ bs) (hT : T ∉ Ts) : w'.heap[g]? = some (.cells c T x) := by
  obtain ⟨S, hS, hs⟩ := h
  refine hS.blk hg (fun hy => ?_)
  rcases hs g hy with h | ⟨T', h, h', _⟩
  · exact hn h
  · rw [tagOf_of hg] at h'
    cases h'
    exact hT h
theorem Enc.Ow.extT {α : Type} {E : Enc α} {T : TypeId} {w w' : World} {v : Value} {xs : List α} {bs : List Nat} {Ts : List TypeId} (h : E.Ow T w v xs) (he : ExtT bs Ts w w') (hn : ∀ g ∈ blkL v, g ∉ bs) (hT : T ∉ Ts) : E.Ow T w' v xs := by
  obtain ⟨S, hS, hs⟩ := he
  refine h.ext hS (fun y hy hy2 => ?_)
  obtain ⟨c, hc⟩ := h.tag y hy
  rcases hs y hy2 with h | ⟨T', h, h', _⟩
  · exact hn y hy h
  · rw [tagOf_of hc] at h'
    cases h'
    exact hT h

/-- what is changed lies above a bound. -/
theorem ExtT.above {bs : List Nat} {Ts : List TypeId} {w0 w w' : World} (h0 : Ext [] w0 w) (h : ExtT bs Ts w w') (hb : ∀ b ∈ bs, w0.heap.size ≤ b) : Ext [] w0 w' := by
  obtain ⟨S, hS, hs⟩ := h
  refine h0.trans' hS (by simp) (fun y hy => .inr ?_)
  rcases hs y hy with h | ⟨T, _, _, b, h1, h2⟩
  · exact hb y h
  · exact Nat.le_trans (hb b h1) h2

end Go.Proofs.YtgfajlaibgbdoaaGreat
