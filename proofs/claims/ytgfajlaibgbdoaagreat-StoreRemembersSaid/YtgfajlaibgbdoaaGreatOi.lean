
import Derived.Test.YtgfajlaibgbdoaaGreatOp
namespace Go.Proofs.YtgfajlaibgbdoaaGreat
open Go.RowKit Go.ChangeShapes Go.WideShapes Go.Deep

section
variable {H : Type} {enc : TypeId × Value → H} {P : Program} {w : World} {base : Nat} {spare : Nat → Bool} {held : Bool}
/-- an element that is a number. -/
theorem elem_int {e : TypeId} {n : Nat} {cs : List Value} {x : DataW H × List MemPlace} {a : Addr} (hone : P.cellsOf e = 1) (hc : w.cells? base a (P.cellsOf e) = some cs) (h : DataW.trod enc P w base spare held n e cs = some x) (hi : P.underlying e = some (.int .i64)) :
    ∃ z, w.cell? (a.add 0) = some (.int .i64 z) ∧ -9223372036854775808 ≤ z ∧ z ≤ 9223372036854775807 := by
  obtain ⟨z, h3, _, h4⟩ := DataW.trod_int hi h
  subst h3
  obtain ⟨_, hcl, hat⟩ := World.cells?_some hc
  refine ⟨z, ?_, ?_⟩
  · have := hat 0 (by rw [hone]; omega)
    simpa using this
  · simp only [Lit.wf, IntKind.min, IntKind.max, IntKind.signed, IntKind.bits, Bool.and_eq_true, decide_eq_true_eq, if_true] at h4
    omega
/-- an element that is a truth value. -/
theorem elem_bool {e : TypeId} {n : Nat} {cs : List Value} {x : DataW H × List MemPlace} {a : Addr} (hone : P.cellsOf e = 1) (hc : w.cells? base a (P.cellsOf e) = some cs) (h : DataW.trod enc P w base spare held n e cs = some x) (hi : P.underlying e = some .bool) :
    ∃ z, w.cell? (a.add 0) = some (.bool z) := by
  obtain ⟨z, h3, _⟩ := DataW.trod_bool hi h
  subst h3
  obtain ⟨_, hcl, hat⟩ := World.cells?_some hc
  refine ⟨z, ?_⟩
  have := hat 0 (by rw [hone]; omega)
  simpa using this
end
end Go.Proofs.YtgfajlaibgbdoaaGreat
