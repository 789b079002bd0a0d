
import Derived.Test.YtaknhoplgcnhkaaRows
import Derived.Deep.Slices
namespace Go.Proofs.Ytaknhoplgcnhkaa
open Go.ChangeShapes Go.WideShapes Go.Deep

theorem bulk_one {H : Type} (d : DataW H) : 1 ≤ Rows.uptoBulk d := by
  cases d with
  | lit l => cases l <;> simp [Rows.uptoBulk]
  | nil => simp [Rows.uptoBulk]
  | ptr d => simp [Rows.uptoBulk]
  | slice elems spare => simp [Rows.uptoBulk]
  | agg parts => simp [Rows.uptoBulk]
  | iface t d => simp [Rows.uptoBulk]
  | map entries => simp [Rows.uptoBulk]
  | held h => simp [Rows.uptoBulk]

theorem bulk_length {H : Type} (l : List (DataW H)) : l.length ≤ Rows.uptoBulkAll l := by
  induction l with
  | nil => simp
  | cons x r ih => have := bulk_one x; simp only [Rows.uptoBulkAll, List.length_cons]; omega

/-- a slice that is read has no more elements than its bulk. -/
theorem trod_bulk {H : Type} {enc : TypeId × Value → H} {P : Program} {w : World} {base : Nat} {spare : Nat → Bool} {held : Bool} {t e : TypeId} {p : Option Addr} {n cap : Nat} {d : DataW H} {ps : List MemPlace}
    (ht : P.underlying t = some (.slice e)) (h : DataW.Trod enc P w base spare held t (.slice p n cap) d ps) : n ≤ Rows.uptoBulk d := by
  obtain ⟨fuel, hf⟩ := h
  rcases open_slice ht hf with ⟨h0, h1⟩ | ⟨a, len, cap', m, k, D, Pl, hcs, _, _, _, _, hx, _⟩
  · have h2 : (Value.slice p n cap) = .slice none 0 0 := by simpa [Value.cells] using h0
    cases h2
    exact Nat.zero_le _
  · have h2 : (Value.slice p n cap) = .slice (some a) len cap' := by simpa [Value.cells] using hcs
    cases h2
    have h3 : d = .slice ((List.range n).map D) ((List.range (m - n)).map fun j => D (n + j)) := by simpa using congrArg Prod.fst hx
    rw [h3]
    have h4 := bulk_length ((List.range n).map D)
    simp only [Rows.uptoBulk]
    simp at h4
    omega

theorem wf_i64 {a : Int} (h : (Lit.int .i64 a).wf = true) : -9223372036854775808 ≤ a ∧ a ≤ 9223372036854775807 := by
  simp only [Lit.wf, IntKind.min, IntKind.max, IntKind.signed, IntKind.bits, Bool.and_eq_true, decide_eq_true_eq, if_true] at h
  omega
end Go.Proofs.Ytaknhoplgcnhkaa
