
/- PROVED: for all inputs of bulk at most the bound in Rows (uptoSmall) the call of SpacePlays returns true, does not panic, and its arguments read as before. No further conditions. -/
import Derived.Test.YtaknhoplgcnhkaaRows
import Derived.WalkKit
import Derived.ProofKit
import Derived.OpenShut
import Derived.Carry
import Derived.JoinedCond
import Derived.Test.YtaknhoplgcnhkaaUp
import Derived.Test.YtaknhoplgcnhkaaLwPlays
namespace Go.Proofs.Ytaknhoplgcnhkaa.spacePlays
open Go.ChangeShapes Go.WideShapes Go.ChangeAt Go.RowKit

theorem own : ownKnob Try.prog.godebug = none := by kernel_rfl
theorem laidOut : laidOutB Try.prog = true := by kernel_rfl

set_option maxRecDepth 100000 in
theorem lifted (os : Os) (started : os.Started) (H : Type) (enc : TypeId × Value → H) (F : Stop.Interp) :
    ReturnsInHanded {} Try.checked os 7 .any ((Rows.OpenSpec.upto Rows.spacePlaysSpec).pre6 enc Try.prog Try.f7 Rows.spacePlaysUptoRow.domain false) (((Rows.OpenSpec.upto Rows.spacePlaysSpec).at F).post enc Try.prog Try.f7 false true false false) := by
  refine returnsInHanded_of_cond (C := Try.checked) (s := Rows.OpenSpec.upto Rows.spacePlaysSpec) (k := Rows.uptoSmall) rfl own started (by kernel_rfl) Try.func7
    (OpenSpec.witness (enc := enc) (C := Try.checked) (s := Rows.OpenSpec.upto Rows.spacePlaysSpec) (k := Rows.uptoSmall) rfl false ⟨#[], #[.int .i64 0, .slice none 0 0, .slice none 0 0], []⟩ 8 (by kernel_rfl) (by kernel_rfl) (by kernel_rfl)
      (x := ([.lit (.int .i64 0), .nil, .nil], [], [])) (by kernel_rfl) rfl (by kernel_rfl)) ?_
  intro W base args ds gs before hval0 hW _ hk _
  have hval : ∀ (j : Nat) t v, Try.f7.params[j]? = some t → args[j]? = some v → Value.okWide Try.prog W .any base t v := hval0
  have hW' := hW
  obtain ⟨p, q, hA0, hV, rfl, hfz, hnd⟩ := hW
  have hA : DataW.TrodAll enc Try.prog W 0 (fun _ => true) true Try.f7.params.toList args.toList ds p := hA0
  rw [Try.params7] at hA hval
  obtain ⟨v0, vs0, d0, ds0, p0, q0, hargs, rfl, rfl, h0, r0⟩ := trodAll_cons hA
  obtain ⟨v1, vs1, d1, ds1, p1, q1, rfl, rfl, rfl, h1, r1⟩ := trodAll_cons r0
  obtain ⟨v2, vs2, d2, ds2, p2, q2, rfl, rfl, rfl, h2, r2⟩ := trodAll_cons r1
  obtain ⟨rfl, rfl, rfl⟩ := trodAll_nil r2
  obtain rfl : args = #[v0, v1, v2] := by cases args; simp_all
  obtain ⟨rfl, rfl⟩ := trodVars_none hV
  obtain ⟨a0, rfl, rfl, rfl, w0⟩ := open_int Try.underlying3 (hval 0 3 v0 rfl rfl) h0
  obtain ⟨us1, hg1, hus1⟩ := open_ar ER (fun x => (-9223372036854775808 ≤ x.1 ∧ x.1 ≤ 9223372036854775807) ∧ (-9223372036854775808 ≤ x.2 ∧ x.2 ≤ 9223372036854775807)) (by decide) Try.underlying37 (by kernel_rfl) h1 (hval 1 _ v1 rfl rfl) (fun a n cs x hc ht => by
    obtain ⟨z0, g0, l0, u0⟩ := field_int Try.underlying40 (by kernel_rfl) (by kernel_rfl) hc ht (j := 0) rfl Try.underlying3
    obtain ⟨z1, g1, l1, u1⟩ := field_int Try.underlying40 (by kernel_rfl) (by kernel_rfl) hc ht (j := 1) rfl Try.underlying3
    refine ⟨(z0, z1), ⟨⟨l0, u0⟩, ⟨l1, u1⟩⟩, fun q hq => ?_⟩
    match q, hq with
    | 0, _ => exact g0
    | 1, _ => exact g1)
  obtain ⟨us2, hg2, hus2⟩ := open_ar EO (fun x => (-9223372036854775808 ≤ x.1 ∧ x.1 ≤ 9223372036854775807) ∧ (-9223372036854775808 ≤ x.2.1 ∧ x.2.1 ≤ 9223372036854775807) ∧ (-9223372036854775808 ≤ x.2.2 ∧ x.2.2 ≤ 9223372036854775807)) (by decide) Try.underlying22 (by kernel_rfl) h2 (hval 2 _ v2 rfl rfl) (fun a n cs x hc ht => by
    obtain ⟨z0, g0, l0, u0⟩ := field_int Try.underlying31 (by kernel_rfl) (by kernel_rfl) hc ht (j := 0) rfl Try.underlying3
    obtain ⟨z1, g1, l1, u1⟩ := field_int Try.underlying31 (by kernel_rfl) (by kernel_rfl) hc ht (j := 1) rfl Try.underlying3
    obtain ⟨z2, g2, l2, u2⟩ := field_int Try.underlying31 (by kernel_rfl) (by kernel_rfl) hc ht (j := 2) rfl Try.underlying3
    refine ⟨(z0, z1, z2), ⟨⟨l0, u0⟩, ⟨l1, u1⟩, ⟨l2, u2⟩⟩, fun q hq => ?_⟩
    match q, hq with
    | 0, _ => exact g0
    | 1, _ => exact g1
    | 2, _ => exact g2)
  have hbulk := of_decide_eq_true hk
  simp only [List.append_nil, Rows.uptoBulkAll] at hbulk
  have hl1 : us1.length ≤ 1048576 := by
    obtain ⟨_, _, e, _⟩ := hus1
    subst e
    have := trod_bulk Try.underlying37 h1
    omega
  have hl2 : us2.length ≤ 1048576 := by
    obtain ⟨_, _, e, _⟩ := hus2
    subst e
    have := trod_bulk Try.underlying22 h2
    omega
  clear hA0 hval0
  have hlt := hW'.lt
  simp only [List.append_nil, List.nil_append] at hW' hlt
  refine (plays_walk a0 (wf_i64 w0) v1 us1 v2 us2 W hus1 hl1 hg1 hus2 hl2 hg2).mono fun e W' ⟨he, hg⟩ => ?_
  subst he
  have harg1 : DataW.Trod enc Try.prog W' 0 (fun b => decide (b < W.heap.size)) true 37 v1 d1 p1 :=
    Below.trod laidOut (by kernel_rfl) (of_decide_eq_true (by kernel_rfl)) h1 hg.toBelow (fun x hx => by simpa using hlt x (by simp [hx]))
  have harg2 : DataW.Trod enc Try.prog W' 0 (fun b => decide (b < W.heap.size)) true 22 v2 d2 p2 :=
    Below.trod laidOut (by kernel_rfl) (of_decide_eq_true (by kernel_rfl)) h2 hg.toBelow (fun x hx => by simpa using hlt x (by simp [hx]))
  have hargs' := trodAll_cons_mk (shut_int (w := W') (enc := enc) (base := 0) (spare := fun b => decide (b < W.heap.size)) (held := true) Try.underlying3 w0) (trodAll_cons_mk harg1 (trodAll_cons_mk harg2 trodAll_mk0))
  simp only [List.append_nil, List.nil_append] at hargs'
  refine ⟨_, rfl, _, _, _, [], _, [], hW', ?_, hargs', rfl, hg.toBelow.frame _, fun h => by cases h⟩
  exact trodAll_cons_mk (shut_bool Try.underlying4 _) trodAll_mk0

theorem proved : Rows.SpacePlaysUptoSaid :=
  OpenClaim.holds_of_cond 7 Try.f7 rfl rfl rfl rfl rfl rfl rfl ⟨rfl, rfl, rfl, rfl, rfl⟩ rfl rfl rfl rfl rfl (by kernel_rfl) Try.func7 (by kernel_rfl)
    (of_decide_eq_true (by kernel_rfl)) (by unfold Func.isWrapper; first | (rw [if_pos (by decide +kernel)]; kernel_rfl) | (rw [if_neg (by decide +kernel)]; exact ⟨rfl, rfl⟩))
    (fun os started H enc _ F => lifted os started H enc F)
end Go.Proofs.Ytaknhoplgcnhkaa.spacePlays
namespace Go.Proofs.Ytaknhoplgcnhkaa
theorem spacePlays_holds : Rows.SpacePlaysUptoSaid := spacePlays.proved
#print axioms spacePlays_holds
end Go.Proofs.Ytaknhoplgcnhkaa
