
/- PROVED: for all inputs the call of SpaceWhole returns true, does not panic, and its arguments read as before. No further conditions. -/
import Derived.Test.YtaknhoplgcnhkaaRows
import Derived.WalkKit
import Derived.ProofKit
import Derived.OpenShut
import Derived.Carry
import Derived.Test.YtaknhoplgcnhkaaOi
import Derived.Test.YtaknhoplgcnhkaaLwWhole
namespace Go.Proofs.Ytaknhoplgcnhkaa.spaceWhole
open Go.ChangeShapes Go.WideShapes Go.ChangeAt Go.RowKit

theorem own : ownKnob Try.prog.godebug = none := by kernel_rfl
theorem laidOut : laidOutB Try.prog = true := by kernel_rfl

set_option maxRecDepth 100000 in
theorem lifted (os : Os) (started : os.Started) (H : Type) (enc : TypeId × Value → H) :
    ReturnsInHanded {} Try.checked os 5 .any (Rows.spaceWholeSpec.pre6 enc Try.prog Try.f5 Rows.spaceWholeRow.domain false) (Rows.spaceWholeSpec.post enc Try.prog Try.f5 false true false false) := by
  refine returnsInHanded_of_change (C := Try.checked) own started (by kernel_rfl) Try.func5
    (ChangeSpec.witness6 (enc := enc) (C := Try.checked) false ⟨#[], #[.int .i64 0, .slice none 0 0, .slice none 0 0], []⟩ 8 (by kernel_rfl) (by kernel_rfl) (by kernel_rfl) (by kernel_rfl)) ?_
  intro W base args ds gs before hval0 hW hcnd _
  have hval : ∀ (j : Nat) t v, Try.f5.params[j]? = some t → args[j]? = some v → Value.okWide Try.prog W .any base t v := hval0
  have hW' := hW
  obtain ⟨p, q, hA0, hV, rfl, hfz, hnd⟩ := hW
  have hA : DataW.TrodAll enc Try.prog W 0 (fun _ => true) true Try.f5.params.toList args.toList ds p := hA0
  rw [Try.params5] at hA hval
  obtain ⟨v0, vs0, d0, ds0, p0, q0, hargs, rfl, rfl, h0, r0⟩ := trodAll_cons hA
  obtain ⟨v1, vs1, d1, ds1, p1, q1, rfl, rfl, rfl, h1, r1⟩ := trodAll_cons r0
  obtain ⟨v2, vs2, d2, ds2, p2, q2, rfl, rfl, rfl, h2, r2⟩ := trodAll_cons r1
  obtain ⟨rfl, rfl, rfl⟩ := trodAll_nil r2
  obtain rfl : args = #[v0, v1, v2] := by cases args; simp_all
  obtain ⟨rfl, rfl⟩ := trodVars_none hV
  obtain ⟨a0, rfl, rfl, rfl, w0⟩ := open_int Try.underlying3 (hval 0 3 v0 rfl rfl) h0
  obtain ⟨us1, hg1, hus1⟩ := open_ar EI (fun x => -9223372036854775808 ≤ x ∧ x ≤ 9223372036854775807) (by decide) Try.underlying29 (by kernel_rfl) h1 (hval 1 _ v1 rfl rfl) (fun a n cs x hc ht => by
    obtain ⟨z0, g0, l0, u0⟩ := elem_int (by kernel_rfl) hc ht Try.underlying3
    refine ⟨z0, ⟨l0, u0⟩, fun q hq => ?_⟩
    match q, hq with
    | 0, _ => exact g0)
  obtain ⟨us2, hg2, hus2⟩ := open_ar EI (fun x => -9223372036854775808 ≤ x ∧ x ≤ 9223372036854775807) (by decide) Try.underlying29 (by kernel_rfl) h2 (hval 2 _ v2 rfl rfl) (fun a n cs x hc ht => by
    obtain ⟨z0, g0, l0, u0⟩ := elem_int (by kernel_rfl) hc ht Try.underlying3
    refine ⟨z0, ⟨l0, u0⟩, fun q hq => ?_⟩
    match q, hq with
    | 0, _ => exact g0)
  clear hA0 hval0
  have hlt := hW'.lt
  simp only [List.append_nil, List.nil_append] at hW' hlt
  refine (whole_walk a0 v1 us1 v2 us2 W hus1 hus2).mono fun e W' ⟨he, hg⟩ => ?_
  subst he
  have harg1 : DataW.Trod enc Try.prog W' 0 (fun b => decide (b < W.heap.size)) true 29 v1 d1 p1 :=
    Below.trod laidOut (by kernel_rfl) (of_decide_eq_true (by kernel_rfl)) h1 hg.toBelow (fun x hx => by simpa using hlt x (by simp [hx]))
  have harg2 : DataW.Trod enc Try.prog W' 0 (fun b => decide (b < W.heap.size)) true 29 v2 d2 p2 :=
    Below.trod laidOut (by kernel_rfl) (of_decide_eq_true (by kernel_rfl)) h2 hg.toBelow (fun x hx => by simpa using hlt x (by simp [hx]))
  have hargs' := trodAll_cons_mk (shut_int (w := W') (enc := enc) (base := 0) (spare := fun b => decide (b < W.heap.size)) (held := true) Try.underlying3 w0) (trodAll_cons_mk harg1 (trodAll_cons_mk harg2 trodAll_mk0))
  simp only [List.append_nil, List.nil_append] at hargs'
  refine ⟨_, rfl, _, _, _, [], _, [], hW', ?_, hargs', rfl, hg.toBelow.frame _, fun h => by cases h⟩
  exact trodAll_cons_mk (shut_bool Try.underlying4 _) trodAll_mk0

theorem proved : Rows.SpaceWholeSaid :=
  OpenClaim.holds_of_wide 5 Try.f5 rfl rfl rfl rfl rfl rfl rfl ⟨rfl, rfl, rfl, rfl, rfl⟩ rfl rfl rfl rfl rfl (by kernel_rfl) Try.func5 (by kernel_rfl)
    (of_decide_eq_true (by kernel_rfl)) (by unfold Func.isWrapper; first | (rw [if_pos (by decide +kernel)]; kernel_rfl) | (rw [if_neg (by decide +kernel)]; exact ⟨rfl, rfl⟩))
    (fun os started H enc _ => lifted os started H enc)
end Go.Proofs.Ytaknhoplgcnhkaa.spaceWhole
namespace Go.Proofs.Ytaknhoplgcnhkaa
theorem spaceWhole_holds : Rows.SpaceWholeSaid := spaceWhole.proved
#print axioms spaceWhole_holds
end Go.Proofs.Ytaknhoplgcnhkaa
