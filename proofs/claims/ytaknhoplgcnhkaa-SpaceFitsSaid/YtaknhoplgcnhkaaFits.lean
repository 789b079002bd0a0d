
/- PROVED: for all cells, used ranges and n the call of SpaceFits returns true, does not panic, and its arguments read as before. No conditions. -/
import Derived.Test.YtaknhoplgcnhkaaRows
import Derived.WalkKit
import Derived.ProofKit
import Derived.OpenShut
import Derived.Carry
import Derived.Test.YtaknhoplgcnhkaaLwFits
namespace Go.Proofs.Ytaknhoplgcnhkaa.spaceFits
open Go.ChangeShapes Go.WideShapes Go.ChangeAt Go.RowKit

theorem own : ownKnob Try.prog.godebug = none := by kernel_rfl
theorem laidOut : laidOutB Try.prog = true := by kernel_rfl

set_option maxRecDepth 100000 in
theorem lifted (os : Os) (started : os.Started) (H : Type) (enc : TypeId × Value → H) :
    ReturnsInHanded {} Try.checked os 4 .any (Rows.spaceFitsSpec.pre6 enc Try.prog Try.f4 Rows.spaceFitsRow.domain false) (Rows.spaceFitsSpec.post enc Try.prog Try.f4 false true false false) := by
  refine returnsInHanded_of_change (C := Try.checked) own started (by kernel_rfl) Try.func4
    (ChangeSpec.witness6 (enc := enc) (C := Try.checked) false ⟨#[], #[.int .i64 0, .slice none 0 0, .int .i64 0], []⟩ 8 (by kernel_rfl) (by kernel_rfl) (by kernel_rfl) (by kernel_rfl)) ?_
  intro W base args ds gs before hval0 hW hcnd _
  have hval : ∀ (j : Nat) t v, Try.f4.params[j]? = some t → args[j]? = some v → Value.okWide Try.prog W .any base t v := hval0
  have hW' := hW
  obtain ⟨p, q, hA0, hV, rfl, hfz, hnd⟩ := hW
  have hA : DataW.TrodAll enc Try.prog W 0 (fun _ => true) true Try.f4.params.toList args.toList ds p := hA0
  rw [Try.params4] at hA hval
  obtain ⟨v0, vs0, d0, ds0, p0, q0, hargs, rfl, rfl, h0, r0⟩ := trodAll_cons hA
  obtain ⟨v1, vs1, d1, ds1, p1, q1, rfl, rfl, rfl, h1, r1⟩ := trodAll_cons r0
  obtain ⟨v2, vs2, d2, ds2, p2, q2, rfl, rfl, rfl, h2, r2⟩ := trodAll_cons r1
  obtain ⟨rfl, rfl, rfl⟩ := trodAll_nil r2
  obtain rfl : args = #[v0, v1, v2] := by cases args; simp_all
  obtain ⟨rfl, rfl⟩ := trodVars_none hV
  obtain ⟨a0, rfl, rfl, rfl, w0⟩ := open_int Try.underlying3 (hval 0 3 v0 rfl rfl) h0
  obtain ⟨us, _, hus⟩ := open_ar ER (fun _ => True) (by decide) Try.underlying37 (by kernel_rfl) h1 (hval 1 _ v1 rfl rfl) (fun a n cs x hc ht => by
    obtain ⟨z0, g0, _⟩ := field_int Try.underlying40 (by kernel_rfl) (by kernel_rfl) hc ht (j := 0) rfl Try.underlying3
    obtain ⟨z1, g1, _⟩ := field_int Try.underlying40 (by kernel_rfl) (by kernel_rfl) hc ht (j := 1) rfl Try.underlying3
    refine ⟨(z0, z1), trivial, fun q hq => ?_⟩
    match q, hq with
    | 0, _ => exact g0
    | 1, _ => exact g1)
  obtain ⟨a2, rfl, rfl, rfl, w2⟩ := open_int Try.underlying3 (hval 2 3 v2 rfl rfl) h2
  clear hA0 hval0
  have hlt := hW'.lt
  simp only [List.append_nil, List.nil_append] at hW' hlt
  refine (fits_walk a0 a2 v1 us W hus).mono fun e W' ⟨he, hg⟩ => ?_
  subst he
  have harg1 : DataW.Trod enc Try.prog W' 0 (fun b => decide (b < W.heap.size)) true 37 v1 d1 p1 :=
    Below.trod laidOut (by kernel_rfl) (of_decide_eq_true (by kernel_rfl)) h1 hg.toBelow (fun x hx => by simpa using hlt x hx)
  have hargs' := trodAll_cons_mk (shut_int (w := W') (enc := enc) (base := 0) (spare := fun b => decide (b < W.heap.size)) (held := true) Try.underlying3 w0) (trodAll_cons_mk harg1 (trodAll_cons_mk (shut_int Try.underlying3 w2) trodAll_mk0))
  refine ⟨_, rfl, _, _, _, [], _, [], hW', ?_, hargs', rfl, hg.toBelow.frame _, fun h => by cases h⟩
  exact trodAll_cons_mk (shut_bool Try.underlying4 _) trodAll_mk0

theorem proved : Rows.SpaceFitsSaid :=
  OpenClaim.holds_of_wide 4 Try.f4 rfl rfl rfl rfl rfl rfl rfl ⟨rfl, rfl, rfl, rfl, rfl⟩ rfl rfl rfl rfl rfl (by kernel_rfl) Try.func4 (by kernel_rfl)
    (of_decide_eq_true (by kernel_rfl)) (by unfold Func.isWrapper; first | (rw [if_pos (by decide +kernel)]; kernel_rfl) | (rw [if_neg (by decide +kernel)]; exact ⟨rfl, rfl⟩))
    (fun os started H enc _ => lifted os started H enc)
end Go.Proofs.Ytaknhoplgcnhkaa.spaceFits
namespace Go.Proofs.Ytaknhoplgcnhkaa
theorem spaceFits_holds : Rows.SpaceFitsSaid := spaceFits.proved
#print axioms spaceFits_holds
end Go.Proofs.Ytaknhoplgcnhkaa
