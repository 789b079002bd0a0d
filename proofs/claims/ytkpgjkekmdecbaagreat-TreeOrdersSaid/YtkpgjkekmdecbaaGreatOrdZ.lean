/- PROVED: for all inputs the call of TreeOrders returns true, does not panic, and its arguments read as before. No further conditions. -/
import Derived.Test.YtkpgjkekmdecbaaGreatRows
import Derived.WalkKit
import Derived.ProofKit
import Derived.OpenShut
import Derived.Carry
import Derived.ChangeMaps5
import Derived.Test.YtkpgjkekmdecbaaGreatOrdAY
import Derived.Test.YtkpgjkekmdecbaaGreatOrdBB
namespace Go.Proofs.YtkpgjkekmdecbaaGreat.treeOrders
open Go.ChangeShapes Go.WideShapes Go.ChangeAt Go.RowKit Go.ChangeMaps

theorem own : ownKnob Tryz.prog.godebug = none := by kernel_rfl
theorem laidOut : laidOutB Tryz.prog = true := by kernel_rfl

set_option maxRecDepth 100000 in
theorem lifted (os : Os) (started : os.Started) (H : Type) (enc : TypeId × Value -> H) :
    ReturnsInHanded {} Tryz.checked os 3 .any (Rows.treeOrdersSpec.pre6 enc Tryz.prog Tryz.f3 Rows.treeOrdersRow.domain false) (Rows.treeOrdersSpec.post enc Tryz.prog Tryz.f3 false true false false) := by
  refine returnsInHanded_of_change (C := Tryz.checked) own started (by kernel_rfl) Tryz.func3
    (ChangeSpec.witness6 (enc := enc) (C := Tryz.checked) false ⟨#[], #[.slice none 0 0, .string ⟨#[]⟩], []⟩ 8 (by kernel_rfl) (by kernel_rfl) (by kernel_rfl) (by kernel_rfl)) ?_
  intro W base args ds gs before hval0 hW hcnd _
  have hval : ∀ (j : Nat) t v, Tryz.f3.params[j]? = some t -> args[j]? = some v -> Value.okWide Tryz.prog W .any base t v := hval0
  have hW' := hW
  obtain ⟨p, q, hA0, hV, rfl, hfz, hnd⟩ := hW
  have hA : DataW.TrodAll enc Tryz.prog W 0 (fun _ => true) true Tryz.f3.params.toList args.toList ds p := hA0
  rw [Tryz.params3] at hA hval
  obtain ⟨v0, vs0, d0, ds0, p0, q0, hargs, rfl, rfl, h0, r0⟩ := trodAll_cons hA
  obtain ⟨v1, vs1, d1, ds1, p1, q1, rfl, rfl, rfl, h1, r1⟩ := trodAll_cons r0
  obtain ⟨rfl, rfl, rfl⟩ := trodAll_nil r1
  obtain rfl : args = #[v0, v1] := by cases args; simp_all
  obtain ⟨rfl, rfl⟩ := trodVars_none hV
  obtain ⟨us0, hg0, hus0⟩ := open_ar EPr (fun _ => True) (by decide) Tryz.underlying22 (by kernel_rfl) h0 (hval 0 _ v0 rfl rfl) (fun a n cs x hc ht => by
    obtain ⟨z0, g0⟩ := field_str Tryz.underlying36 (by kernel_rfl) (by kernel_rfl) hc ht (j := 0) rfl Tryz.underlying9
    obtain ⟨z1, g1⟩ := field_str Tryz.underlying36 (by kernel_rfl) (by kernel_rfl) hc ht (j := 1) rfl Tryz.underlying9
    refine ⟨(z0, z1), trivial, fun q hq => ?_⟩
    match q, hq with
    | 0, _ => exact g0
    | 1, _ => exact g1)
  obtain ⟨s1, rfl, rfl, rfl, w1⟩ := open_string Tryz.underlying9 (hval 1 _ v1 rfl rfl) h1
  obtain ⟨z1, rfl⟩ : ∃ z : List UInt8, s1 = ⟨z.toArray⟩ := ⟨s1.data.toList, by cases s1; simp⟩
  clear hA0 hval0
  have hlt := hW'.lt
  simp only [List.append_nil] at hW' hlt
  refine (orders_c v0 us0 z1 W hus0).mono fun e W' ⟨he, hg⟩ => ?_
  subst he
  have harg0 : DataW.Trod enc Tryz.prog W' 0 (fun b => decide (b < W.heap.size)) true 22 v0 d0 p0 :=
    Below.trod laidOut (by kernel_rfl) (of_decide_eq_true (by kernel_rfl)) h0 hg.toBelow (fun x hx => by simpa using hlt x (by simp [hx]))
  have hargs' := trodAll_cons_mk harg0 (trodAll_cons_mk (shut_string (w := W') (enc := enc) (base := 0) (sp := fun b => decide (b < W.heap.size)) (held := true) Tryz.underlying9 w1) trodAll_mk0)
  simp only [List.append_nil] at hargs'
  refine ⟨_, rfl, _, _, _, [], _, [], hW', ?_, hargs', rfl, hg.toBelow.frame _, fun h => by cases h⟩
  exact trodAll_cons_mk (shut_bool Tryz.underlying4 _) trodAll_mk0

theorem proved : Rows.TreeOrdersSaid :=
  OpenClaim.holds_of_wide 3 Tryz.f3 rfl rfl rfl rfl rfl rfl rfl ⟨rfl, rfl, rfl, rfl, rfl⟩ rfl rfl rfl rfl rfl (by kernel_rfl) Tryz.func3 (by kernel_rfl)
    (of_decide_eq_true (by kernel_rfl)) (by unfold Func.isWrapper; first | (rw [if_pos (by decide +kernel)]; kernel_rfl) | (rw [if_neg (by decide +kernel)]; exact ⟨rfl, rfl⟩))
    (fun os started H enc _ => lifted os started H enc)
end Go.Proofs.YtkpgjkekmdecbaaGreat.treeOrders
namespace Go.Proofs.YtkpgjkekmdecbaaGreat
theorem treeOrders_holds : Rows.TreeOrdersSaid := treeOrders.proved
#print axioms treeOrders_holds
end Go.Proofs.YtkpgjkekmdecbaaGreat
