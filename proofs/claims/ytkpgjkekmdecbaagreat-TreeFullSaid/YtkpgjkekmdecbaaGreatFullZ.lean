/- PROVED: for all inputs the call of TreeFull returns true, does not panic, and its arguments read as before. No further conditions. -/
import Derived.Test.YtkpgjkekmdecbaaGreatRows
import Derived.WalkKit
import Derived.ProofKit
import Derived.OpenShut
import Derived.Carry
import Derived.Test.YtkpgjkekmdecbaaGreatFullAY
import Derived.Test.YtkpgjkekmdecbaaGreatFullBB
namespace Go.Proofs.YtkpgjkekmdecbaaGreat.treeFull
open Go.ChangeShapes Go.WideShapes Go.ChangeAt Go.RowKit

theorem own:ownKnob Tryz.prog.godebug=none:=by kernel_rfl
theorem laidOut:laidOutB Tryz.prog=true:=by kernel_rfl

set_option maxRecDepth 100000 in
theorem lifted (os:Os) (started:os.Started) (H:Type) (enc:TypeId×Value->H):
  ReturnsInHanded {} Tryz.checked os 7 .any (Rows.treeFullSpec.pre6 enc Tryz.prog Tryz.f7 Rows.treeFullRow.domain false) (Rows.treeFullSpec.post enc Tryz.prog Tryz.f7 false true false false):=by
 refine returnsInHanded_of_change (C:=Tryz.checked) own started (by kernel_rfl) Tryz.func7
  (ChangeSpec.witness6 (enc:=enc) (C:=Tryz.checked) false ⟨#[],#[.int .i64 0,.slice none 0 0],[]⟩ 8 (by kernel_rfl) (by kernel_rfl) (by kernel_rfl) (by kernel_rfl)) ?_
 intro W base args ds gs before hval0 hW hcnd _
 have hval: ∀(j:Nat) t v,Tryz.f7.params[j]? =some t->args[j]? =some v->Value.okWide Tryz.prog W .any base t v:=hval0
 have hW':=hW
 obtain⟨p,q,hA0,hV,rfl,hfz,hnd⟩:=hW
 have hA:DataW.TrodAll enc Tryz.prog W 0 (fun _=> true) true Tryz.f7.params.toList args.toList ds p:=hA0
 rw [Tryz.params7] at hA hval
 obtain⟨v0,vs0,d0,ds0,p0,q0,hargs,rfl,rfl,h0,r0⟩:=trodAll_cons hA
 obtain⟨v1,vs1,d1,ds1,p1,q1,rfl,rfl,rfl,h1,r1⟩:=trodAll_cons r0
 obtain⟨rfl,rfl,rfl⟩:=trodAll_nil r1
 obtain rfl:args=#[v0,v1]:=by cases args;simp_all
 obtain⟨rfl,rfl⟩:=trodVars_none hV
 obtain⟨a0,rfl,rfl,rfl,w0⟩:=open_int Tryz.underlying3 (hval 0 3 v0 rfl rfl) h0
 obtain⟨us1,hg1,hus1⟩:=open_ar EOx (StpOk) (by decide) Tryz.underlying45 (by kernel_rfl) h1 (hval 1 _ v1 rfl rfl) (fun a n cs x hc ht=> by
  obtain⟨z0,g0,l0,u0⟩:=field_int Tryz.underlying50 (by kernel_rfl) (by kernel_rfl) hc ht (j:=0) rfl Tryz.underlying3
  obtain⟨z1,g1⟩:=field_str Tryz.underlying50 (by kernel_rfl) (by kernel_rfl) hc ht (j:=1) rfl Tryz.underlying9
  obtain⟨z2,g2⟩:=field_str Tryz.underlying50 (by kernel_rfl) (by kernel_rfl) hc ht (j:=2) rfl Tryz.underlying9
  obtain⟨z3,g3,l3,u3⟩:=field_int Tryz.underlying50 (by kernel_rfl) (by kernel_rfl) hc ht (j:=3) rfl Tryz.underlying3
  refine⟨(z0,z1,z2,z3),⟨⟨l0,u0⟩,⟨l3,u3⟩⟩,fun q hq=> ?_⟩
  match q,hq with
  | 0,_=> exact g0
  | 1,_=> exact g1
  | 2,_=> exact g2
  | 3,_=> exact g3)
 clear hA0 hval0
 have hlt:=hW'.lt
 simp only [List.append_nil,List.nil_append] at hW' hlt
 refine(full_c a0 v1 us1 W hus1 hg1).mono fun e W' ⟨he,hg⟩=> ?_
 subst he
 have harg1:DataW.Trod enc Tryz.prog W' 0 (fun b=> decide (b < W.heap.size)) true 45 v1 d1 p1:=
  Below.trod laidOut (by kernel_rfl) (of_decide_eq_true (by kernel_rfl)) h1 hg.toBelow (fun x hx=> by simpa using hlt x (by simp [hx]))
 have hargs':=trodAll_cons_mk (shut_int (w:=W') (enc:=enc) (base:=0) (spare:=fun b=> decide (b < W.heap.size)) (held:=true) Tryz.underlying3 w0) (trodAll_cons_mk harg1 trodAll_mk0)
 simp only [List.append_nil,List.nil_append] at hargs'
 refine⟨_,rfl,_,_,_,[],_,[],hW', ?_,hargs',rfl,hg.toBelow.frame _,fun h=> by cases h⟩
 exact trodAll_cons_mk (shut_bool Tryz.underlying4 _) trodAll_mk0

theorem proved:Rows.TreeFullSaid:=
 OpenClaim.holds_of_wide 7 Tryz.f7 rfl rfl rfl rfl rfl rfl rfl ⟨rfl,rfl,rfl,rfl,rfl⟩ rfl rfl rfl rfl rfl (by kernel_rfl) Tryz.func7 (by kernel_rfl)
  (of_decide_eq_true (by kernel_rfl)) (by unfold Func.isWrapper;first | (rw [if_pos (by decide+kernel)];kernel_rfl) | (rw [if_neg (by decide+kernel)];exact⟨rfl,rfl⟩))
  (fun os started H enc _=> lifted os started H enc)
end Go.Proofs.YtkpgjkekmdecbaaGreat.treeFull
namespace Go.Proofs.YtkpgjkekmdecbaaGreat
theorem treeFull_holds:Rows.TreeFullSaid:=treeFull.proved
#print axioms treeFull_holds
end Go.Proofs.YtkpgjkekmdecbaaGreat
