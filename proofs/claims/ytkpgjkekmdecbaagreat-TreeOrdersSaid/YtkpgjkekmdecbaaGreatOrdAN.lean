/- Lemmas for the claim. No conditions beside those that each states. -/
import Derived.Test.YtkpgjkekmdecbaaGreatOrdAM
import Derived.Test.YtkpgjkekmdecbaaGreatOrdAL
import Derived.Test.YtkpgjkekmdecbaaGreatOrdAK
import Derived.StillTailTactics
set_option maxRecDepth 100000
set_option maxHeartbeats 8000000
set_option linter.all false

namespace Go.Proofs.YtkpgjkekmdecbaaGreat
open Go.RowKit
variable {w w':World} {T:TypeId} {n b:Nat} {S:List Nat} {leaf:Bool} {Av:Nat -> Prop} {ps:List Pr} {ks:List Ky} {rs:List Rfm}
structure GoodPt (p:Ptr4):Prop where
 addr:p.1<=40000
 size1:1<=p.2.1
 size:p.2.1<=1024
 birth0:0<=p.2.2.1
 birth:p.2.2.1<=1125899906842624
 sum:p.2.2.2.length=32
def ptrI (p:Ptr4):List Itm:= [.num p.1,.num p.2.1,.num p.2.2.1.toNat,.txt p.2.2.2]
theorem GoodPt.good {p:Ptr4} (h:GoodPt p):gr_ (ptrI p):=by
 refine⟨by simp [ptrI],fun x hx=> ?_⟩
 have h1:=h.addr
 have h2:=h.size
 have h3:=h.birth
 have h4:=h.sum
 simp only [ptrI,List.mem_cons,List.not_mem_nil,or_false] at hx
 rcases hx with rfl | rfl | rfl | rfl <;> simp only [GoodI] <;> omega
theorem eg_:GoodPt ca_:=⟨by decide,by decide,by decide,by decide,by decide,by decide⟩
abbrev bB_ (p:Ptr4):Value:= .agg #[.int .i64 p.1,.int .i64 p.2.1,.int .i64 p.2.2.1,.string ⟨p.2.2.2.toArray⟩]
theorem rd4It (W0:World) (a b c:Int) (s:List UInt8) (hn:n=W0.heap.size:=by rfl):
  EIt.Rd (W0.alloc (.cells #[.int .i64 1,.int .i64 a,.string ⟨#[]⟩,.int .i64 1,.int .i64 b,.string ⟨#[]⟩,.int .i64 1,.int .i64 c,.string ⟨#[]⟩,.int .i64 2,.int .i64 0,.string ⟨s.toArray⟩] T)) (.slice (some ⟨n,0,none⟩) 4 4) [(1,a,[]),(1,b,[]),(1,c,[]),(2,0,s)]:=by
 subst hn
 refine .inr ⟨W0.heap.size,0,4,rfl,Nat.le_refl _,by simp,fun j u hj=> ?_⟩
 rw [cell_of_row _ W0.heap.size _ _ _ _ (heap_alloc_new _ _),Nat.zero_add]
 rw [<-hj]
 simp [EIt,Enc.flat]
theorem gI_ (p:Ptr4) (w:World) (hp:GoodPt p):Calls Tryz.prog 139 #[bB_ p] w fun e w'=> e= .returned (.tuple #[.string ⟨(ptrB p).toArray⟩,.int .i64 0])/\Ext [] w w':=by
 have HP:=hi_ hp
 obtain⟨a,b,c,s⟩:=p
 have h1:a<=40000:=hp.addr
 have h2:1<=b:=hp.size1
 have h3:b<=1024:=hp.size
 have h4:0<=c:=hp.birth0
 have h5:s.length=32:=hp.sum
 have z1: ¬((a:Int) < 0):=by omega
 have z2: ¬(c < 0):=by omega
 have z3: ¬((b:Int) < 1):=by omega
 have z4: ¬((1024:Int) < (b:Int)):=by omega
 have z5:((s.length:Int) !=32)=false:=by rw [h5];rfl
 have hEb:Ext [] w (w.alloc (.cells #[.int .i64 a,.int .i64 b,.int .i64 c,.string ⟨s.toArray⟩] 34)):=(Ext.refl [] w).alloc _
 clear hp
 go_enter Tryz.func139,Tryz.ntmps139
 go_wp2_with fail
 have hm:(ptrI (a,b,c,s)).map itmV= [(1,(a:Int),[]),(1,(b:Int),[]),(1,c,[]),(2,0,s)]:=by
  simp only [ptrI,itmV,List.map_cons,List.map_nil]
  rw [Int.toNat_of_nonneg h4]
 have hrd:=rd4It (T:=215) (n:=w.heap.size+1) (w.alloc (.cells #[.int .i64 a,.int .i64 b,.int .i64 c,.string ⟨s.toArray⟩] 34)) a b c s (by simp)
 rw [<-hm] at hrd
 refine(hJ_ _ _ _ hrd HP.out.good).mono ?_
 rintro e W1 ⟨u,rfl,how,hE1, -⟩
 obtain⟨pu,cu,rfl,_⟩:=how.rd.len_eq
 have hcv:=fa_ how.rd
 have hE:=(hEb.alloc _).trans hE1
 clear how hrd hm hE1 hEb
 go_wp2_with fail
 go_ret2
 exact⟨rfl,hE⟩
theorem gH_ {W0:World} {s:List UInt8} {cap n:Nat} {m:Nat×Nat} (hc:s.length<=cap) (hn:n=W0.heap.size):EB.Rd (W0.alloc (.cells (bytesRow ⟨s.toArray⟩ cap) T m)).drew (.slice (some ⟨n,0,none⟩) s.length cap) s:=by
 subst hn
 refine .inr ⟨W0.heap.size,0,cap,rfl,hc,by simp,fun j u hj=> ?_⟩
 have h0:(W0.alloc (.cells (bytesRow ⟨s.toArray⟩ cap) T m)).drew.cell? ⟨W0.heap.size,0+j,none⟩=(bytesRow ⟨s.toArray⟩ cap)[0+j]? :=World.cell?_alloc_mark W0 _ T m (0+j)
 rw [h0,Nat.zero_add]
 have hf:EB.flat s=s.map (fun b=> Value.int .u8 b.toNat):=by
  unfold Enc.flat
  clear hc hj h0
  induction s with
  | nil=> rfl
  | cons a s ih=> rw [List.flatMap_cons,ih];rfl
 rw [hf] at hj
 have hjl:j < s.length:=by have:=(List.getElem?_eq_some_iff.1 hj).1;simpa using this
 rw [List.getElem?_map,List.getElem?_eq_getElem hjl] at hj
 simp only [Option.map_some,Option.some.injEq] at hj
 simp [bytesRow,Array.getElem?_append,hjl,hj]
def UnpPost (p:Ptr4) (w:World) (e:Ending) (w':World):Prop:=e= .returned (.tuple #[bB_ p,.int .i64 0])/\Ext [] w w'
theorem pkunptr_c (p:Ptr4) (w:World) (hp:GoodPt p):Calls Tryz.prog 121 #[.string ⟨(ptrB p).toArray⟩] w (UnpPost p w):=by
 have hcv: ∀W,(convert 9 158 (.string ⟨(ptrB p).toArray⟩)).run Tryz.prog W=_:=fun W=> run_bytes_of_string W 9 158 5 ⟨(ptrB p).toArray⟩ Tryz.underlying9 Tryz.underlying158 Tryz.underlying5
 have HP:=hi_ hp
 clear hp
 have hb0:=heap_alloc_new w (.cells #[.int .i64 0,.int .i64 0,.int .i64 0,.string ⟨#[]⟩] 34)
 have hEb:Ext [] w (w.alloc (.cells #[.int .i64 0,.int .i64 0,.int .i64 0,.string ⟨#[]⟩] 34)):=(Ext.refl [] w).alloc _
 have hsz:(w.alloc (.cells #[.int .i64 0,.int .i64 0,.int .i64 0,.string ⟨#[]⟩] 34)).heap.size=w.heap.size+1:=by simp
 go_enter Tryz.func121,Tryz.ntmps121
 go_wp2_with fail
 have hge:=grownCap_ge (w.alloc (.cells #[.int .i64 0,.int .i64 0,.int .i64 0,.string ⟨#[]⟩] 34)) (ptrB p).length 0 5
 revert hge hb0 hEb hsz
 generalize grownCap _ _ _ _=cap
 generalize w.alloc _=W0
 intro hb0 hEb hsz hge
 have hrd:=gH_ (W0:=W0) (T:=5) (m:=((bytesRow ⟨(ptrB p).toArray⟩ cap).size,(bytesRow ⟨(ptrB p).toArray⟩ cap).size+1)) (n:=w.heap.size+1) hge hsz.symm
 have hE1:Ext [] W0 (W0.alloc (.cells (bytesRow ⟨(ptrB p).toArray⟩ cap) 5 ((bytesRow ⟨(ptrB p).toArray⟩ cap).size,(bytesRow ⟨(ptrB p).toArray⟩ cap).size+1))).drew:=((Ext.refl [] W0).alloc _).drew
 refine(eY_ _ (ptrI p) _ hrd HP.out.good (by
  have:=hK_ (ptrI p) HP.out.good.2
  have e:(ptrI p).length=4:=rfl
  omega)).mono ?_
 rintro e W1 ⟨u,rfl,how,hE2, -⟩
 have hE02:=hE1.trans hE2
 have hb1:=hE02.blk hb0 (by simp)
 have hEw:=hEb.trans hE02
 have hrd:=how.rd
 have e4:((ptrI p).map itmV).length=4:=rfl
 obtain⟨g,o,cu,rfl⟩: ∃g o c,u= .slice (some ⟨g,o,none⟩) 4 c:=by
  rcases hrd with ⟨_,h⟩ | ⟨g,o,c,h,_⟩
  ·cases h
  ·exact⟨g,o,c,h⟩
 obtain⟨a,b,c,s⟩:=p
 have h1:a<=40000:=HP.out.addr
 have h2:1<=b:=HP.out.size1
 have h3:b<=1024:=HP.out.size
 have h4:0<=c:=HP.out.birth0
 have h5:s.length=32:=HP.out.sum
 have k0:=aK_ hrd 0 (by rw [e4];omega)
 have k1:=aK_ hrd 1 (by rw [e4];omega)
 have k2:=aK_ hrd 2 (by rw [e4];omega)
 have k3:=aK_ hrd 3 (by rw [e4];omega)
 have hm:(ptrI (a,b,c,s)).map itmV= [(1,(a:Int),[]),(1,(b:Int),[]),(1,c,[]),(2,0,s)]:=by
  simp only [ptrI,itmV,List.map_cons,List.map_nil]
  rw [Int.toNat_of_nonneg h4]
 rw [hm] at k0 k1 k2 k3
 simp only [List.getD_cons_zero,List.getD_cons_succ,Nat.zero_mul,Nat.add_zero,Nat.one_mul,show 2*3=6 from rfl,show 3*3=9 from rfl] at k0 k1 k2 k3
 obtain⟨k00,k01,_⟩:=k0
 obtain⟨k10,k11,_⟩:=k1
 obtain⟨k20,k21,_⟩:=k2
 obtain⟨k30,_,k32⟩:=k3
 obtain⟨HB1,HEW⟩:=h_2 hb1 hEw
 have hlt:=g_ hb1
 clear how hrd hm e4 hE02 hE2 hE1 hEb hge hb0 hb1 hEw hcv
 obtain⟨bp,hbp⟩: ∃b,b=w.heap.size:=⟨_,rfl⟩
 rw [<-hbp] at hsz HB1 hlt
 have HBP:=hi_ hbp
 simp only [<-hbp]
 clear hbp hsz
 go_wp2_with fail
 have hD:=(Ext.refl [] W1).drew
 refine e_ (fun W=> W.cell? ⟨g,o+1,none⟩=some (.int .i64 a)/\W.cell? ⟨g,o+3+1,none⟩=some (.int .i64 b)/\W.cell? ⟨g,o+6+1,none⟩=some (.int .i64 c)/\W.cell? ⟨g,o+9+2,none⟩=some (.string ⟨s.toArray⟩)) (fun i=> i==3 || i==7 || i==11 || i==15 || i==17) (by kernel_rfl) ⟨hD.cell k01 (by simp),hD.cell k11 (by simp),hD.cell k21 (by simp),hD.cell k32 (by simp)⟩ (fun hS=> ?_)
 refine PUq 0 ?_;(try go_frame)
 refine PUq 4 ?_;(try go_frame)
 refine PUq 8 ?_;(try go_frame)
 refine PUq 12 ?_;(try go_frame)
 simp only [zA,zB,zC,zD,zE]
 refine PUq 1 ?_;(try go_frame)
 refine PUq 5 ?_;(try go_frame)
 refine PUq 9 ?_;(try go_frame)
 refine PUq 13 ?_;(try go_frame)
 simp only [zA,zB,zC,zD,zE]
 refine PUq 2 ?_;(try go_frame)
 refine PUq 6 ?_;(try go_frame)
 refine PUq 10 ?_;(try go_frame)
 simp only [zA,zB,zC,zD,zE]
 refine PUq 14 ?_;(try go_frame)
 simp only [zA,zB,zC,zD,zE]
 refine ta 3 ?_;(try go_frame)
 refine ta 7 ?_;(try go_frame)
 refine ta 11 ?_;(try go_frame)
 simp only [zA,zB,zC,zD,zE]
 refine ta 15 ?_;(try go_frame)
 simp only [zA,zB,zC,zD,zE]
 refine PUq 16 ?_;(try go_frame)
 simp only [zA,zB,zC,zD,zE]
 refine a_ (i:=17) (by kernel_rfl) rfl (fun K hK=> ?_)
 (try simp only [Act.put,zA,zB,zC,List.setIfInBounds_toArray,zD,zE]);refine iw rfl ?_
 go_simp
 have s17:Ext [] W1 (W1.alloc (.cells #[.int .i64 0,.int .i64 0,.int .i64 0,.string ⟨#[]⟩] 34)).drew:=((Ext.refl [] W1).alloc _).drew
 have hbn:(W1.alloc (.cells #[.int .i64 0,.int .i64 0,.int .i64 0,.string ⟨#[]⟩] 34)).drew.heap[W1.heap.size]? =_:=heap_alloc_new W1 (.cells #[.int .i64 0,.int .i64 0,.int .i64 0,.string ⟨#[]⟩] 34)
 refine hK.out _ _ (fun _=> ⟨s17.cell k01 (by simp),s17.cell k11 (by simp),s17.cell k21 (by simp),s17.cell k32 (by simp)⟩) (fun _=> ?_)
 clear hK hS
 obtain⟨HBN,HS17⟩:=h_2 hbn s17
 clear hbn s17 k00 k10 k20 k30 k01 k11 k21 k32
 revert HBN HS17
 generalize World.drew _=W2
 intro HBN HS17
 obtain⟨v0,v1,v2,v3,hfz⟩:=M_ HBN.out
 refine a_ (i:=18) (by kernel_rfl) rfl (fun K hK=> ?_)
 refine iw rfl ?_
 go_simp
 refine nk hK ?_
 refine c_ (by kernel_rfl) ?_ _
 obtain⟨hs3,hE3⟩:=set4 HBN.out (.int .i64 a) (.int .i64 b) (.int .i64 c) (.string ⟨s.toArray⟩)
 have hE13:Ext [] W1 ((((W2.setCell ⟨W1.heap.size,0,none⟩ (.int .i64 a)).setCell ⟨W1.heap.size,1,none⟩ (.int .i64 b)).setCell ⟨W1.heap.size,2,none⟩ (.int .i64 c)).setCell ⟨W1.heap.size,3,none⟩ (.string ⟨s.toArray⟩)):=HS17.out.trans' hE3 (by simp) (by simp)
 obtain⟨HB3,HE13⟩:=h_2 hs3 hE13
 clear hK hs3 hE3 hE13 v0 v1 v2 v3 hfz HS17 HBN
 revert HB3 HE13
 generalize World.setCell _ _ _=W3
 intro HB3 HE13
 obtain⟨v0,v1,v2,v3, -⟩:=M_ HB3.out
 go_wp2_with fail
 refine(gI_ (a,b,c,s) _ HP.out).mono ?_
 rintro e W4 ⟨rfl,hE4⟩
 have hb4:=hE4.blk HB3.out (by simp)
 obtain⟨v0',v1',v2',v3', -⟩:=M_ hb4
 have HE14:=hi_ (HE13.out.trans hE4)
 have hbp4:=HE14.out.blk HB1.out (by simp)
 have HBP4:=hi_ hbp4
 obtain⟨u0,u1,u2',u3',hfz⟩:=M_ hbp4
 clear v0 v1 v2 v3 hE4 hb4 hbp4 HE13 HB3
 go_wp2_with fail
 obtain⟨hs9,hE9⟩:=set4 HBP4.out (.int .i64 a) (.int .i64 b) (.int .i64 c) (.string ⟨s.toArray⟩)
 obtain⟨r0,r1,r2,r3,_⟩:=M_ hs9
 refine bodyPost_ret (v:= .tuple #[bB_ (a,b,c,s),.int .i64 0]) (by simp [results,Tryz.results121,go_sem,r0,r1,r2,r3,bB_]) rfl ?_
 exact⟨rfl,(HEW.out.trans HE14.out).trans' hE9 (by simp) (by simp;have:=HBP.out;omega)⟩
abbrev aE_:List TypeId:= [125,36,9,89]
def NodeB (w:World) (b:Nat) (leaf:Bool) (ps:List Pr) (ks:List Ky) (rs:List Rfm):Prop:=
 ∃pv kv cv,w.heap[b]? =some (.cells #[.bool leaf,pv,kv,cv] 125 (0,0))/\EPr.Ow 36 w pv ps/\EKy.Ow 9 w kv ks/\ERf.Ow 89 w cv rs
def KidR {n:Nat} (N:Nat->List (El n)->Prop) (y:Rfm) (r:Rf n):Prop:=
 match r.1 with
 | some q=> y=(q,none)
 | none=> ∃b,y=(P0,some b)/\N b r.2
def KidsR {n:Nat} (N:Nat->List (El n)->Prop) (rs:List Rfm) (l:List (Pc n)):Prop:=rs.length=l.length/\ ∀(i:Nat) y x,rs[i]? =some y->l[i]? =some x->KidR N y x.2
def o_ {n:Nat} (t:List (Pc n)):List Ky:=(t.drop 1).map (fun e=> e.1)
def NodeR (w:World):(n:Nat)->Nat->List (El n)->Prop
 | 0,b,t=> NodeB w b true t [] []
 | n+1,b,t=> ∃rs,NodeB w b false [] (o_ (n:=n) t) rs/\KidsR (n:=n) (NodeR w n) rs t
theorem Enc.Ow.tagOf {α:Type} {E:Enc α} {v:Value} {xs:List α} (h:E.Ow T w v xs): ∀g∈blkL v,Go.Proofs.YtkpgjkekmdecbaaGreat.r_ w g=some T:=fun g hg=> by
 obtain⟨c,hc⟩:=h.tag g hg
 exact d_ hc
theorem NodeB.lt (h:NodeB w b leaf ps ks rs):b < w.heap.size:=by
 obtain⟨_,_,_,h,_⟩:=h
 exact g_ h
theorem NodeB.ext (h:NodeB w b leaf ps ks rs) (he:Ext S w w') (hS: ∀k∈S,∀T∈aE_,r_ w k≠some T):NodeB w' b leaf ps ks rs:=by
 obtain⟨pv,kv,cv,h1,h2,h3,h4⟩:=h
 refine⟨pv,kv,cv,he.blk h1 (fun hm=> hS b hm _ (by simp) (d_ h1)),h2.ext he (fun g hg hm=> hS g hm _ (by simp) (h2.tagOf g hg)),h3.ext he (fun g hg hm=> hS g hm _ (by simp) (h3.tagOf g hg)),h4.ext he (fun g hg hm=> hS g hm _ (by simp) (h4.tagOf g hg))⟩
theorem KidR.mono {N N':Nat->List (El n)->Prop} {y:Rfm} {r:Rf n} (h:KidR N y r) (hN: ∀b,N b r.2->N' b r.2):KidR N' y r:=by
 unfold KidR at h ⊢
 split
 ·rename_i q hq
  simp only [hq] at h
  exact h
 ·rename_i hq
  simp only [hq] at h
  obtain⟨b,h1,h2⟩:=h
  exact⟨b,h1,hN b h2⟩
theorem KidsR.mono {N N':Nat->List (El n)->Prop} {l:List (Pc n)} (h:KidsR N rs l) (hN: ∀b t,N b t->N' b t):KidsR N' rs l:=
 ⟨h.1,fun i y x hy hx=> (h.2 i y x hy hx).mono (fun b=> hN b _)⟩
theorem NodeR.ext (he:Ext S w w') (hS: ∀k∈S,∀T∈aE_,r_ w k≠some T): ∀(n b:Nat) (t:List (El n)),NodeR w n b t->NodeR w' n b t
 | 0,_,_,h=> NodeB.ext h he hS
 | n+1,_,_,h=> by
  obtain⟨rs,h1,h2⟩:=h
  exact⟨rs,h1.ext he hS,h2.mono (NodeR.ext he hS n)⟩
theorem NodeR.ext0 {t:List (El n)} (h:NodeR w n b t) (he:Ext [] w w'):NodeR w' n b t:=NodeR.ext he (by simp) n b t h
theorem NodeB.ext0 (h:NodeB w b leaf ps ks rs) (he:Ext [] w w'):NodeB w' b leaf ps ks rs:=h.ext he (by simp)
def NodeI (Av:Nat->Prop) (w:World) (b:Nat) (leaf:Bool) (ps:List Pr) (ks:List Ky) (rs:List Rfm):Prop:=
 Av b/\ ∃pv kv cv,w.heap[b]? =some (.cells #[.bool leaf,pv,kv,cv] 125 (0,0))/\EPr.Ow 36 w pv ps/\EKy.Ow 9 w kv ks/\ERf.Ow 89 w cv rs/\(∀g∈blkL pv,Av g)/\(∀g∈blkL kv,Av g)/\(∀g∈blkL cv,Av g)
def NodeRI (Av:Nat->Prop) (w:World):(n:Nat)->Nat->List (El n)->Prop
 | 0,b,t=> NodeI Av w b true t [] []
 | n+1,b,t=> ∃rs,NodeI Av w b false [] (o_ (n:=n) t) rs/\KidsR (n:=n) (NodeRI Av w n) rs t
theorem NodeI.node (h:NodeI Av w b leaf ps ks rs):NodeB w b leaf ps ks rs:=by
 obtain⟨_,pv,kv,cv,h1,h2,h3,h4,_⟩:=h
 exact⟨pv,kv,cv,h1,h2,h3,h4⟩
theorem NodeRI.node: ∀(n b:Nat) (t:List (El n)),NodeRI Av w n b t->NodeR w n b t
 | 0,_,_,h=> NodeI.node h
 | n+1,_,_,h=> by
  obtain⟨rs,h1,h2⟩:=h
  exact⟨rs,h1.node,h2.mono (NodeRI.node n)⟩
theorem NodeI.mono {Av Av':Nat->Prop} (h:NodeI Av w b leaf ps ks rs) (hA: ∀k,Av k->k < w.heap.size->Av' k):NodeI Av' w b leaf ps ks rs:=by
 obtain⟨h0,pv,kv,cv,h1,h2,h3,h4,u1,u2,u3⟩:=h
 exact⟨hA b h0 (g_ h1),pv,kv,cv,h1,h2,h3,h4,fun g hg=> hA g (u1 g hg) (h2.lt g hg),fun g hg=> hA g (u2 g hg) (h3.lt g hg),fun g hg=> hA g (u3 g hg) (h4.lt g hg)⟩
theorem NodeRI.mono {Av Av':Nat->Prop} (hA: ∀k,Av k->k < w.heap.size->Av' k): ∀(n b:Nat) (t:List (El n)),NodeRI Av w n b t->NodeRI Av' w n b t
 | 0,_,_,h=> NodeI.mono h hA
 | n+1,_,_,h=> by
  obtain⟨rs,h1,h2⟩:=h
  exact⟨rs,h1.mono hA,h2.mono (NodeRI.mono hA n)⟩
theorem NodeI.ext (h:NodeI Av w b leaf ps ks rs) (he:Ext S w w') (hS: ∀k∈S,Av k-> ∀T∈aE_,r_ w k≠some T):NodeI Av w' b leaf ps ks rs:=by
 obtain⟨h0,pv,kv,cv,h1,h2,h3,h4,u1,u2,u3⟩:=h
 refine⟨h0,pv,kv,cv,he.blk h1 (fun hm=> hS b hm h0 _ (by simp) (d_ h1)),h2.ext he (fun g hg hm=> hS g hm (u1 g hg) _ (by simp) (h2.tagOf g hg)),h3.ext he (fun g hg hm=> hS g hm (u2 g hg) _ (by simp) (h3.tagOf g hg)),h4.ext he (fun g hg hm=> hS g hm (u3 g hg) _ (by simp) (h4.tagOf g hg)),u1,u2,u3⟩
theorem NodeRI.ext (he:Ext S w w') (hS: ∀k∈S,Av k-> ∀T∈aE_,r_ w k≠some T): ∀(n b:Nat) (t:List (El n)),NodeRI Av w n b t->NodeRI Av w' n b t
 | 0,_,_,h=> NodeI.ext h he hS
 | n+1,_,_,h=> by
  obtain⟨rs,h1,h2⟩:=h
  exact⟨rs,h1.ext he hS,h2.mono (NodeRI.ext he hS n)⟩
theorem NodeR.toI: ∀(n b:Nat) (t:List (El n)),NodeR w n b t->NodeRI (fun k=> k < w.heap.size) w n b t
 | 0,_,_,⟨pv,kv,cv,h1,h2,h3,h4⟩=> ⟨g_ h1,pv,kv,cv,h1,h2,h3,h4,h2.lt,h3.lt,h4.lt⟩
 | n+1,_,_,⟨rs,⟨pv,kv,cv,h1,h2,h3,h4⟩,hk⟩=> ⟨rs,⟨g_ h1,pv,kv,cv,h1,h2,h3,h4,h2.lt,h3.lt,h4.lt⟩,hk.mono (NodeR.toI n)⟩
def bd_ (p:Pr):Prop:=p.1≠ []/\p.1.length<=24/\p.2.length<=300
def GoodT:(n:Nat)->List (El n)->Prop
 | 0,t=> t.length<=900/\ ∀p∈(t:List Pr),bd_ p
 | n+1,t=> t.length<=900/\ ∀k∈(t:List (Pc n)),k.1.length<=24/\(∀q,k.2.1=some q->GoodPt q)/\GoodT n k.2.2
theorem GoodT.len {t:List (El n)} (h:GoodT n t):t.length<=900:=by cases n <;> exact h.1
theorem eM_ {p:Ptr4} (h:GoodPt p):(ptrB p).length<=50:=by
 have h1:=h.addr
 have h2:=h.size
 have h3:=h.birth
 have h4:=h.sum
 have e1:=x_ 2 (2*p.1) (by omega)
 have e2:=x_ 1 (2*p.2.1) (by omega)
 have e3:=x_ 7 (2*p.2.2.1.toNat) (by omega)
 have e4:=x_ 0 p.2.2.2.length (by omega)
 simp only [ptrB,encL,encI,List.map_cons,List.map_nil,List.flatten_cons,List.flatten_nil,List.length_append,List.length_cons,List.length_nil]
 omega
theorem dc_ {k:Pc n} (h: ∀q,k.2.1=some q->GoodPt q):(kidB k).length<=50:=by
 unfold kidB
 cases hk:k.2.1 with
 | none=> exact eM_ eg_
 | some q=> exact eM_ (h q hk)
theorem aw_ {α:Type} (f g:α->Itm) (l:List α):(l.flatMap (fun p=> [f p,g p])).length=2*l.length:=by
 induction l with
 | nil=> rfl
 | cons a l ih=> rw [List.flatMap_cons,List.length_append,ih,List.length_cons];simp;omega
theorem cm_ {α:Type} (f g:α->Itm) (l:List α) {x:Itm} (h:x∈l.flatMap (fun p=> [f p,g p])): ∃p∈l,x=f p\/x=g p:=by
 rw [List.mem_flatMap] at h
 obtain⟨p,hp,hx⟩:=h
 exact⟨p,hp,by simpa using hx⟩
theorem GoodT.items {t:List (El n)} (h:GoodT n t):gr_ (ai_ n t):=by
 cases n with
 | zero=>
  obtain⟨h1,h2⟩:=h
  have h1': @List.length Pr t<=900:=h1
  refine⟨?_,fun x hx=> ?_⟩
  ·have:=aw_ (fun p:Pr=> Itm.txt p.1) (fun p=> Itm.txt p.2) t
   simp only [ai_,V_,List.length_cons]
   omega
  ·simp only [ai_,V_,List.mem_cons] at hx
   rcases hx with hx | hx
   ·subst hx;show 1<=4611686018427387903;omega
   ·obtain⟨p,hp,hx⟩:=cm_ (fun p:Pr=> Itm.txt p.1) (fun p=> Itm.txt p.2) t hx
    have hg:=h2 p hp
    rcases hx with rfl | rfl
    ·have:=hg.2.1;show p.1.length<=4000;omega
    ·have:=hg.2.2;show p.2.length<=4000;omega
 | succ n=>
  obtain⟨h1,h2⟩:=h
  have h1': @List.length (Pc n) t<=900:=h1
  refine⟨?_,fun x hx=> ?_⟩
  ·have:=aw_ (fun k:Pc n=> Itm.txt k.1) (fun k=> Itm.txt (kidB k)) t
   simp only [ai_,G_,List.length_cons,List.length_drop]
   omega
  ·simp only [ai_,G_,List.mem_cons] at hx
   rcases hx with hx | hx
   ·subst hx;show 2<=4611686018427387903;omega
   ·have hx:=List.mem_of_mem_drop hx
    obtain⟨k,hk,hx⟩:=cm_ (fun k:Pc n=> Itm.txt k.1) (fun k=> Itm.txt (kidB k)) t hx
    obtain⟨h3,h4,_⟩:=h2 k hk
    rcases hx with rfl | rfl
    ·show k.1.length<=4000;omega
    ·have:=dc_ h4;show (kidB k).length<=4000;omega
theorem dX_ (k:Int) (w:World):Calls Tryz.prog 137 #[.int .i64 k] w fun e w'=> e= .returned (itV (1,k,[]))/\Ext [] w w':=by
 have hb:=heap_alloc_new w (.cells #[.int .i64 1,.int .i64 k,.string ⟨#[]⟩] 215)
 have q0:(w.alloc (.cells #[.int .i64 1,.int .i64 k,.string ⟨#[]⟩] 215)).cell? ⟨w.heap.size,0,none⟩=some (.int .i64 1):=by rw [cell_of_row _ _ 0 _ _ _ hb];rfl
 have q1:(w.alloc (.cells #[.int .i64 1,.int .i64 k,.string ⟨#[]⟩] 215)).cell? ⟨w.heap.size,1,none⟩=some (.int .i64 k):=by rw [cell_of_row _ _ 1 _ _ _ hb];rfl
 have q2:(w.alloc (.cells #[.int .i64 1,.int .i64 k,.string ⟨#[]⟩] 215)).cell? ⟨w.heap.size,2,none⟩=some (.string ⟨#[]⟩):=by rw [cell_of_row _ _ 2 _ _ _ hb];rfl
 go_enter Tryz.func137,Tryz.ntmps137
 go_wp2
 refine bodyPost_ret (v:=itV (1,k,[])) (by simp [results,Tryz.results137,go_sem,q0,q1,q2]) rfl ?_
 exact⟨rfl,(Ext.refl _ _).alloc _⟩
theorem bJ_ (s:Ky) (w:World):Calls Tryz.prog 138 #[.string ⟨s.toArray⟩] w fun e w'=> e= .returned (itV (2,0,s))/\Ext [] w w':=by
 have hb:=heap_alloc_new w (.cells #[.int .i64 2,.int .i64 0,.string ⟨s.toArray⟩] 215)
 have q0:(w.alloc (.cells #[.int .i64 2,.int .i64 0,.string ⟨s.toArray⟩] 215)).cell? ⟨w.heap.size,0,none⟩=some (.int .i64 2):=by rw [cell_of_row _ _ 0 _ _ _ hb];rfl
 have q1:(w.alloc (.cells #[.int .i64 2,.int .i64 0,.string ⟨s.toArray⟩] 215)).cell? ⟨w.heap.size,1,none⟩=some (.int .i64 0):=by rw [cell_of_row _ _ 1 _ _ _ hb];rfl
 have q2:(w.alloc (.cells #[.int .i64 2,.int .i64 0,.string ⟨s.toArray⟩] 215)).cell? ⟨w.heap.size,2,none⟩=some (.string ⟨s.toArray⟩):=by rw [cell_of_row _ _ 2 _ _ _ hb];rfl
 go_enter Tryz.func138,Tryz.ntmps138
 go_wp2
 refine bodyPost_ret (v:=itV (2,0,s)) (by simp [results,Tryz.results138,go_sem,q0,q1,q2]) rfl ?_
 exact⟨rfl,(Ext.refl _ _).alloc _⟩
theorem NodeB.cells (h:NodeB w b leaf ps ks rs): ∃pp cp pk ck pr cr,w.cell? ⟨b,0,none⟩=some (.bool leaf)/\w.cell? ⟨b,1,none⟩=some (.slice pp ps.length cp)/\w.cell? ⟨b,2,none⟩=some (.slice pk ks.length ck)/\w.cell? ⟨b,3,none⟩=some (.slice pr rs.length cr)/\
  EPr.Ow 36 w (.slice pp ps.length cp) ps/\EKy.Ow 9 w (.slice pk ks.length ck) ks/\ERf.Ow 89 w (.slice pr rs.length cr) rs/\w.heap[b]? =some (.cells #[.bool leaf,.slice pp ps.length cp,.slice pk ks.length ck,.slice pr rs.length cr] 125 (0,0)):=by
 obtain⟨pv,kv,cv,h1,h2,h3,h4⟩:=h
 obtain⟨pp,cp,rfl,_⟩:=h2.rd.len_eq
 obtain⟨pk,ck,rfl,_⟩:=h3.rd.len_eq
 obtain⟨pr,cr,rfl,_⟩:=h4.rd.len_eq
 refine⟨pp,cp,pk,ck,pr,cr, ?_, ?_, ?_, ?_,h2,h3,h4,h1⟩ <;> (rw [cell_of_row w b _ _ _ _ h1];rfl)
theorem rd2It (W0:World) (a b:Itm3) (hn:n=W0.heap.size:=by rfl):
  EIt.Rd (W0.alloc (.cells #[.int .i64 a.1,.int .i64 a.2.1,.string ⟨a.2.2.toArray⟩,.int .i64 b.1,.int .i64 b.2.1,.string ⟨b.2.2.toArray⟩] T)) (.slice (some ⟨n,0,none⟩) 2 2) [a,b]:=by
 subst hn
 refine .inr ⟨W0.heap.size,0,2,rfl,Nat.le_refl _,by simp,fun j u hj=> ?_⟩
 rw [cell_of_row _ W0.heap.size _ _ _ _ (heap_alloc_new _ _),Nat.zero_add]
 rw [<-hj]
 simp [EIt,Enc.flat]
def gY_ (l:List Itm) (w:World) (e:Ending) (w':World):Prop:= ∃u,e= .returned (.tuple #[u,.int .i64 0])/\EIt.Ow 215 w' u (l.map itmV)/\Ext [] w w'/\ ∀g∈blkL u,w.heap.size<=g
theorem ie_ (b:Nat) (t:List Pr) (w:World) (h:NodeB w b true t [] []) (hl:t.length<=900):Calls Tryz.prog 103 #[.pointer (some ⟨b,0,none⟩)] w (gY_ (V_ t) w):=by
 obtain⟨pp,cp,pk,ck,pr,cr,c0,c1, -, -,hps, -, -, -⟩:=h.cells
 have HP:=hi_ hps
 have e0:t.length=t.length:=rfl
 obtain⟨n,hn⟩: ∃n,n=t.length:=⟨_,rfl⟩
 rw [<-hn] at HP hl c1
 have HN:=hi_ hn
 clear h hps hn e0
 go_enter Tryz.func103,Tryz.ntmps103
 go_wp2_with fail
 refine(dX_ 1 _).mono ?_
 rintro e W1 ⟨rfl,hE1⟩
 have c1':=(hE1.alloc (.cells #[.int .i64 1,.int .i64 1,.string ⟨#[]⟩] 215)).cell c1 (by simp)
 have hs1:=hE1.size
 have HI:Hid (EIt.Ow 215 (W1.alloc (.cells #[.int .i64 1,.int .i64 1,.string ⟨#[]⟩] 215)) (.slice (some ⟨W1.heap.size,0,none⟩) 1 1) [(1,1,[])]):=hi_ (.inr ⟨W1.heap.size,0,1,[(1,1,[])],rfl,heap_alloc_new _ _,by simp,by simp,rfl⟩)
 have HE1:=hi_ (hE1.alloc (.cells #[.int .i64 1,.int .i64 1,.string ⟨#[]⟩] 215))
 go_wp2_with fail
 go_loopw [4,6,24] (fun lv _ iv wr=> ∃i:Nat,i<=n/\iv= .int .i64 i/\Hid (EIt.Ow 215 wr lv ((V_ (t.take i)).map itmV))/\Hid (Ext [] w wr/\ ∀g∈blkL lv,w.heap.size<=g)) (fun _ _ iv _=> n - (intOf iv).toNat)
 case atStart=> exact⟨0,Nat.zero_le _,rfl,HI,hi_ ⟨HE1.out,fun g hg=> by simp [blkL] at hg;omega⟩⟩
 case round=>
  obtain⟨i,hi,rfl,HL,HE⟩:=hrel
  obtain⟨pl,cl,hlv,_⟩:=HL.out.rd.len_eq
  subst hlv
  have hll:((V_ (t.take i)).map itmV).length<=2000:=by
   have:=aw_ (fun p:Pr=> Itm.txt p.1) (fun p=> Itm.txt p.2) (t.take i)
   have h2:(t.take i).length<=900:=by rw [List.length_take];omega
   simp only [V_,List.length_map,List.length_cons]
   omega
  obtain⟨B,hB⟩: ∃B,B=(V_ (t.take i)).map itmV:=⟨_,rfl⟩
  have HBB:=hi_ hB
  rw [<-hB] at HL HE hll
  simp only [<-hB]
  clear hB
  by_cases hlt:i < n
  ·have z1:(i:Int) < (n:Int):=by omega
   have hil:i < t.length:=by rw [<-HN.out];exact hlt
   obtain⟨g,o,rfl⟩: ∃g o,pp=some ⟨g,o,none⟩:=by
    rcases HP.out with ⟨h,_⟩ | ⟨g,o,c,_,h,_⟩
    ·simp only [Value.slice.injEq] at h;omega
    ·simp only [Value.slice.injEq] at h;exact⟨g,_,h.1⟩
   obtain⟨m1,m2⟩:=aJ_ (HP.out.rd.ext0 HE.out.1) i hil
   have hT:(V_ (t.take (i+1))).map itmV=B++ [itmV (.txt t[i].1),itmV (.txt t[i].2)]:=by
    rw [HBB.out,List.take_succ_eq_append_getElem hil]
    unfold V_
    rw [List.flatMap_append]
    simp only [List.map_cons,List.map_append,List.flatMap_cons,List.flatMap_nil,List.map_nil,List.cons_append,List.append_nil]
   have hx:t.getD i ([],[])=t[i]:=by simp [List.getD,hil]
   rw [hx] at m1 m2
   obtain⟨x,hxx⟩: ∃x,x=t[i]:=⟨_,rfl⟩
   rw [<-hxx] at m1 m2 hT
   have HT:=hi_ hT
   clear hx hxx hT
   have hb:=heap_alloc_new wr (.cells #[.string ⟨x.1.toArray⟩,.string ⟨x.2.toArray⟩] 36)
   have hEb:Ext [] wr (wr.alloc (.cells #[.string ⟨x.1.toArray⟩,.string ⟨x.2.toArray⟩] 36)):=(Ext.refl [] wr).alloc _
   have q0:(wr.alloc (.cells #[.string ⟨x.1.toArray⟩,.string ⟨x.2.toArray⟩] 36)).cell? ⟨wr.heap.size,0,none⟩=some (.string ⟨x.1.toArray⟩):=by rw [cell_of_row _ _ 0 _ _ _ hb];rfl
   have q1:(wr.alloc (.cells #[.string ⟨x.1.toArray⟩,.string ⟨x.2.toArray⟩] 36)).cell? ⟨wr.heap.size,1,none⟩=some (.string ⟨x.2.toArray⟩):=by rw [cell_of_row _ _ 1 _ _ _ hb];rfl
   obtain⟨bx,hbx⟩: ∃b,b=wr.heap.size:=⟨_,rfl⟩
   have HLb:=hi_ (HL.out.ext0 hEb)
   have HEb:=hi_ (HE.out.1.trans hEb)
   have HEl:=hi_ HE.out.2
   clear hb
   go_wp2_with fail
   revert q0 q1 hEb HLb HEb
   generalize World.alloc _ _=W2
   rw [<-hbx]
   intro hEb q0 q1 HLb HEb
   try simp only [<-hbx]
   clear hbx m1 m2 HL HE
   have hD:=(Ext.refl [] W2).drew
   refine e_ (fun W=> W.cell? ⟨bx,0,none⟩=some (.string ⟨x.1.toArray⟩)/\W.cell? ⟨bx,1,none⟩=some (.string ⟨x.2.toArray⟩)) (fun i=> i==2 || i==3 || i==5) (by kernel_rfl) ⟨hD.cell q0 (by simp),hD.cell q1 (by simp)⟩ (fun hS=> ?_)
   refine PUq 0 ?_;(try go_frame)
   refine PUq 1 ?_;(try go_frame)
   refine PUq 4 ?_;(try go_frame)
   refine ta 2 ?_;(try go_frame)
   refine ta 5 ?_;(try go_frame)
   refine a_ (i:=3) (by kernel_rfl) rfl (fun K hK=> ?_)
   (try simp only [Act.put,zA,zB,zC,List.setIfInBounds_toArray,zD,zE]);refine iw rfl ?_
   go_simp
   refine(bJ_ x.1 _).mono ?_
   rintro e W3 ⟨rfl,hE3⟩
   have hE03:=hD.trans hE3
   refine hK.out _ _ (fun _=> ⟨hE03.cell q0 (by simp),hE03.cell q1 (by simp)⟩) (fun _=> ?_)
   clear hK hS
   refine a_ (i:=6) (by kernel_rfl) rfl (fun K hK=> ?_)
   (try simp only [Act.put,zA,zB,zC,List.setIfInBounds_toArray,zD,zE]);refine iw rfl ?_
   go_simp
   refine(bJ_ x.2 _).mono ?_
   rintro e W4 ⟨rfl,hE4⟩
   have hE04:=hE03.trans hE4
   refine nk hK ?_
   clear hK
   refine a_ (i:=7) (by kernel_rfl) rfl (fun K hK=> ?_)
   (try simp only [Act.put,zA,zB,zC,List.setIfInBounds_toArray,zD,zE]);refine iw rfl ?_
   go_simp
   refine nk hK ?_
   clear hK
   refine a_ (i:=8) (by kernel_rfl) rfl (fun K hK=> ?_)
   (try simp only [Act.put,zA,zB,zC,List.setIfInBounds_toArray,zD,zE]);refine iw rfl ?_
   refine b_ (s:= .tmp 28) (x:= .tmp 35) (E:=EIt) (T:=215) (zero:=I0) (bytes:=32) (v:= .slice pl B.length cl) (xs:=B) (ys:= [(2,0,x.1),(2,0,x.2)]) tiIt Tryz.underlying191 Tryz.underlying191 rfl rfl rfl ((HLb.out.ext0 hE04).ext0 ((Ext.refl [] W4).alloc _)) (rd2It W4 (2,0,x.1) (2,0,x.2)) (by simp;omega) (by simp;omega) ?_
   intro v5 w5 how hext hnear _
   have eo:=HT.out
   simp only [itmV] at eo
   rw [<-eo] at how
   obtain⟨p5,c5,hv5,_⟩:=how.rd.len_eq
   rw [List.length_map] at hv5
   subst hv5
   have HE5:=hi_ (C_ ((HEb.out.trans hE04).alloc _) HEl.out hext hnear)
   have HL5:=hi_ how
   refine nk hK ?_
   clear hK how hext hnear eo hE04 hE03 hE4 hE3 hD q0 q1 hEb HLb HEb
   refine PUq 9 ?_;(try go_frame)
   refine c_ (by kernel_rfl) ?_ _
   go_wp2_with fail
   go_roundw
   case rel=> exact⟨i+1,by omega,by go_num,HL5,HE5⟩
   case measure=> simp [intOf];omega
  ·obtain rfl:i=n:=by omega
   have z1: ¬((i:Int) < (i:Int)):=by omega
   have e:B=(V_ t).map itmV:=by rw [HBB.out,List.take_of_length_le (by rw [<-HN.out];exact Nat.le_refl _)]
   subst e
   try simp only [List.length_map] at HL HE
   go_wp2
   go_ret2
   exact⟨_,rfl,HL.out,HE.out⟩
end Go.Proofs.YtkpgjkekmdecbaaGreat
