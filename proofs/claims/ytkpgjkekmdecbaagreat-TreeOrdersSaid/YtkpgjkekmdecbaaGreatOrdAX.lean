/- Lemmas for the claim. No conditions beside those that each states. -/
import Derived.Test.YtkpgjkekmdecbaaGreatOrdAW
import Derived.Test.YtkpgjkekmdecbaaGreatOrdAV
import Derived.Deep.LoopGhost
set_option maxRecDepth 100000
set_option maxHeartbeats 8000000
set_option linter.all false

namespace Go.Proofs.YtkpgjkekmdecbaaGreat
open Go.RowKit
variable {w w' W:World} {T:TypeId} {n i g cb b k:Nat} {S:List Nat} {leaf:Bool} {key:Ky} {ps:List Pr} {ks:List Ky} {yv:Rfm} {rs:List Rfm} {gs:List Ptr4} {f:List Pr -> Except Int (List Pr)} {y:Sy} {v:Sv} {L:List Blk}
def fn_ (y:Sy) (v:Sv) (L:List Blk) (cb:Nat) (gs:List Ptr4) (n:Nat) (res:Except Int (List (Pc n)×List Ptr4)) (w:World) (e:Ending) (w':World):Prop:=
 match res with
 | .ok z=> ∃u xs v',e= .returned (.tuple #[u,.int .i64 0])/\TidS y v v' L cb (gs++z.2) n u xs z.1 w w'
 | .error k=> ∃v' gs',e= .returned (.tuple #[.slice none 0 0,.int .i64 k])/\CS y v' L cb gs' w'/\SameV v v'/\CF y cb w w'
theorem tredit0_c (hf:EdF key f) (he7: ∀l e,f l= .error e->e=7) (fk:Fk) (y:Sy) (v:Sv) (cb:Nat) (gs:List Ptr4) (yv:Rfm) (r:Rf 0) (w:World) (h:CS y v L cb gs w) (hk:KidR (NodeR w 0) yv r) (hK:DskK L 0 r) (hn:NdT L 0 r.2) (hfk:FkR w key f fk) (hgl:gs.length<=90000):
  Calls Tryz.prog 71 #[.pointer (some ⟨cb,0,none⟩),refV yv,.string ⟨key.toArray⟩,fkV fk] w (fn_ y v L cb gs 0 (ay_ 0 r key f) w):=by
 obtain⟨res,hz⟩: ∃z,z=ay_ 0 r key f:=⟨_,rfl⟩
 rw [<-hz]
 rw [bn_] at hz
 obtain⟨t,ht⟩: ∃t:List Pr,t=r.2:=⟨_,rfl⟩
 rw [<-ht] at hz
 have hE0:Ext [] w (w.alloc (.cells (refV yv).cells 89)):=(Ext.refl [] w).alloc _
 have htk:=hc_ y v L cb gs 0 yv r _ (h.ext0 hE0) (hk.mono (fun b hb=> hb.ext0 hE0)) hK hn.good (by omega)
 rw [<-ht] at htk
 obtain⟨HF,HE7⟩:=h_2 hf he7
 have hnd:SrtK t/\(∀p∈t,bd_ p)/\t.length<=256:=by
  rw [ht]
  exact⟨hn.2.2.1,hn.2.2.2,S_ hn.sz⟩
 have HND:=hi_ hnd
 have HFK:=hi_ (hfk.ext0 hE0)
 have HCS0:=hi_ (h.ext0 hE0)
 obtain⟨HTK,HE0⟩:=h_2 htk hE0
 clear h hk hK hn hfk ht htk hE0 hf he7 hnd
 simp only [refV,ptV,Value.cells] at HTK HFK HCS0 HE0 ⊢
 obtain⟨pv,hpv⟩: ∃q,q=Option.map (fun b=> (⟨b,0,none⟩:Addr)) yv.2:=⟨_,rfl⟩
 rw [<-hpv] at HTK HFK HCS0 HE0 ⊢
 clear hpv
 cases fk with
 | put kb vb=>
  simp only [fkV]
  have HZ:=hi_ hz
  clear hz
  go_enter Tryz.func71,Tryz.ntmps71
  go_wp2_with fail
  refine HTK.out.mono ?_
  rintro e W1 ⟨b,v1,rfl,hnd,hcs,hsm,hcf⟩
  have hcf0:=(CF.of0 HE0.out).trans hcf
  have HFK1:=hi_ (HFK.out.cf HCS0.out.sy hcf)
  obtain⟨pp,cp,pk,ck,pr,cr,c0,c1, -, -,hps, -, -, -⟩:=NodeB.cells hnd
  obtain⟨N,hN⟩: ∃N,N=List.length (α:=Pr) t:=⟨_,rfl⟩
  rw [<-hN] at c1 hps
  obtain⟨HN,HPS,HCS,HSM,HCF⟩:=h_5 hN hps hcs hsm hcf0
  clear hnd hcs hsm hcf hcf0 hps hN HTK HFK HCS0 HE0
  go_wp2_with fail
  obtain⟨val,hs1,hs2,hfe⟩:=HFK1.out;refine(he_ kb vb key val (.slice pp N cp) t W1 hs1 hs2 HPS.out.rd HND.out.1 (by have:=HND.out.2.2;omega)).mono ?_;rw [<-hfe]
  intro e W2 hpost
  cases hft:f t with
  | error k=>
   rw [hft] at hpost
   obtain⟨rfl,hE2⟩:=hpost
   obtain rfl:=HE7.out t k hft
   have hzz:=HZ.out
   rw [hft] at hzz
   have HZZ:=hi_ hzz
   clear hft hzz HZ
   go_wp2
   go_ret2
   rw [HZZ.out]
   exact⟨v1,_,rfl,HCS.out.ext0 hE2,HSM.out,HCF.out.trans (CF.of0 hE2)⟩
  | ok l2=>
   rw [hft] at hpost
   obtain⟨u,rfl,how,hfr,hE2⟩:=hpost
   obtain⟨pu,cu,rfl,_⟩:=how.rd.len_eq
   obtain⟨h1,h2,h3,h4⟩:=HF.out.ok t l2 HND.out.1 HND.out.2.1 hft
   have hzz:=HZ.out
   rw [hft] at hzz
   have HZZ:=hi_ hzz
   have h5:GoodT 0 l2:=⟨by have h6:=HND.out.2.2;show l2.length<=900;omega,h2⟩
   obtain⟨HG2,HOW,HE2⟩:=h_3 h5 how hE2
   clear hft hzz HZ how hfr hE2 h1 h2 h3 h4 h5 c0 c1
   go_wp2_with fail
   have hEa:=(Ext.refl [] W2).alloc (.cells #[.bool true,.slice pu l2.length cu,.slice none 0 0,.slice none 0 0] 125)
   have hnb:NodeR (W2.alloc (.cells #[.bool true,.slice pu l2.length cu,.slice none 0 0,.slice none 0 0] 125)) 0 W2.heap.size l2:=⟨.slice pu l2.length cu,.slice none 0 0,.slice none 0 0,heap_alloc_new W2 _,HOW.out.ext0 hEa,.inl ⟨rfl,rfl⟩,.inl ⟨rfl,rfl⟩⟩
   refine(be_ 0 _ W2.heap.size l2 [] _ (Nat.le_refl _) hnb HG2.out).mono ?_
   rintro e W3 ⟨u3,xs,rfl,how3,hpc3,hE3, -⟩
   obtain⟨HO3,HP3⟩:=h_2 how3 hpc3
   have HE3:=hi_ ((HE2.out.trans hEa).trans hE3)
   clear how3 hpc3 hE3 hEa hnb
   go_wp2
   go_ret2
   rw [HZZ.out]
   exact⟨u3,xs,v1,rfl,HCS.out.ext0 HE3.out,HO3.out,HP3.out,HSM.out,HCF.out.trans (CF.of0 HE3.out)⟩
 | drop kb=>
  simp only [fkV]
  have HZ:=hi_ hz
  clear hz
  go_enter Tryz.func71,Tryz.ntmps71
  go_wp2_with fail
  refine HTK.out.mono ?_
  rintro e W1 ⟨b,v1,rfl,hnd,hcs,hsm,hcf⟩
  have hcf0:=(CF.of0 HE0.out).trans hcf
  have HFK1:=hi_ (HFK.out.cf HCS0.out.sy hcf)
  obtain⟨pp,cp,pk,ck,pr,cr,c0,c1, -, -,hps, -, -, -⟩:=NodeB.cells hnd
  obtain⟨N,hN⟩: ∃N,N=List.length (α:=Pr) t:=⟨_,rfl⟩
  rw [<-hN] at c1 hps
  obtain⟨HN,HPS,HCS,HSM,HCF⟩:=h_5 hN hps hcs hsm hcf0
  clear hnd hcs hsm hcf hcf0 hps hN HTK HFK HCS0 HE0
  go_wp2_with fail
  obtain⟨hs1,hfe⟩:=HFK1.out;refine(fB_ kb key (.slice pp N cp) t W1 hs1 HPS.out.rd HND.out.1 (by have:=HND.out.2.2;omega)).mono ?_;rw [<-hfe]
  intro e W2 hpost
  cases hft:f t with
  | error k=>
   rw [hft] at hpost
   obtain⟨rfl,hE2⟩:=hpost
   obtain rfl:=HE7.out t k hft
   have hzz:=HZ.out
   rw [hft] at hzz
   have HZZ:=hi_ hzz
   clear hft hzz HZ
   go_wp2
   go_ret2
   rw [HZZ.out]
   exact⟨v1,_,rfl,HCS.out.ext0 hE2,HSM.out,HCF.out.trans (CF.of0 hE2)⟩
  | ok l2=>
   rw [hft] at hpost
   obtain⟨u,rfl,how,hfr,hE2⟩:=hpost
   obtain⟨pu,cu,rfl,_⟩:=how.rd.len_eq
   obtain⟨h1,h2,h3,h4⟩:=HF.out.ok t l2 HND.out.1 HND.out.2.1 hft
   have hzz:=HZ.out
   rw [hft] at hzz
   have HZZ:=hi_ hzz
   have h5:GoodT 0 l2:=⟨by have h6:=HND.out.2.2;show l2.length<=900;omega,h2⟩
   obtain⟨HG2,HOW,HE2⟩:=h_3 h5 how hE2
   clear hft hzz HZ how hfr hE2 h1 h2 h3 h4 h5 c0 c1
   go_wp2_with fail
   have hEa:=(Ext.refl [] W2).alloc (.cells #[.bool true,.slice pu l2.length cu,.slice none 0 0,.slice none 0 0] 125)
   have hnb:NodeR (W2.alloc (.cells #[.bool true,.slice pu l2.length cu,.slice none 0 0,.slice none 0 0] 125)) 0 W2.heap.size l2:=⟨.slice pu l2.length cu,.slice none 0 0,.slice none 0 0,heap_alloc_new W2 _,HOW.out.ext0 hEa,.inl ⟨rfl,rfl⟩,.inl ⟨rfl,rfl⟩⟩
   refine(be_ 0 _ W2.heap.size l2 [] _ (Nat.le_refl _) hnb HG2.out).mono ?_
   rintro e W3 ⟨u3,xs,rfl,how3,hpc3,hE3, -⟩
   obtain⟨HO3,HP3⟩:=h_2 how3 hpc3
   have HE3:=hi_ ((HE2.out.trans hEa).trans hE3)
   clear how3 hpc3 hE3 hEa hnb
   go_wp2
   go_ret2
   rw [HZZ.out]
   exact⟨u3,xs,v1,rfl,HCS.out.ext0 HE3.out,HO3.out,HP3.out,HSM.out,HCF.out.trans (CF.of0 HE3.out)⟩
def ofK {n:Nat} (t:List (Pc n)) (k:Nat):Ky:=if k=0 then [] else y_ t k
def bH_ {n:Nat} (t:List (Pc n)) (i:Nat) (sub:List (Pc n)) (k:Nat):List (Pc n):=if k=i then j_ (ofK t k) sub else match t[k]? with
 | some x=> [(ofK t k,x.2)]
 | none=> []
def allU {n:Nat} (t:List (Pc n)) (i:Nat) (sub:List (Pc n)):Nat->List (Pc n)
 | 0=> []
 | k+1=> allU t i sub k++bH_ t i sub k
theorem ia_ {t:List (Pc n)} {x:Pc n} (h:t[k]? =some x):(j_ [] t)[k]? =some (ofK t k,x.2):=by
 cases t with
 | nil=> simp at h
 | cons a r=>
  cases k with
  | zero=> simp at h;subst h;rfl
  | succ k=>
   simp at h
   rw [j_,List.getElem?_cons_succ,h,ofK,if_neg (by omega),y_,List.getElem?_cons_succ,h]
   rfl
theorem cy_ {t:List (Pc n)} {sub:List (Pc n)} {x:Pc n} (h:t[k]? =some x) (hk:k≠i):bH_ t i sub k= [(ofK t k,x.2)]:=by
 rw [bH_,if_neg hk,h]
theorem allU_lo {t:List (Pc n)} {sub:List (Pc n)}: ∀k,k<=i->k<=t.length->allU t i sub k=(j_ [] t).take k
 | 0,_,_=> by simp [allU]
 | k+1,hi,hl=> by
  obtain⟨x,hx⟩: ∃x,t[k]? =some x:=⟨_,List.getElem?_eq_getElem (by omega)⟩
  rw [allU,allU_lo k (by omega) (by omega),cy_ hx (by omega),List.take_add_one,ia_ hx]
  rfl
theorem allU_hi {t:List (Pc n)} {sub:List (Pc n)} (hi:i < t.length): ∀m,i+1+m<=t.length->allU t i sub (i+1+m)=(j_ [] t).take i++j_ (y_ (j_ [] t) i) sub++(t.drop (i+1)).take m
 | 0,_=> by
  rw [Nat.add_zero,allU,allU_lo i (Nat.le_refl _) (by omega),bH_,if_pos rfl,aF_,ofK]
  simp
 | m+1,hl=> by
  obtain⟨x,hx⟩: ∃x,t[i+1+m]? =some x:=⟨_,List.getElem?_eq_getElem (by omega)⟩
  have e:i+1+(m+1)=(i+1+m)+1:=by omega
  have hk:ofK t (i+1+m)=x.1:=by rw [ofK,if_neg (by omega),y_,hx];rfl
  rw [e,allU,allU_hi hi m (by omega),cy_ hx (by omega),List.take_add_one,List.getElem?_drop,hx,hk]
  simp
theorem allU_all {t:List (Pc n)} {sub:List (Pc n)} (hi:i < t.length):allU t i sub t.length=allF t i sub:=by
 have h:=allU_hi (sub:=sub) hi (t.length - (i+1)) (by omega)
 rw [show i+1+(t.length - (i+1))=t.length by omega] at h
 rw [h,allF]
 congr 1
 exact List.take_of_length_le (by rw [List.length_drop];omega)
theorem dh_ {t:List (Pc n)} {i:Nat} {sub:List (Pc n)}: ∀k,(allU t i sub k).length<=k+sub.length
 | 0=> by simp [allU]
 | k+1=> by
  have ih:=dh_ (t:=t) (i:=i) (sub:=sub) k
  rw [allU,List.length_append]
  by_cases hk:k=i
  ·subst hk
   have h: ∀k',k'<=k->(allU t k sub k').length<=k':=fun k' hk'=> by
    induction k' with
    | zero=> simp [allU]
    | succ j ihj=>
     have:=ihj (by omega)
     have h2:(bH_ t k sub j).length<=1:=by
      rw [bH_,if_neg (by omega)]
      cases t[j]? <;> simp
     rw [allU,List.length_append];omega
   have:=h k (Nat.le_refl _)
   rw [bH_,if_pos rfl,Q_];omega
  ·have h2:(bH_ t i sub k).length<=1:=by
    rw [bH_,if_neg hk]
    cases t[k]? <;> simp
   omega
theorem cO_ {l:List (Pc n)} {x:Pc n} (k:Ky) (h:l[0]? =some x):(j_ k l)[0]? =some (k,x.2):=by
 cases l with
 | nil=> simp at h
 | cons a r=> simp at h;subst h;rfl
theorem cN_ {l:List (Pc n)} {x:Pc n} (k:Ky) {j:Nat} (hj:j≠0) (h:l[j]? =some x):(j_ k l)[j]? =some x:=by
 cases l with
 | nil=> simp at h
 | cons a r=>
  cases j with
  | zero=> exact absurd rfl hj
  | succ j=> simpa [j_] using h
theorem bj_ {pv:Option Addr} (W0:World) (x:Pcm) (hn:n=W0.heap.size) (hp:pv=Option.map (fun b=> (⟨b,0,none⟩:Addr)) x.1.2):EPc.Rd (W0.alloc (.cells #[.int .i64 x.1.1.1,.int .i64 x.1.1.2.1,.int .i64 x.1.1.2.2.1,.string ⟨x.1.1.2.2.2.toArray⟩,.pointer pv,.string ⟨x.2.toArray⟩] T)) (.slice (some ⟨n,0,none⟩) 1 1) [x]:=by
 subst hn hp
 refine .inr ⟨W0.heap.size,0,1,rfl,Nat.le_refl _,by simp,fun j u hj=> ?_⟩
 rw [cell_of_row _ W0.heap.size _ _ _ _ (heap_alloc_new _ _)]
 match j,hj with
 | 0,hj=> exact hj
 | 1,hj=> exact hj
 | 2,hj=> exact hj
 | 3,hj=> exact hj
 | 4,hj=> exact hj
 | 5,hj=> exact hj
 | j+6,hj=> simp [EPc,Enc.flat] at hj
def EdWalk (L:List Blk) (key:Ky) (f:List Pr->Except Int (List Pr)) (fk:Fk) (n:Nat):Prop:=
 ∀(y:Sy) (v:Sv) (cb:Nat) (gs:List Ptr4) (yv:Rfm) (r:Rf n) (w:World),CS y v L cb gs w->KidR (NodeR w n) yv r->DskK L n r->NdT L n r.2->FkR w key f fk->gs.length+(bkR r).length<=40000->
  Calls Tryz.prog 71 #[.pointer (some ⟨cb,0,none⟩),refV yv,.string ⟨key.toArray⟩,fkV fk] w (fn_ y v L cb gs n (ay_ n r key f) w)
theorem tredit1_b (hf:EdF key f) (he7: ∀l e,f l= .error e->e=7) (fk:Fk) (ih:EdWalk L key f fk n)
  (y:Sy) (v:Sv) (cb:Nat) (gs:List Ptr4) (yv:Rfm) (o:Option Ptr4) (t:List (Pc n)) (w:World) (h:CS y v L cb gs w) (hk:KidR (n:=n+1) (NodeR w (n+1)) yv (o,t)) (hK:DskK L (n+1) (o,t)) (hn:NdT L (n+1) t) (hfk:FkR w key f fk) (hgl:gs.length+(o.toList++bkP t).length<=40000):
  Calls Tryz.prog 71 #[.pointer (some ⟨cb,0,none⟩),refV yv,.string ⟨key.toArray⟩,fkV fk] w (fn_ y v L cb gs (n+1) (ay_ (n+1) (o,t) key f) w):=by
 have hko:=hn.kidOk (t:=t) key
 obtain⟨i,hi⟩: ∃i,i=kidF t key:=⟨_,rfl⟩
 have hil:leK (o_ t) key=i:=by rw [hi,kidF_eq]
 rw [<-hi] at hko
 have hnb:PcsOk L n t:=hn.nb
 obtain⟨k,hk0⟩: ∃k:Pc n,t[i]? =some k:=⟨_,List.getElem?_eq_getElem hko.lt⟩
 have hpk:=hnb.all k (List.mem_of_getElem? hk0)
 obtain⟨eL1,eL2⟩:=cH_ hf n k.2 hpk.nd
 have hes:ay_ (n+1) (o,t) key f=(match ay_ n k.2 key f with | .error e=> .error e | .ok (sub,g)=> .ok (i_ (n+1) (n_ n (allF t i sub)).1 [],o.toList++g++(n_ n (allF t i sub)).2)):=by
  have h1:=cI_ (o,t) key f (k:=k) (by show t[kidF t key]? =some k;rw [<-hi];exact hk0)
  rw [hi]
  exact h1
 obtain⟨res,hres⟩: ∃z,z=ay_ (n+1) (o,t) key f:=⟨_,rfl⟩
 rw [<-hres]
 rw [hes] at hres
 have hsub:ay_ n k.2 key f= .error 7\/ ∃sub g l2,ay_ n k.2 key f= .ok (sub,g)/\f (prs n k.2.2)= .ok l2/\EditOk L n k.2 l2 sub g:=by
  cases hfk:f (prs n k.2.2) with
  | error e=> left;rw [eL1 e hfk,he7 _ _ hfk]
  | ok l2=>
   right
   obtain⟨sub,g,a,b⟩:=eL2 l2 hfk
   exact⟨sub,g,l2,a,rfl,b⟩
 have hbk:=bk_at hk0
 have hgk:(bkP t).length=(bkP (t.take i)).length+(bkR k.2).length+(bkP (t.drop (i+1))).length:=by rw [hbk];simp only [List.length_append]
 rw [List.length_append] at hgl
 have hol:o.toList.length<=1:=by cases o <;> simp
 have htl:t.length<=256:=S_ hn.sz
 have hE0:Ext [] w (w.alloc (.cells (refV yv).cells 89)):=(Ext.refl [] w).alloc _
 have htk:=hc_ y v L cb gs (n+1) yv (o,t) _ (h.ext0 hE0) (hk.mono (fun b hb=> hb.ext0 hE0)) hK hn.good (by omega)
 obtain⟨HF,HIH,HND,HKO,HK0,HPK,HIL,HSUB⟩:=h_8 hf ih hn hko hk0 hpk hil hsub
 have HRES:=hi_ hres
 have HFK:=hi_ (hfk.ext0 hE0)
 have HCS0:=hi_ (h.ext0 hE0)
 obtain⟨HTK,HE0⟩:=h_2 htk hE0
 have HGL:Hid (gs.length+o.toList.length+(bkR k.2).length<=40000):=hi_ (by omega)
 have HML:=hi_ htl
 have hiM:i < t.length:=hko.lt
 clear h hk hK hn hfk htk hE0 hf he7 ih hko hk0 hpk hil hsub hres hes hi hnb eL1 eL2 hbk hgk hgl hol
 simp only [refV,ptV,Value.cells] at HTK HFK HCS0 HE0 ⊢
 obtain⟨pv0,hpv⟩: ∃q,q=Option.map (fun b=> (⟨b,0,none⟩:Addr)) yv.2:=⟨_,rfl⟩
 rw [<-hpv] at HTK HFK HCS0 HE0 ⊢
 clear hpv
 obtain⟨fv,hfv⟩: ∃z,z=fkV fk:=⟨_,rfl⟩
 rw [<-hfv]
 have HFV:=hi_ hfv
 clear hfv
 go_enter Tryz.func71,Tryz.ntmps71
 go_wp2_with fail
 refine HTK.out.mono ?_
 rintro e W1 ⟨b,v1,rfl,hnd,hcs,hsm,hcf⟩
 have HCF:=hi_ ((CF.of0 HE0.out).trans hcf)
 have HFK1:=hi_ (HFK.out.cf HCS0.out.sy hcf)
 obtain⟨HCS,HSM,HNR⟩:=h_3 hcs hsm hnd
 obtain⟨rs,hnb,hkr⟩:=hnd
 obtain⟨pp,cp,pk,ck,pr,cr,c0, -, -,c3, -,hks,hrs, -⟩:=hnb.cells
 obtain⟨M,hM⟩: ∃M,M=t.length:=⟨_,rfl⟩
 have HM:=hi_ hM
 have hrl:rs.length=M:=by rw [hkr.1,hM]
 rw [hrl] at c3 hrs
 rw [<-hM] at hiM htl
 have hkc:=trkid_c b (o_ t) rs [] false key W1 hnb (by rw [t_];omega) HND.out.wf.succ.1
 rw [HIL.out] at hkc
 have HKC:=hi_ hkc
 obtain⟨g,oo,rfl⟩: ∃g o,pr=some ⟨g,o,none⟩:=by
  rcases hrs with ⟨h,_⟩ | ⟨g,o,c,_,h,_⟩
  ·simp only [Value.slice.injEq] at h;omega
  ·simp only [Value.slice.injEq] at h;exact⟨g,_,h.1⟩
 have hirs:i < rs.length:=by omega
 obtain⟨n0,n1,n2,n3,n4⟩:=ba_ hrs.rd i hirs
 obtain⟨yk,hyk⟩: ∃yk,rs[i]? =some yk:=⟨_,List.getElem?_eq_getElem hirs⟩
 have hyd:rs.getD i R0=yk:=by simp [List.getD,hyk]
 rw [hyd] at n0 n1 n2 n3 n4
 have hkk:=hkr.2 i yk k hyk HK0.out
 have hih:=HIH.out y v1 cb (gs++o.toList) yk k.2 W1 hcs hkk HPK.out.dk HPK.out.nd HFK1.out (by have:=HGL.out;rw [List.length_append];omega)
 rw [<-HFV.out] at hih
 simp only [refV,ptV] at hih n4
 obtain⟨pv1,hpv⟩: ∃q,q=Option.map (fun b=> (⟨b,0,none⟩:Addr)) yk.2:=⟨_,rfl⟩
 rw [<-hpv] at hih n4
 have HED:=hi_ hih
 have zi:(i:Int) < (M:Int):=by omega
 have zi2:((i:Int)).toNat=i:=by omega
 clear hpv hih hkk hyd hyk hirs hrs hks hkr hnb hcs hsm hcf hkc hrl hM HTK HE0 HCS0 HFK HIH
 go_wp2_with fail
 refine HKC.out.mono ?_
 rintro e W2 ⟨rfl,hw2⟩
 rw [hw2]
 clear hw2 W2 HKC
 go_wp2_with fail
 refine HED.out.mono ?_
 intro e W3 hpost
 rcases HSUB.out with hs7 | ⟨sub,gsub,l2,hs7,hfl2,heo⟩
 ·rw [hs7] at hpost
  obtain⟨v3,gs3,rfl,hcs3,hsm3,hcf3⟩:=hpost
  have hr:=HRES.out
  rw [hs7] at hr
  have HR:=hi_ hr
  have HX:=hi_ (⟨hcs3,HSM.out.trans hsm3,HCF.out.trans hcf3⟩:CS y v3 L cb gs3 W3/\SameV v v3/\CF y cb w W3)
  clear hr hs7 hcs3 hsm3 hcf3 HED n0 n1 n2 n3 n4 c0 c3
  go_wp2
  go_ret2
  rw [HR.out]
  exact⟨v3,gs3,rfl,HX.out⟩
 ·rw [hs7] at hpost
  obtain⟨u,xs,v3,rfl,hts⟩:=hpost
  have hr:=HRES.out
  rw [hs7] at hr
  have HR:=hi_ hr
  obtain⟨⟨ha1, -, -⟩,hal⟩:=eX_ HF.out HND.out HKO.out HK0.out hfl2 heo
  obtain⟨HAO,HAOL⟩:=h_2 ha1 hal
  have HSL:=hi_ heo.len
  have HGB:Hid ((gs++o.toList++gsub).length<=40000):=hi_ (by
   have h1:=heo.bk.length_eq
   have h2:=HGL.out
   simp only [List.length_append] at h1 h2 ⊢
   omega)
  obtain⟨pu,cu,rfl,_⟩:=hts.ow.rd.len_eq
  obtain⟨S,hS⟩: ∃S,S=xs.length:=⟨_,rfl⟩
  have HSS:Hid (S=sub.length):=hi_ (by rw [hS,hts.pcs.1])
  rw [<-hS] at hts ⊢
  have HCF3:=hi_ (HCF.out.trans hts.cf)
  have HSM3:=hi_ (HSM.out.trans hts.same)
  obtain⟨rs3,hnb3,hkr3⟩:=NodeR.cf HCS.out.sy hts.cf (n+1) b t HNR.out
  obtain⟨pp3,cp3,pk3,ck3,pr3,cr3, -, -,d2,d3, -,hks3,hrs3, -⟩:=hnb3.cells
  have hrl3:rs3.length=M:=by rw [hkr3.1,HM.out]
  rw [hrl3] at d3 hrs3
  rw [t_,<-HM.out] at d2 hks3
  obtain⟨HTS,HKS3,HRS3,HKR3,HRL3⟩:=h_5 hts hks3 hrs3 hkr3 hrl3
  obtain⟨g3,o3,rfl⟩: ∃g o,pr3=some ⟨g,o,none⟩:=by
   rcases HRS3.out with ⟨h,_⟩ | ⟨g,o,c,_,h,_⟩
   ·simp only [Value.slice.injEq] at h;omega
   ·simp only [Value.slice.injEq] at h;exact⟨g,_,h.1⟩
  clear hs7 hr ha1 hal heo hts hS hrs3 hks3 hkr3 hrl3 hnb3 HED n0 n1 n2 n3 n4 c0 c3 HNR hfl2 HSUB HRES zi
  go_wp2_with fail
  go_loopw [16,76] (fun av iv wr=> ∃(k9:Nat) (xa:List Pcm),k9<=M/\iv= .int .i64 k9/\Hid (EPc.Ow 184 wr av xa)/\Hid (∀g∈blkL av,W3.heap.size<=g)/\Hid (PcsR (NodeR wr n) xa (allU t i sub k9))/\Hid (Ext [] W3 wr)) (fun _ iv _=> M - (intOf iv).toNat)
  case atStart=> exact⟨0,[],Nat.zero_le _,rfl,hi_ (.inl ⟨rfl,rfl⟩),hi_ (by simp [blkL]),hi_ PcsR.nil,hi_ (Ext.refl _ _)⟩
  case round=>
   obtain⟨k9,xa,hk9,rfl,HA,HAF,HP,HE⟩:=hrel
   obtain⟨pa,ca,rfl,_⟩:=HA.out.rd.len_eq
   obtain⟨A,hA⟩: ∃a,a=xa.length:=⟨_,rfl⟩
   have hal:A<=600:=by
    rw [hA,HP.out.1]
    have h1:=dh_ (t:=t) (i:=i) (sub:=sub) k9
    have h3:=HSL.out
    omega
   rw [<-hA] at HA HAF
   simp only [<-hA]
   have HAL:Hid (xa.length<=900):=hi_ (by rw [<-hA];omega)
   clear hal
   have HA0:=hi_ hA
   clear hA
   by_cases hlt:k9 < M
   ·have z1:(k9:Int) < (M:Int):=by omega
    obtain⟨xk,hxk⟩: ∃x:Pc n,t[k9]? =some x:=⟨_,List.getElem?_eq_getElem (by rw [<-HM.out];exact hlt)⟩
    have hkrs:k9 < rs3.length:=by rw [HRL3.out];exact hlt
    obtain⟨yk2,hyk2⟩: ∃y,rs3[k9]? =some y:=⟨_,List.getElem?_eq_getElem hkrs⟩
    obtain⟨m0,m1,m2,m3,m4⟩:=ba_ (HRS3.out.rd.ext0 HE.out) k9 hkrs
    have hyd:rs3.getD k9 R0=yk2:=by simp [List.getD,hyk2]
    rw [hyd] at m0 m1 m2 m3 m4
    have hkk:=(HKR3.out.2 k9 yk2 xk hyk2 hxk)
    obtain⟨pv,hpv⟩: ∃q,q=Option.map (fun b=> (⟨b,0,none⟩:Addr)) yk2.2:=⟨_,rfl⟩
    simp only [ptV] at m4
    rw [<-hpv] at m4
    obtain⟨HPV,HXK,HKK⟩:=h_3 hpv hxk hkk
    have hbx:=heap_alloc_new wr (.cells #[.int .i64 yk2.1.1,.int .i64 yk2.1.2.1,.int .i64 yk2.1.2.2.1,.string ⟨yk2.1.2.2.2.toArray⟩,.pointer pv] 89)
    have hEx:Ext [] wr (wr.alloc (.cells #[.int .i64 yk2.1.1,.int .i64 yk2.1.2.1,.int .i64 yk2.1.2.2.1,.string ⟨yk2.1.2.2.2.toArray⟩,.pointer pv] 89)):=(Ext.refl [] wr).alloc _
    obtain⟨HBX,HEx⟩:=h_2 hbx hEx
    obtain⟨bx,hbxe⟩: ∃b,b=wr.heap.size:=⟨_,rfl⟩
    clear hpv hkk hyd hyk2 hkrs hbx
    by_cases h0:k9=0
    ·have y0: ¬(0 < k9):=by omega
     have HOV:Hid (([]:Ky)=ofK t k9):=hi_ (by rw [ofK,if_pos h0])
     clear hEx hxk
     by_cases hki:k9=i
     ·have y2:((k9:Int) !=(i:Int))=false:=by simp [hki]
      have HKI:=hi_ hki
      clear hki h0
      go_wp2_with fail
      go_loopw [16,102] (fun av2 jv wr2=> ∃(j:Nat) (xb:List Pcm),j<=S/\jv= .int .i64 j/\Hid (EPc.Ow 184 wr2 av2 xb)/\Hid (∀g∈blkL av2,W3.heap.size<=g)/\Hid (PcsR (NodeR wr2 n) xb (allU t i sub k9++(j_ [] sub).take j))/\Hid (Ext [] W3 wr2)) (fun _ jv _=> S - (intOf jv).toNat)
      case atStart=> exact⟨0,xa,Nat.zero_le _,rfl,hi_ (HA.out.ext0 HEx.out),HAF,hi_ (by rw [List.take_zero,List.append_nil];exact HP.out.mono (fun b t h=> h.ext0 HEx.out)),hi_ (HE.out.trans HEx.out)⟩
      case round=>
       clear HA HAF HP HE HBX HEx
       obtain⟨j,xb,hj,rfl,HA,HAF,HP,HE⟩:=hrel
       obtain⟨pa2,ca2,rfl,_⟩:=HA.out.rd.len_eq
       obtain⟨A2,hA2⟩: ∃a,a=xb.length:=⟨_,rfl⟩
       have hal:A2<=900:=by
        rw [hA2,HP.out.1,List.length_append,List.length_take]
        have h1:=dh_ (t:=t) (i:=i) (sub:=sub) k9
        have h4:=Q_ [] sub
        have h2:=HML.out
        have h3:=HSL.out
        omega
       rw [<-hA2] at HA HAF
       simp only [<-hA2]
       obtain⟨HAL,HA2⟩:=h_2 hal hA2
       clear hA2 hal
       by_cases hlj:j < S
       ·have zj:(j:Int) < (S:Int):=by omega
        have hS9:S<=260:=by have h1:=HSS.out;have h2:=HSL.out;omega
        obtain⟨xs2,hxs2⟩: ∃x:Pc n,sub[j]? =some x:=⟨_,List.getElem?_eq_getElem (by have:=HSS.out;omega)⟩
        obtain⟨Y,hY,hky,hyk⟩:=HTS.out.pcs.at hxs2
        obtain⟨gu,ou,rfl⟩: ∃g o,pu=some ⟨g,o,none⟩:=by
         rcases HTS.out.ow with ⟨h,_⟩ | ⟨g,o,c,_,h,_⟩
         ·simp only [Value.slice.injEq] at h;omega
         ·simp only [Value.slice.injEq] at h;exact⟨g,_,h.1⟩
        obtain⟨m0,m1,m2,m3,m4,m5⟩:=bp_ (HTS.out.ow.rd.ext0 HE.out) j Y hY
        obtain⟨pw,hpw⟩: ∃q,q=Option.map (fun b=> (⟨b,0,none⟩:Addr)) Y.1.2:=⟨_,rfl⟩
        simp only [ptV] at m4
        rw [<-hpw] at m4
        obtain⟨HPW,HKY,HYK,HXS⟩:=h_4 hpw hky hyk hxs2
        have hbz:=heap_alloc_new wr (.cells #[.int .i64 Y.1.1.1,.int .i64 Y.1.1.2.1,.int .i64 Y.1.1.2.2.1,.string ⟨Y.1.1.2.2.2.toArray⟩,.pointer pw,.string ⟨Y.2.toArray⟩] 184)
        have hEz:Ext [] wr (wr.alloc (.cells #[.int .i64 Y.1.1.1,.int .i64 Y.1.1.2.1,.int .i64 Y.1.1.2.2.1,.string ⟨Y.1.1.2.2.2.toArray⟩,.pointer pw,.string ⟨Y.2.toArray⟩] 184)):=(Ext.refl [] wr).alloc _
        obtain⟨HBZ,HEz⟩:=h_2 hbz hEz
        obtain⟨bz,hbze⟩: ∃b,b=wr.heap.size:=⟨_,rfl⟩
        clear hbz hEz hpw hky hyk hY hxs2
        by_cases hj0:j=0
        ·have y5:((j:Int)==0)=true:=by simp [hj0]
         have HJ0:=hi_ hj0
         clear hj0
         go_wp2_with (with_reducible refine f_ (d:=114) ?_)
         have hE5:Ext [] wr ((wr.alloc (.cells #[.int .i64 Y.1.1.1,.int .i64 Y.1.1.2.1,.int .i64 Y.1.1.2.2.1,.string ⟨Y.1.1.2.2.2.toArray⟩,.pointer pw,.string ⟨([]).toArray⟩] 184)).alloc (.cells #[.int .i64 Y.1.1.1,.int .i64 Y.1.1.2.1,.int .i64 Y.1.1.2.2.1,.string ⟨Y.1.1.2.2.2.toArray⟩,.pointer pw,.string ⟨([]).toArray⟩] 184)):=((Ext.refl [] wr).alloc _).alloc _
         refine k_ rfl fun K hK=> b_ (s:= .tmp 111) (x:= .tmp 113) (E:=EPc) (T:=184) (zero:=(R0,[])) (bytes:=64) (v:= .slice pa2 A2 ca2) (xs:=xb) (ys:= [(Y.1,[])]) tiPc Tryz.underlying147 Tryz.underlying147 rfl rfl rfl (HA.out.ext0 hE5) (bj_ (T:=184) (wr.alloc (.cells #[.int .i64 Y.1.1.1,.int .i64 Y.1.1.2.1,.int .i64 Y.1.1.2.2.1,.string ⟨Y.1.1.2.2.2.toArray⟩,.pointer pw,.string ⟨([]).toArray⟩] 184)) (Y.1,[]) (by simp) HPW.out) (by have:=HA2.out;have:=HAL.out;simp;omega) (by have:=HA2.out;have:=HAL.out;simp;omega) ?_
         intro v8 w8 how hext hnear _
         obtain⟨hE8,hf8⟩:=C_ (HE.out.trans hE5) HAF.out hext hnear
         have hpc:PcsR (NodeR w8 n) (xb++ [(Y.1,[])]) (allU t i sub k9++(j_ [] sub).take (j+1)):=by
          rw [List.take_add_one,(show (j_ [] sub)[j]? =some ([],xs2.2) by rw [HJ0.out];exact cO_ [] (by rw [<-HJ0.out];exact HXS.out)),<-List.append_assoc]
          refine PcsR.append ?_ (PcsR.one (n:=n) (N:=NodeR w8 n) (y:=(Y.1,[])) (x:=([],xs2.2)) ((HKY.out.mono (fun b h=> h.ext0 hE8))) rfl)
          refine HP.out.mono (fun b t hn=> ?_)
          exact NodeR.ext hext (fun q hq T hT=> by rw [(HA.out.ext0 hE5).tagOf q hq];intro e;cases e;exact absurd hT (by decide)) _ _ _ (hn.ext0 hE5)
         obtain⟨HA8,HF8,HP8,HE8⟩:=h_4 how hf8 hpc hE8
         refine hK _ _ ?_
         clear hK how hext hnear hpc hE8 hf8 hE5 HA HAF HP HE HBZ HEz
         go_wp2_with fail
         go_roundw
         case rel=> exact⟨j+1,_,by omega,by go_num,HA8,HF8,HP8,HE8⟩
         case measure=> simp [intOf];omega
        ·have y5:((j:Int)==0)=false:=beq_eq_false_iff_ne.2 (by omega)
         have HJ0:=hi_ hj0
         clear hj0
         go_wp2_with (with_reducible refine f_ (d:=114) ?_)
         have hE5:Ext [] wr ((wr.alloc (.cells #[.int .i64 Y.1.1.1,.int .i64 Y.1.1.2.1,.int .i64 Y.1.1.2.2.1,.string ⟨Y.1.1.2.2.2.toArray⟩,.pointer pw,.string ⟨(Y.2).toArray⟩] 184)).alloc (.cells #[.int .i64 Y.1.1.1,.int .i64 Y.1.1.2.1,.int .i64 Y.1.1.2.2.1,.string ⟨Y.1.1.2.2.2.toArray⟩,.pointer pw,.string ⟨(Y.2).toArray⟩] 184)):=((Ext.refl [] wr).alloc _).alloc _
         refine k_ rfl fun K hK=> b_ (s:= .tmp 111) (x:= .tmp 113) (E:=EPc) (T:=184) (zero:=(R0,[])) (bytes:=64) (v:= .slice pa2 A2 ca2) (xs:=xb) (ys:= [(Y.1,Y.2)]) tiPc Tryz.underlying147 Tryz.underlying147 rfl rfl rfl (HA.out.ext0 hE5) (bj_ (T:=184) (wr.alloc (.cells #[.int .i64 Y.1.1.1,.int .i64 Y.1.1.2.1,.int .i64 Y.1.1.2.2.1,.string ⟨Y.1.1.2.2.2.toArray⟩,.pointer pw,.string ⟨(Y.2).toArray⟩] 184)) (Y.1,Y.2) (by simp) HPW.out) (by have:=HA2.out;have:=HAL.out;simp;omega) (by have:=HA2.out;have:=HAL.out;simp;omega) ?_
         intro v8 w8 how hext hnear _
         obtain⟨hE8,hf8⟩:=C_ (HE.out.trans hE5) HAF.out hext hnear
         have hpc:PcsR (NodeR w8 n) (xb++ [(Y.1,Y.2)]) (allU t i sub k9++(j_ [] sub).take (j+1)):=by
          rw [List.take_add_one,(cN_ [] HJ0.out HXS.out),<-List.append_assoc]
          refine PcsR.append ?_ (PcsR.one (n:=n) (N:=NodeR w8 n) (y:=(Y.1,Y.2)) (x:=xs2) ((HKY.out.mono (fun b h=> h.ext0 hE8))) HYK.out)
          refine HP.out.mono (fun b t hn=> ?_)
          exact NodeR.ext hext (fun q hq T hT=> by rw [(HA.out.ext0 hE5).tagOf q hq];intro e;cases e;exact absurd hT (by decide)) _ _ _ (hn.ext0 hE5)
         obtain⟨HA8,HF8,HP8,HE8⟩:=h_4 how hf8 hpc hE8
         refine hK _ _ ?_
         clear hK how hext hnear hpc hE8 hf8 hE5 HA HAF HP HE HBZ HEz
         go_wp2_with fail
         go_roundw
         case rel=> exact⟨j+1,_,by omega,by go_num,HA8,HF8,HP8,HE8⟩
         case measure=> simp [intOf];omega
       ·have zj: ¬((j:Int) < (S:Int)):=by omega
        have ej:(j_ [] sub).take j=j_ [] sub:=List.take_of_length_le (by rw [Q_];have:=HSS.out;omega)
        have HP9:Hid (PcsR (NodeR wr n) xb (allU t i sub (k9+1))):=hi_ (by
         have h1:=HP.out
         rw [ej] at h1
         rw [allU,bH_,if_pos HKI.out,<-HOV.out]
         exact h1)
        clear ej HP
        go_wp2_with fail
        go_roundw
        case rel=> exact⟨k9+1,_,by omega,by go_num,HA,HAF,HP9,HE⟩
        case measure=> simp [intOf];omega
     ·have y2:((k9:Int) !=(i:Int))=true:=bne_iff_ne.2 (by omega)
      have HKI:=hi_ hki
      clear hki h0
      -- append of the kid itself
      go_wp2_with (with_reducible refine f_ (d:=99) ?_)
      have hE5:Ext [] (wr.alloc (.cells #[.int .i64 yk2.1.1,.int .i64 yk2.1.2.1,.int .i64 yk2.1.2.2.1,.string ⟨yk2.1.2.2.2.toArray⟩,.pointer pv] 89)) ((wr.alloc (.cells #[.int .i64 yk2.1.1,.int .i64 yk2.1.2.1,.int .i64 yk2.1.2.2.1,.string ⟨yk2.1.2.2.2.toArray⟩,.pointer pv] 89)).alloc (.cells #[.int .i64 yk2.1.1,.int .i64 yk2.1.2.1,.int .i64 yk2.1.2.2.1,.string ⟨yk2.1.2.2.2.toArray⟩,.pointer pv,.string ⟨[].toArray⟩] 184)):=(Ext.refl [] (wr.alloc (.cells #[.int .i64 yk2.1.1,.int .i64 yk2.1.2.1,.int .i64 yk2.1.2.2.1,.string ⟨yk2.1.2.2.2.toArray⟩,.pointer pv] 89))).alloc _
      refine k_ rfl fun K hK=> b_ (s:= .tmp 94) (x:= .tmp 98) (E:=EPc) (T:=184) (zero:=(R0,[])) (bytes:=64) (v:= .slice pa A ca) (xs:=xa) (ys:= [(yk2,[])]) tiPc Tryz.underlying147 Tryz.underlying147 rfl rfl rfl ((HA.out.ext0 HEx.out).ext0 hE5) (bj_ (T:=184) (wr.alloc (.cells #[.int .i64 yk2.1.1,.int .i64 yk2.1.2.1,.int .i64 yk2.1.2.2.1,.string ⟨yk2.1.2.2.2.toArray⟩,.pointer pv] 89)) (yk2,[]) (by simp) HPV.out) (by have:=HAL.out;simp;omega) (by have:=HAL.out;simp;omega) ?_
      intro v8 w8 how hext hnear _
      obtain⟨hE8,hf8⟩:=C_ ((HE.out.trans HEx.out).trans hE5) HAF.out hext hnear
      have hpc:PcsR (NodeR w8 n) (xa++ [(yk2,[])]) (allU t i sub (k9+1)):=by
       rw [allU,cy_ HXK.out HKI.out]
       refine PcsR.append ?_ (PcsR.one (n:=n) (N:=NodeR w8 n) (y:=(yk2,[])) (x:=(ofK t k9,xk.2)) ((HKK.out.mono (fun b h=> h.ext0 hE8))) HOV.out)
       refine HP.out.mono (fun b t hn=> ?_)
       exact NodeR.ext hext (fun q hq T hT=> by rw [((HA.out.ext0 HEx.out).ext0 hE5).tagOf q hq];intro e;cases e;exact absurd hT (by decide)) _ _ _ ((hn.ext0 HEx.out).ext0 hE5)
      obtain⟨HA8,HF8,HP8,HE8⟩:=h_4 how hf8 hpc hE8
      refine hK _ _ ?_
      clear hK how hext hnear hpc hE8 hf8 hE5 HA HAF HP HE HBX HEx
      go_wp2_with fail
      go_roundw
      case rel=> exact⟨k9+1,_,by omega,by go_num,HA8,HF8,HP8,HE8⟩
      case measure=> simp [intOf];omega
    ·have y0:0 < k9:=by omega
     have hkl:k9 - 1 < (o_ t).length:=by rw [t_,<-HM.out];omega
     obtain⟨gk,ok,rfl⟩: ∃g o,pk3=some ⟨g,o,none⟩:=by
      rcases HKS3.out with ⟨h,_⟩ | ⟨g,o,c,_,h,_⟩
      ·simp only [Value.slice.injEq] at h;omega
      ·simp only [Value.slice.injEq] at h;exact⟨g,_,h.1⟩
     have mk:=bz_ (HKS3.out.rd.ext0 (HE.out.trans hEx)) (k9 - 1) hkl
     have d2':=(HE.out.trans hEx).cell d2 (by simp)
     obtain⟨ov,hov⟩: ∃k:Ky,k=(o_ t).getD (k9 - 1) []:=⟨_,rfl⟩
     rw [<-hov] at mk
     have HOV:Hid (ov=ofK t k9):=hi_ (by
      have h1:=bl_ t (k9 - 1) (by rw [<-HM.out];omega)
      rw [hov,h1,ofK,if_neg h0]
      congr 1
      omega)
     have z4:IntKind.i64.wrap ((k9:Int) - 1)=(k9:Int) - 1:=IntWalk.i64_in _ (by omega)
     have z5:((k9:Int) - 1).toNat=k9 - 1:=by omega
     have z6:(0:Int)<=(k9:Int) - 1:=by omega
     have z7:(k9:Int) - 1 < ((M - 1:Nat):Int):=by omega
     clear hEx hxk hov hkl
     by_cases hki:k9=i
     ·have y2:((k9:Int) !=(i:Int))=false:=by simp [hki]
      have HKI:=hi_ hki
      clear hki h0
      go_wp2_with fail
      go_loopw [16,102] (fun av2 jv wr2=> ∃(j:Nat) (xb:List Pcm),j<=S/\jv= .int .i64 j/\Hid (EPc.Ow 184 wr2 av2 xb)/\Hid (∀g∈blkL av2,W3.heap.size<=g)/\Hid (PcsR (NodeR wr2 n) xb (allU t i sub k9++(j_ ov sub).take j))/\Hid (Ext [] W3 wr2)) (fun _ jv _=> S - (intOf jv).toNat)
      case atStart=> exact⟨0,xa,Nat.zero_le _,rfl,hi_ (HA.out.ext0 HEx.out),HAF,hi_ (by rw [List.take_zero,List.append_nil];exact HP.out.mono (fun b t h=> h.ext0 HEx.out)),hi_ (HE.out.trans HEx.out)⟩
      case round=>
       clear HA HAF HP HE HBX HEx
       obtain⟨j,xb,hj,rfl,HA,HAF,HP,HE⟩:=hrel
       obtain⟨pa2,ca2,rfl,_⟩:=HA.out.rd.len_eq
       obtain⟨A2,hA2⟩: ∃a,a=xb.length:=⟨_,rfl⟩
       have hal:A2<=900:=by
        rw [hA2,HP.out.1,List.length_append,List.length_take]
        have h1:=dh_ (t:=t) (i:=i) (sub:=sub) k9
        have h4:=Q_ ov sub
        have h2:=HML.out
        have h3:=HSL.out
        omega
       rw [<-hA2] at HA HAF
       simp only [<-hA2]
       obtain⟨HAL,HA2⟩:=h_2 hal hA2
       clear hA2 hal
       by_cases hlj:j < S
       ·have zj:(j:Int) < (S:Int):=by omega
        have hS9:S<=260:=by have h1:=HSS.out;have h2:=HSL.out;omega
        obtain⟨xs2,hxs2⟩: ∃x:Pc n,sub[j]? =some x:=⟨_,List.getElem?_eq_getElem (by have:=HSS.out;omega)⟩
        obtain⟨Y,hY,hky,hyk⟩:=HTS.out.pcs.at hxs2
        obtain⟨gu,ou,rfl⟩: ∃g o,pu=some ⟨g,o,none⟩:=by
         rcases HTS.out.ow with ⟨h,_⟩ | ⟨g,o,c,_,h,_⟩
         ·simp only [Value.slice.injEq] at h;omega
         ·simp only [Value.slice.injEq] at h;exact⟨g,_,h.1⟩
        obtain⟨m0,m1,m2,m3,m4,m5⟩:=bp_ (HTS.out.ow.rd.ext0 HE.out) j Y hY
        obtain⟨pw,hpw⟩: ∃q,q=Option.map (fun b=> (⟨b,0,none⟩:Addr)) Y.1.2:=⟨_,rfl⟩
        simp only [ptV] at m4
        rw [<-hpw] at m4
        obtain⟨HPW,HKY,HYK,HXS⟩:=h_4 hpw hky hyk hxs2
        have hbz:=heap_alloc_new wr (.cells #[.int .i64 Y.1.1.1,.int .i64 Y.1.1.2.1,.int .i64 Y.1.1.2.2.1,.string ⟨Y.1.1.2.2.2.toArray⟩,.pointer pw,.string ⟨Y.2.toArray⟩] 184)
        have hEz:Ext [] wr (wr.alloc (.cells #[.int .i64 Y.1.1.1,.int .i64 Y.1.1.2.1,.int .i64 Y.1.1.2.2.1,.string ⟨Y.1.1.2.2.2.toArray⟩,.pointer pw,.string ⟨Y.2.toArray⟩] 184)):=(Ext.refl [] wr).alloc _
        obtain⟨HBZ,HEz⟩:=h_2 hbz hEz
        obtain⟨bz,hbze⟩: ∃b,b=wr.heap.size:=⟨_,rfl⟩
        clear hbz hEz hpw hky hyk hY hxs2
        by_cases hj0:j=0
        ·have y5:((j:Int)==0)=true:=by simp [hj0]
         have HJ0:=hi_ hj0
         clear hj0
         go_wp2_with (with_reducible refine f_ (d:=114) ?_)
         have hE5:Ext [] wr ((wr.alloc (.cells #[.int .i64 Y.1.1.1,.int .i64 Y.1.1.2.1,.int .i64 Y.1.1.2.2.1,.string ⟨Y.1.1.2.2.2.toArray⟩,.pointer pw,.string ⟨(ov).toArray⟩] 184)).alloc (.cells #[.int .i64 Y.1.1.1,.int .i64 Y.1.1.2.1,.int .i64 Y.1.1.2.2.1,.string ⟨Y.1.1.2.2.2.toArray⟩,.pointer pw,.string ⟨(ov).toArray⟩] 184)):=((Ext.refl [] wr).alloc _).alloc _
         refine k_ rfl fun K hK=> b_ (s:= .tmp 111) (x:= .tmp 113) (E:=EPc) (T:=184) (zero:=(R0,[])) (bytes:=64) (v:= .slice pa2 A2 ca2) (xs:=xb) (ys:= [(Y.1,ov)]) tiPc Tryz.underlying147 Tryz.underlying147 rfl rfl rfl (HA.out.ext0 hE5) (bj_ (T:=184) (wr.alloc (.cells #[.int .i64 Y.1.1.1,.int .i64 Y.1.1.2.1,.int .i64 Y.1.1.2.2.1,.string ⟨Y.1.1.2.2.2.toArray⟩,.pointer pw,.string ⟨(ov).toArray⟩] 184)) (Y.1,ov) (by simp) HPW.out) (by have:=HA2.out;have:=HAL.out;simp;omega) (by have:=HA2.out;have:=HAL.out;simp;omega) ?_
         intro v8 w8 how hext hnear _
         obtain⟨hE8,hf8⟩:=C_ (HE.out.trans hE5) HAF.out hext hnear
         have hpc:PcsR (NodeR w8 n) (xb++ [(Y.1,ov)]) (allU t i sub k9++(j_ ov sub).take (j+1)):=by
          rw [List.take_add_one,(show (j_ ov sub)[j]? =some (ov,xs2.2) by rw [HJ0.out];exact cO_ ov (by rw [<-HJ0.out];exact HXS.out)),<-List.append_assoc]
          refine PcsR.append ?_ (PcsR.one (n:=n) (N:=NodeR w8 n) (y:=(Y.1,ov)) (x:=(ov,xs2.2)) ((HKY.out.mono (fun b h=> h.ext0 hE8))) rfl)
          refine HP.out.mono (fun b t hn=> ?_)
          exact NodeR.ext hext (fun q hq T hT=> by rw [(HA.out.ext0 hE5).tagOf q hq];intro e;cases e;exact absurd hT (by decide)) _ _ _ (hn.ext0 hE5)
         obtain⟨HA8,HF8,HP8,HE8⟩:=h_4 how hf8 hpc hE8
         refine hK _ _ ?_
         clear hK how hext hnear hpc hE8 hf8 hE5 HA HAF HP HE HBZ HEz
         go_wp2_with fail
         go_roundw
         case rel=> exact⟨j+1,_,by omega,by go_num,HA8,HF8,HP8,HE8⟩
         case measure=> simp [intOf];omega
        ·have y5:((j:Int)==0)=false:=beq_eq_false_iff_ne.2 (by omega)
         have HJ0:=hi_ hj0
         clear hj0
         go_wp2_with (with_reducible refine f_ (d:=114) ?_)
         have hE5:Ext [] wr ((wr.alloc (.cells #[.int .i64 Y.1.1.1,.int .i64 Y.1.1.2.1,.int .i64 Y.1.1.2.2.1,.string ⟨Y.1.1.2.2.2.toArray⟩,.pointer pw,.string ⟨(Y.2).toArray⟩] 184)).alloc (.cells #[.int .i64 Y.1.1.1,.int .i64 Y.1.1.2.1,.int .i64 Y.1.1.2.2.1,.string ⟨Y.1.1.2.2.2.toArray⟩,.pointer pw,.string ⟨(Y.2).toArray⟩] 184)):=((Ext.refl [] wr).alloc _).alloc _
         refine k_ rfl fun K hK=> b_ (s:= .tmp 111) (x:= .tmp 113) (E:=EPc) (T:=184) (zero:=(R0,[])) (bytes:=64) (v:= .slice pa2 A2 ca2) (xs:=xb) (ys:= [(Y.1,Y.2)]) tiPc Tryz.underlying147 Tryz.underlying147 rfl rfl rfl (HA.out.ext0 hE5) (bj_ (T:=184) (wr.alloc (.cells #[.int .i64 Y.1.1.1,.int .i64 Y.1.1.2.1,.int .i64 Y.1.1.2.2.1,.string ⟨Y.1.1.2.2.2.toArray⟩,.pointer pw,.string ⟨(Y.2).toArray⟩] 184)) (Y.1,Y.2) (by simp) HPW.out) (by have:=HA2.out;have:=HAL.out;simp;omega) (by have:=HA2.out;have:=HAL.out;simp;omega) ?_
         intro v8 w8 how hext hnear _
         obtain⟨hE8,hf8⟩:=C_ (HE.out.trans hE5) HAF.out hext hnear
         have hpc:PcsR (NodeR w8 n) (xb++ [(Y.1,Y.2)]) (allU t i sub k9++(j_ ov sub).take (j+1)):=by
          rw [List.take_add_one,(cN_ ov HJ0.out HXS.out),<-List.append_assoc]
          refine PcsR.append ?_ (PcsR.one (n:=n) (N:=NodeR w8 n) (y:=(Y.1,Y.2)) (x:=xs2) ((HKY.out.mono (fun b h=> h.ext0 hE8))) HYK.out)
          refine HP.out.mono (fun b t hn=> ?_)
          exact NodeR.ext hext (fun q hq T hT=> by rw [(HA.out.ext0 hE5).tagOf q hq];intro e;cases e;exact absurd hT (by decide)) _ _ _ (hn.ext0 hE5)
         obtain⟨HA8,HF8,HP8,HE8⟩:=h_4 how hf8 hpc hE8
         refine hK _ _ ?_
         clear hK how hext hnear hpc hE8 hf8 hE5 HA HAF HP HE HBZ HEz
         go_wp2_with fail
         go_roundw
         case rel=> exact⟨j+1,_,by omega,by go_num,HA8,HF8,HP8,HE8⟩
         case measure=> simp [intOf];omega
       ·have zj: ¬((j:Int) < (S:Int)):=by omega
        have ej:(j_ ov sub).take j=j_ ov sub:=List.take_of_length_le (by rw [Q_];have:=HSS.out;omega)
        have HP9:Hid (PcsR (NodeR wr n) xb (allU t i sub (k9+1))):=hi_ (by
         have h1:=HP.out
         rw [ej] at h1
         rw [allU,bH_,if_pos HKI.out,<-HOV.out]
         exact h1)
        clear ej HP
        go_wp2_with fail
        go_roundw
        case rel=> exact⟨k9+1,_,by omega,by go_num,HA,HAF,HP9,HE⟩
        case measure=> simp [intOf];omega
     ·have y2:((k9:Int) !=(i:Int))=true:=bne_iff_ne.2 (by omega)
      have HKI:=hi_ hki
      clear hki h0
      -- append of the kid itself
      go_wp2_with (with_reducible refine f_ (d:=99) ?_)
      have hE5:Ext [] (wr.alloc (.cells #[.int .i64 yk2.1.1,.int .i64 yk2.1.2.1,.int .i64 yk2.1.2.2.1,.string ⟨yk2.1.2.2.2.toArray⟩,.pointer pv] 89)) ((wr.alloc (.cells #[.int .i64 yk2.1.1,.int .i64 yk2.1.2.1,.int .i64 yk2.1.2.2.1,.string ⟨yk2.1.2.2.2.toArray⟩,.pointer pv] 89)).alloc (.cells #[.int .i64 yk2.1.1,.int .i64 yk2.1.2.1,.int .i64 yk2.1.2.2.1,.string ⟨yk2.1.2.2.2.toArray⟩,.pointer pv,.string ⟨ov.toArray⟩] 184)):=(Ext.refl [] (wr.alloc (.cells #[.int .i64 yk2.1.1,.int .i64 yk2.1.2.1,.int .i64 yk2.1.2.2.1,.string ⟨yk2.1.2.2.2.toArray⟩,.pointer pv] 89))).alloc _
      refine k_ rfl fun K hK=> b_ (s:= .tmp 94) (x:= .tmp 98) (E:=EPc) (T:=184) (zero:=(R0,[])) (bytes:=64) (v:= .slice pa A ca) (xs:=xa) (ys:= [(yk2,ov)]) tiPc Tryz.underlying147 Tryz.underlying147 rfl rfl rfl ((HA.out.ext0 HEx.out).ext0 hE5) (bj_ (T:=184) (wr.alloc (.cells #[.int .i64 yk2.1.1,.int .i64 yk2.1.2.1,.int .i64 yk2.1.2.2.1,.string ⟨yk2.1.2.2.2.toArray⟩,.pointer pv] 89)) (yk2,ov) (by simp) HPV.out) (by have:=HAL.out;simp;omega) (by have:=HAL.out;simp;omega) ?_
      intro v8 w8 how hext hnear _
      obtain⟨hE8,hf8⟩:=C_ ((HE.out.trans HEx.out).trans hE5) HAF.out hext hnear
      have hpc:PcsR (NodeR w8 n) (xa++ [(yk2,ov)]) (allU t i sub (k9+1)):=by
       rw [allU,cy_ HXK.out HKI.out]
       refine PcsR.append ?_ (PcsR.one (n:=n) (N:=NodeR w8 n) (y:=(yk2,ov)) (x:=(ofK t k9,xk.2)) ((HKK.out.mono (fun b h=> h.ext0 hE8))) HOV.out)
       refine HP.out.mono (fun b t hn=> ?_)
       exact NodeR.ext hext (fun q hq T hT=> by rw [((HA.out.ext0 HEx.out).ext0 hE5).tagOf q hq];intro e;cases e;exact absurd hT (by decide)) _ _ _ ((hn.ext0 HEx.out).ext0 hE5)
      obtain⟨HA8,HF8,HP8,HE8⟩:=h_4 how hf8 hpc hE8
      refine hK _ _ ?_
      clear hK how hext hnear hpc hE8 hf8 hE5 HA HAF HP HE HBX HEx
      go_wp2_with fail
      go_roundw
      case rel=> exact⟨k9+1,_,by omega,by go_num,HA8,HF8,HP8,HE8⟩
      case measure=> simp [intOf];omega
   ·have z1: ¬((k9:Int) < (M:Int)):=by omega
    have hkM:k9=t.length:=by rw [<-HM.out];omega
    have hp:=HP.out
    rw [hkM,allU_all HKO.out.lt] at hp
    have htd:=hb_ y v3 L cb (gs++o.toList++gsub) n (.slice pa A ca) xa (allF t i sub) wr (HTS.out.cs.ext0 HE.out) HA.out hp (fun x hx=> (HAO.out.all x hx).good) (by have:=HAOL.out;omega) (by have:=HAOL.out;have:=HGB.out;omega)
    have HTD:=hi_ htd
    have HCF9:=hi_ (HCF3.out.trans (CF.of0 HE.out))
    clear hp htd HA HAF HP HE hkM
    go_wp2_with fail
    refine HTD.out.mono ?_
    rintro e W5 ⟨u5,xs5,v5,rfl,hts5,hg5⟩
    obtain⟨p5,c5,rfl,_⟩:=hts5.ow.rd.len_eq
    have htl5:=(bs_ (L:=L) _ _ (Nat.le_refl _) HAO.out)
    have hxl:xs5.length<=516:=by
     rw [hts5.pcs.1]
     have h1:=htl5.len
     have h2:=HAOL.out
     omega
    obtain⟨HT5,HTL5,HXL⟩:=h_3 hts5 htl5 hxl
    clear hts5 htl5 hxl hg5 HTD
    go_wp2_with fail
    refine(fA_ _ xs5 W5 HT5.out.ow.rd (by have:=HXL.out;omega)).mono ?_
    rintro e W6 ⟨b6,rfl,hb6,hE6⟩
    have hn6:NodeR W6 (n+1) b6 (n_ n (allF t i sub)).1:=PcsR.node (HT5.out.pcs.mono (fun b t h=> h.ext0 hE6)) hb6
    have hg6:GoodT (n+1) (n_ n (allF t i sub)).1:=by
     have h1:NbT L (n+1) (n_ n (allF t i sub)).1:=HTL5.out.ok
     refine h1.good ?_
     have h2:=HTL5.out.len
     have h3:=HAOL.out
     show List.length (α:=Pc n) _<=900
     omega
    obtain⟨HN6,HG6,HE6⟩:=h_3 hn6 hg6 hE6
    clear hb6 hE6 hn6 hg6
    go_wp2_with fail
    refine(be_ (n+1) _ b6 (n_ n (allF t i sub)).1 [] W6 (Nat.le_refl _) HN6.out HG6.out).mono ?_
    rintro e W7 ⟨u7,xs7,rfl,how7,hpc7,hE7, -⟩
    have hE67:=HE6.out.trans hE7
    have HX:=hi_ (⟨HT5.out.cs.ext0 hE67,how7,hpc7,HSM3.out.trans HT5.out.same,(HCF9.out.trans HT5.out.cf).trans (CF.of0 hE67)⟩:TidS y v v5 L cb (gs++o.toList++gsub++(n_ n (allF t i sub)).2) (n+1) u7 xs7 (i_ (n+1) (n_ n (allF t i sub)).1 []) w W7)
    clear how7 hpc7 hE7 hE67 HT5 HSM3 HCF9 HCF3 HE6 HN6 HG6 HTL5 HXL
    go_wp2
    go_ret2
    rw [HR.out]
    refine⟨u7,xs7,v5,rfl, ?_⟩
    simp only [<-List.append_assoc]
    exact HX.out
theorem hk_ (hf:EdF key f) (he7: ∀l e,f l= .error e->e=7) (fk:Fk): ∀n,EdWalk L key f fk n
 | 0=> fun y v cb gs yv r w h hk hK hn hfk hgl=> tredit0_c hf he7 fk y v cb gs yv r w h hk hK hn hfk (by omega)
 | n+1=> fun y v cb gs yv r w h hk hK hn hfk hgl=> tredit1_b hf he7 fk (hk_ hf he7 fk n) y v cb gs yv r.1 r.2 w h hk hK hn hfk hgl
theorem CF.new {a b c:World} (h:CF y cb a b) (k:Ext S b c) (hS: ∀x∈S,a.heap.size<=x):CF y cb a c:=by
 obtain⟨S1,h1,h2⟩:=h
 exact⟨S1,h1.trans' k (fun x hx=> .inl hx) (fun x hx=> .inr (hS x hx)),h2⟩
theorem CS.other (h:CS y v L cb gs w) (he:Ext S w w') (hS: ∀k∈S,∀T∈(146::34::aH_),r_ w k≠some T):CS y v L cb gs w':=by
 obtain⟨gv,h1,h2,h3⟩:=h.ch
 exact⟨h.sy.otherT he (fun g hg T hT=> hS g hg T (List.mem_cons_of_mem _ (List.mem_cons_of_mem _ hT))),h.dsk,gv,he.blk h1 (fun hm=> hS cb hm _ (by simp) (d_ h1)),h2.ext he (fun g hg hm=> hS g hm _ (by simp) (h2.tagOf g hg)),h3⟩
theorem CF.blk (hy:SyR w y v) (h:CF y cb w w') {c:Array Value} {fr:Nat×Nat} (hg:w.heap[g]? =some (.cells c T fr)) (hT:T∉ [117,143,168,339,175,146,34,38]):w'.heap[g]? =some (.cells c T fr):=by
 obtain⟨S,h1,h2⟩:=h.noNode hy
 exact h1.blk hg (fun hm=> h2 g hm T hT (d_ hg))
def GrowPost (y:Sy) (v:Sv) (L:List Blk) (cb:Nat) (gs:List Ptr4) (r:Root×List Ptr4) (w:World) (e:Ending) (w':World):Prop:=
 ∃yv v',e= .returned (.tuple #[refV yv,.int .i64 0])/\RootR w' yv r.1/\CS y v' L cb (gs++r.2) w'/\SameV v v'/\CF y cb w w'
theorem kids_one {N:Nat->List (El n)->Prop} {t:List (Pc n)} (h:KidsR N rs t) (h1:t.length=1): ∃yk x,rs= [yk]/\t= [x]/\KidR N yk x.2:=by
 obtain⟨x,rfl⟩:=List.length_eq_one_iff.1 h1
 obtain⟨yk,rfl⟩:=List.length_eq_one_iff.1 (show rs.length=1 by rw [h.1];rfl)
 exact⟨yk,x,rfl,rfl,h.2 0 yk x rfl rfl⟩
abbrev refC (yv:Rfm) (pv:Option Addr):Array Value:=#[.int .i64 yv.1.1,.int .i64 yv.1.2.1,.int .i64 yv.1.2.2.1,.string ⟨yv.1.2.2.2.toArray⟩,.pointer pv]
theorem set5 {a0 a1 a2 a3 a4:Value} (h:W.heap[g]? =some (.cells #[a0,a1,a2,a3,a4] T (0,0))) (b0 b1 b2 b3 b4:Value):
  (((((W.setCell ⟨g,0,none⟩ b0).setCell ⟨g,1,none⟩ b1).setCell ⟨g,2,none⟩ b2).setCell ⟨g,3,none⟩ b3).setCell ⟨g,4,none⟩ b4).heap[g]? =some (.cells #[b0,b1,b2,b3,b4] T (0,0))/\Ext [g] W (((((W.setCell ⟨g,0,none⟩ b0).setCell ⟨g,1,none⟩ b1).setCell ⟨g,2,none⟩ b2).setCell ⟨g,3,none⟩ b3).setCell ⟨g,4,none⟩ b4):=
 ⟨heap_setCell_same _ _ 4 _ _ _ (heap_setCell_same _ _ 3 _ _ _ (heap_setCell_same _ _ 2 _ _ _ (heap_setCell_same _ _ 1 _ _ _ (heap_setCell_same W g 0 _ _ _ h)))),
  (((((Ext.refl [g] W).setCell (.inl (by simp)) _).setCell (.inl (by simp)) _).setCell (.inl (by simp)) _).setCell (.inl (by simp)) _).setCell (.inl (by simp)) _⟩
theorem aj_ {a0 a1 a2 a3 a4:Value} (h:W.heap[g]? =some (.cells #[a0,a1,a2,a3,a4] T (0,0))):W.cell? ⟨g,0,none⟩=some a0/\W.cell? ⟨g,1,none⟩=some a1/\W.cell? ⟨g,2,none⟩=some a2/\W.cell? ⟨g,3,none⟩=some a3/\W.cell? ⟨g,4,none⟩=some a4/\ ∀j,W.frozen? ⟨g,j,none⟩=false:=
 ⟨by rw [cell_of_row _ _ 0 _ _ _ h];rfl,by rw [cell_of_row _ _ 1 _ _ _ h];rfl,by rw [cell_of_row _ _ 2 _ _ _ h];rfl,by rw [cell_of_row _ _ 3 _ _ _ h];rfl,by rw [cell_of_row _ _ 4 _ _ _ h];rfl,fun j=> frozen_of_row _ _ _ _ _ h⟩
theorem rf_res {v:Value} {xs:List Rfm} (hb:w.heap[g]? =some (.cells #[.int .i64 0,.int .i64 0,.int .i64 0,.string ⟨#[]⟩,.pointer none] 89 (0,0))) (hb':w'.heap[g]? =some (.cells (ERf.flat [yv]).toArray 89 (0,0))) (he:Ext [g] w w') (how:ERf.Ow 89 w v xs) (hx:R0∉xs):ERf.Ow 89 w' v xs:=by
 by_cases hg:g∈blkL v
 ·rcases how with ⟨rfl,rfl⟩ | ⟨g',q,cap,l,rfl,h1,h2,h3,h4⟩
  ·exact .inl ⟨rfl,rfl⟩
  ·obtain rfl:g=g':=by simpa [blkL] using hg
   rw [hb] at h1
   have h5:#[Value.int .i64 0,.int .i64 0,.int .i64 0,.string ⟨#[]⟩,.pointer none]=(ERf.flat l).toArray:=by
    simp only [Option.some.injEq,Obj.cells.injEq] at h1
    exact h1.1
   have h6:=congrArg Array.toList h5
   have hl:l.length=1:=by
    have h7:=congrArg List.length h6
    simp only [ERf.length_flat] at h7
    have h8:ERf.k=5:=rfl
    rw [h8] at h7
    simp at h7
    omega
   obtain⟨z,rfl⟩:=List.length_eq_one_iff.1 hl
   have hz:xs= []:=by
    cases xs with
    | nil=> rfl
    | cons u r=>
     exfalso
     simp only [List.length_cons,List.length_nil] at h2 h3
     have hq:q=0:=by omega
     have hr:r.length=0:=by omega
     obtain rfl:r= []:=List.eq_nil_of_length_eq_zero hr
     subst hq
     have h9:u=z:=by simp at h4;exact h4.symm
     subst h9
     obtain⟨⟨a,b,c,d⟩,e⟩:=u
     simp [Enc.flat,ERf,ptV] at h6
     obtain⟨e1,e2,e3,h10,h11⟩:=h6
     obtain rfl:a=0:=by omega
     obtain rfl:b=0:=by omega
     obtain rfl:c=0:=by omega
     have h12:d= []:=by simpa using h10.symm
     have h13:e=none:=by cases e with
      | none=> rfl
      | some x=> simp at h11
     subst h12 h13
     exact hx (by simp)
   subst hz
   exact .inr ⟨g,q,cap,[yv],rfl,hb',h2,h3,by simp⟩
 ·exact how.ext he (fun x hx hm=> hg (by simp at hm;rw [<-hm];exact hx))
def OkQ:(n:Nat)->List (El n)->Prop
 | 0,_=> True
 | n+1,t=> ∀k∈(t:List (Pc n)),(∀q,k.2.1=some q->GoodPt q)/\OkQ n k.2.2
theorem NdT.okQ:{L:List Blk}->{n:Nat}->{t:List (El n)}->NdT L n t->OkQ n t
 | _,0,_,_=> trivial
 | _,_+1,_,h=> fun k hk=> ⟨fun q hq=> ((h.2.2.2 k hk).2.1 q hq).2.2.1,NdT.okQ (h.2.2.2 k hk).2.2⟩
theorem P0_bad: ¬GoodPt P0:=fun h=> by have:=h.size1;simp at this
theorem NodeB.res (hb:w.heap[g]? =some (.cells #[.int .i64 0,.int .i64 0,.int .i64 0,.string ⟨#[]⟩,.pointer none] 89 (0,0))) (hb':w'.heap[g]? =some (.cells (ERf.flat [yv]).toArray 89 (0,0))) (he:Ext [g] w w') (h:NodeB w b leaf ps ks rs) (hx:R0∉rs):NodeB w' b leaf ps ks rs:=by
 obtain⟨pv,kv,cv,h1,h2,h3,h4⟩:=h
 have ht:=d_ hb
 refine⟨pv,kv,cv,he.blk h1 (fun hm=> ?_),h2.ext he (fun x hx hm=> ?_),h3.ext he (fun x hx hm=> ?_),rf_res hb hb' he h4 hx⟩
 ·simp at hm;subst hm;rw [d_ h1] at ht;cases ht
 ·simp at hm;subst hm;rw [h2.tagOf _ hx] at ht;cases ht
 ·simp at hm;subst hm;rw [h3.tagOf _ hx] at ht;cases ht
theorem NodeR.res (hb:w.heap[g]? =some (.cells #[.int .i64 0,.int .i64 0,.int .i64 0,.string ⟨#[]⟩,.pointer none] 89 (0,0))) (hb':w'.heap[g]? =some (.cells (ERf.flat [yv]).toArray 89 (0,0))) (he:Ext [g] w w'): ∀(n b:Nat) (t:List (El n)),OkQ n t->NodeR w n b t->NodeR w' n b t
 | 0,_,_,_,h=> NodeB.res hb hb' he h (by simp)
 | n+1,b,t,hq,h=> by
  obtain⟨rs,h1,h2⟩:=h
  refine⟨rs,h1.res hb hb' he (fun hm=> ?_),h2.1,fun i y x hy hx=> ?_⟩
  ·obtain⟨i,hi⟩:=List.getElem?_of_mem hm
   have hl:=(List.getElem?_eq_some_iff.1 hi).1
   rw [h2.1] at hl
   have hk:=h2.2 i R0 _ hi (List.getElem?_eq_getElem hl)
   have hq2:=hq _ (List.getElem_mem hl)
   unfold KidR at hk
   split at hk
   ·rename_i q hqq
    have e:P0=q:=congrArg (fun z=> z.1) hk
    rw [<-e] at hqq
    exact P0_bad (hq2.1 _ hqq)
   ·obtain⟨b,hk,_⟩:=hk
    cases hk
  ·exact(h2.2 i y x hy hx).mono (fun b hn=> NodeR.res hb hb' he n b _ (hq x (List.mem_of_getElem? hx)).2 hn)
structure GrI (y:Sy) (v v':Sv) (L:List Blk) (cb:Nat) (gs:List Ptr4) (n:Nat) (ps:List (Pc n)) (rb:Nat) (m:Nat) (cur:List (Pc m)) (fuel:Nat) (xs:List Pcm) (G:List Ptr4) (lv:Value) (w wr:World):Prop where
 eq:O_ ps.length n ps=((O_ fuel m cur).1,G++(O_ fuel m cur).2)
 fu:cur.length<=fuel
 l9:cur.length<=900
 gl:(gs++G).length+(bkP cur).length<=40000
 ok:PcsOk L m cur
 ts:TidS y v v' L cb (gs++G) m lv xs cur w wr
 rb:wr.heap[rb]? =some (.cells #[.int .i64 0,.int .i64 0,.int .i64 0,.string ⟨#[]⟩,.pointer none] 89 (0,0))
theorem hj_ (y:Sy) (v:Sv) (L:List Blk) (cb:Nat) (gs:List Ptr4) (n:Nat) (lv:Value) (xs:List Pcm) (ps:List (Pc n)) (w:World) (h:CS y v L cb gs w) (how:EPc.Ow 184 w lv xs) (hp:PcsR (NodeR w n) xs ps) (hok:PcsOk L n ps) (hl:ps.length<=900) (hgl:gs.length+(bkP ps).length<=40000):
  Calls Tryz.prog 72 #[.pointer (some ⟨cb,0,none⟩),lv] w (GrowPost y v L cb gs (O_ ps.length n ps) w):=by
 obtain⟨p,c,rfl,_⟩:=how.rd.len_eq
 have hE0:Ext [] w (w.alloc (.cells #[.int .i64 0,.int .i64 0,.int .i64 0,.string ⟨#[]⟩,.pointer none] 89)):=(Ext.refl [] w).alloc _
 have h0:GrI y v v L cb gs n ps w.heap.size n ps ps.length xs [] (.slice p xs.length c) w (w.alloc (.cells #[.int .i64 0,.int .i64 0,.int .i64 0,.string ⟨#[]⟩,.pointer none] 89)):=
  ⟨by simp,Nat.le_refl _,hl,by simpa using hgl,hok,⟨by rw [List.append_nil];exact h.ext0 hE0,how.ext0 hE0,hp.mono (fun b t h=> h.ext0 hE0),SameV.refl _,CF.of0 hE0⟩,heap_alloc_new w _⟩
 have H0:=hi_ h0
 obtain⟨res,hres⟩: ∃z,z=O_ ps.length n ps:=⟨_,rfl⟩
 rw [<-hres]
 have HRES:=hi_ hres
 obtain⟨rb,hrb⟩: ∃b,b=w.heap.size:=⟨_,rfl⟩
 rw [<-hrb] at H0
 have HRB:=hi_ hrb
 clear h how hp hok hl hgl hE0 h0 hres hrb
 go_enter Tryz.func72,Tryz.ntmps72
 go_wp2_with fail
 simp only [<-HRB.out]
 go_loopg [1] (ps.length) (fun g lv' wr=> ∃(m:Nat) (cur:List (Pc m)) (fuel:Nat) (xs':List Pcm) (G:List Ptr4) (v':Sv),g=cur.length/\Hid (GrI y v v' L cb gs n ps rb m cur fuel xs' G lv' w wr))
 case atStart=> exact⟨n,ps,ps.length,xs,[],v,rfl,H0⟩
 case round=>
  clear H0
  obtain⟨m,cur,fuel,xs',G,v',hgk,HG⟩:=hrel
  obtain⟨p',c',rfl,hcap⟩:=HG.out.ts.ow.rd.len_eq
  obtain⟨N,hN⟩: ∃N,N=xs'.length:=⟨_,rfl⟩
  have hNc:N=cur.length:=by rw [hN,HG.out.ts.pcs.1]
  rw [<-hN] at HG hcap
  simp only [<-hN]
  obtain⟨HNX,HN⟩:=h_2 hN hNc
  have hN9:N<=900:=by rw [hNc];exact HG.out.l9
  have HGK:Hid (gk=N):=hi_ (by rw [hgk,hNc])
  clear hN hNc hgk
  by_cases h1:1 < N
  ·have z1:(1:Int) < (N:Int):=by omega
   have htd:=hb_ y v' L cb (gs++G) m (.slice p' N c') xs' cur wr HG.out.ts.cs HG.out.ts.ow HG.out.ts.pcs (fun x hx=> (HG.out.ok.all x hx).good) (by rw [<-HN.out];omega) (by have:=HG.out.gl;rw [<-HN.out];omega)
   have HTD:=hi_ htd
   have htok:=bs_ (L:=L) _ _ (Nat.le_refl _) HG.out.ok
   have HTO:=hi_ htok
   clear htd htok
   go_wp2_with fail
   refine HTD.out.mono ?_
   rintro e W5 ⟨u5,xs5,v5,rfl,hts5, -⟩
   obtain⟨p5,c5,rfl,_⟩:=hts5.ow.rd.len_eq
   obtain⟨M,hM⟩: ∃M,M=xs5.length:=⟨_,rfl⟩
   have hMt:M=(n_ m cur).1.length:=by rw [hM,hts5.pcs.1]
   have hMN:M<=N:=by rw [hMt,HN.out];exact HTO.out.len
   rw [<-hM] at hts5
   simp only [<-hM]
   have HRB5:=hi_ (CF.blk HG.out.ts.cs.sy hts5.cf HG.out.rb (by decide))
   obtain⟨HT5,HM,HMT⟩:=h_3 hts5 hM hMt
   have HSM5:=hi_ (HG.out.ts.same.trans hts5.same)
   have HCF5:=hi_ (HG.out.ts.cf.trans hts5.cf)
   obtain⟨f1,hf1⟩: ∃f,fuel=f+1:=⟨fuel - 1,by have:=HG.out.fu;rw [<-HN.out] at this;omega⟩
   have HFU:=hi_ hf1
   have HGB:Hid ((gs++G++(n_ m cur).2).length+(bkP (n_ m cur).1).length<=40000):=hi_ (by
    have h1:=HG.out.gl
    have h2:=HTO.out.bk.length_eq
    simp only [List.length_append] at h1 h2 ⊢
    omega)
   clear hts5 hM hMt hf1 HTD
   by_cases h2:1 < M
   ·have z2:(1:Int) < (M:Int):=by omega
    have HEQ:Hid (O_ ps.length n ps=((O_ f1 (m+1) (i_ (m+1) (n_ m cur).1 [])).1,(G++(n_ m cur).2)++(O_ f1 (m+1) (i_ (m+1) (n_ m cur).1 [])).2)):=hi_ (by
     rw [HG.out.eq,HFU.out,bS_ f1 cur (by rw [<-HN.out];omega) (by rw [<-HMT.out];omega),List.append_assoc])
    have HPO:=hi_ (av_ (L:=L) (n:=m+1) _ (n_ m cur).1 [] (Nat.le_refl _) HTO.out.ok (by show List.length (α:=Pc m) _<=900;rw [<-HMT.out];omega) (by simp))
    have HPF:=hi_ (bi_ (L:=L) (n:=m) _ (n_ m cur).1 [] (Nat.le_refl _) HTO.out.ok)
    go_wp2_with fail
    refine(fA_ _ xs5 W5 HT5.out.ow.rd (by rw [<-HM.out];omega)).mono ?_
    rintro e W6 ⟨b6,rfl,hb6,hE6⟩
    have hn6:NodeR W6 (m+1) b6 (n_ m cur).1:=PcsR.node (HT5.out.pcs.mono (fun b t h=> h.ext0 hE6)) hb6
    have hg6:GoodT (m+1) (n_ m cur).1:=by
     have h1:NbT L (m+1) (n_ m cur).1:=HTO.out.ok
     refine h1.good ?_
     show List.length (α:=Pc m) _<=900
     rw [<-HMT.out];omega
    obtain⟨HN6,HG6,HE6⟩:=h_3 hn6 hg6 hE6
    clear hb6 hE6 hn6 hg6
    go_wp2_with fail
    refine(be_ (m+1) _ b6 (n_ m cur).1 [] W6 (Nat.le_refl _) HN6.out HG6.out).mono ?_
    rintro e W7 ⟨u7,xs7,rfl,how7,hpc7,hE7, -⟩
    have hE67:=HE6.out.trans hE7
    have hbk7:bkP (i_ (m+1) (n_ m cur).1 [])=bkP (n_ m cur).1:=HPO.out.bk
    have hlen7:(i_ (m+1) (n_ m cur).1 []).length < N:=by
     have h3:=HMT.out
     rcases HPF.out with h | h <;> omega
    have HX:Hid (GrI y v v5 L cb gs n ps rb (m+1) (i_ (m+1) (n_ m cur).1 []) f1 xs7 (G++(n_ m cur).2) u7 w W7):=hi_ ⟨HEQ.out,by
      have h3:=HFU.out
      have h4:=HG.out.fu
      rw [<-HN.out] at h4
      omega,by omega,by rw [hbk7,<-List.append_assoc];exact HGB.out,HPO.out.ok,⟨by rw [<-List.append_assoc];exact HT5.out.cs.ext0 hE67,how7,hpc7,HSM5.out,HCF5.out.trans (CF.of0 hE67)⟩,hE67.blk HRB5.out (by simp)⟩
    have HLT:=hi_ hlen7
    clear how7 hpc7 hE7 hE67 hbk7 hlen7 HE6 HN6 HG6 HT5 HCF5 HSM5 HG
    go_wp2_with fail
    go_roundg (i_ (m+1) (n_ m cur).1 []).length
    case measure=> have h1:=HLT.out;have h2:=HGK.out;omega
    case rel=> exact⟨m+1,_,f1,xs7,_,v5,rfl,HX⟩
   ·have z2: ¬((1:Int) < (M:Int)):=by omega
    have HEQ:Hid (O_ ps.length n ps=((O_ 1 m (n_ m cur).1).1,(G++(n_ m cur).2)++(O_ 1 m (n_ m cur).1).2)):=hi_ (by
     rw [HG.out.eq,HFU.out,bR_ f1 cur (by rw [<-HN.out];omega) (by rw [<-HMT.out];omega),aV_ 1 _ (by rw [<-HMT.out];omega),List.append_nil])
    have HX:Hid (GrI y v v5 L cb gs n ps rb m (n_ m cur).1 1 xs5 (G++(n_ m cur).2) (.slice p5 M c5) w W5):=hi_ ⟨HEQ.out,by rw [<-HMT.out];omega,by rw [<-HMT.out];omega,by rw [<-List.append_assoc];exact HGB.out,HTO.out.ok,⟨by rw [<-List.append_assoc];exact HT5.out.cs,HT5.out.ow,HT5.out.pcs,HSM5.out,HCF5.out⟩,HRB5.out⟩
    clear HT5 HCF5 HSM5 HG
    go_wp2_with fail
    go_roundg (n_ m cur).1.length
    case measure=> have h1:=HMT.out;have h2:=HGK.out;omega
    case rel=> exact⟨m,_,1,xs5,_,v5,rfl,HX⟩
  ·have z1: ¬((1:Int) < (N:Int)):=by omega
   have hfin:=HG.out.eq
   rw [aV_ fuel cur (by rw [<-HN.out];omega),List.append_nil] at hfin
   have HFIN:=hi_ hfin
   clear hfin
   by_cases hN0:N=0
   ·have z2:((N:Int)==0)=true:=by simp [hN0]
    have hc0:cur= []:=List.eq_nil_of_length_eq_zero (by rw [<-HN.out];exact hN0)
    have hr0:res=(none,G):=by rw [HRES.out,HFIN.out,hc0];rfl
    have HR0:=hi_ hr0
    obtain⟨q0,q1,q2,q3,q4,hfz⟩:=aj_ HG.out.rb
    obtain⟨hb5,hE5⟩:=set5 HG.out.rb (.int .i64 0) (.int .i64 0) (.int .i64 0) (.string ⟨#[]⟩) (.pointer none)
    have HE5:=hi_ hE5
    clear hc0 hr0 hb5 hE5 hN0
    go_wp2_with fail
    obtain⟨hs, -⟩:=set5 HG.out.rb (.int .i64 0) (.int .i64 0) (.int .i64 0) (.string ⟨#[]⟩) (.pointer none)
    obtain⟨r0,r1,r2,r3,r4,_⟩:=aj_ hs
    refine bodyPost_ret (v:= .tuple #[refV (P0,none),.int .i64 0]) (by simp [results,Tryz.results72,go_sem,r0,r1,r2,r3,r4,refV,ptV]) rfl ?_
    have htg:=d_ HG.out.rb
    rw [HR0.out]
    exact⟨(P0,none),v',rfl,rfl,HG.out.ts.cs.other HE5.out (by simp only [List.mem_singleton,forall_eq,htg];decide),HG.out.ts.same,HG.out.ts.cf.new HE5.out (by simp;rw [HRB.out];omega)⟩
   ·have hN1:N=1:=by omega
    subst hN1
    have hc1:cur.length=1:=HN.out.symm
    obtain⟨x,rfl⟩:=List.length_eq_one_iff.1 hc1
    obtain⟨X,rfl⟩:=List.length_eq_one_iff.1 HNX.out.symm
    obtain⟨hkx, -⟩:=HG.out.ts.pcs.2 0 X x rfl rfl
    obtain⟨g,o,rfl⟩: ∃g o,p'=some ⟨g,o,none⟩:=by
     rcases HG.out.ts.ow with ⟨h,_⟩ | ⟨g,o,c,_,h,_⟩
     ·simp at h
     ·simp only [Value.slice.injEq] at h;exact⟨g,_,h.1⟩
    obtain⟨m0,m1,m2,m3,m4, -⟩:=bp_ HG.out.ts.ow.rd 0 X rfl
    simp only [Nat.zero_mul,Nat.add_zero] at m0 m1 m2 m3 m4
    obtain⟨pv,hpv⟩: ∃q,q=Option.map (fun b=> (⟨b,0,none⟩:Addr)) X.1.2:=⟨_,rfl⟩
    simp only [ptV] at m4
    rw [<-hpv] at m4
    have HPV:=hi_ hpv
    have hbx:=heap_alloc_new wr (.cells (refC X.1 pv) 89)
    have hEx:Ext [] wr (wr.alloc (.cells (refC X.1 pv) 89)):=(Ext.refl [] wr).alloc _
    have hkI:KidR (NodeRI (fun k=> k < wr.heap.size) (wr.alloc (.cells (refC X.1 pv) 89)) m) X.1 x.2:=hkx.mono (fun b hn=> NodeRI.ext hEx (by simp) _ _ _ (NodeR.toI _ _ _ hn))
    have hlt:rb < wr.heap.size:=g_ HG.out.rb
    obtain⟨HBX,HEX,HKI⟩:=h_3 hbx hEx hkI
    have HPX:=hi_ (HG.out.ok.all x (by simp))
    obtain⟨bx,hbxe⟩: ∃b,b=wr.heap.size:=⟨_,rfl⟩
    have HBS:Hid (wr.heap.size<=bx):=hi_ (by omega)
    clear hbx hEx hkI hkx hpv hc1 hN0 hcap hN9
    go_wp2_with fail
    rw [<-hbxe] at HBX HKI hlt
    try simp only [<-hbxe]
    clear hbxe
    revert HEX HBX HKI
    generalize World.alloc _ _=W4
    intro HEX HKI HBX
    go_loopg [] m (fun g2 wr2=> ∃(m2:Nat) (r2:Rf m2) (yv2:Rfm) (pv2:Option Addr),g2=m2/\Hid (ae_ m2 r2=ae_ m x.2)/\Hid (pv2=Option.map (fun b=> (⟨b,0,none⟩:Addr)) yv2.2)/\Hid (wr2.heap[bx]? =some (.cells (refC yv2 pv2) 89 (0,0)))/\Hid (KidR (NodeRI (fun k=> k < bx) wr2 m2) yv2 r2)/\Hid (OkQ m2 r2.2)/\Hid (Ext [bx] W4 wr2))
    case atStart=> exact⟨m,x.2,X.1,pv,rfl,hi_ rfl,HPV,HBX,HKI,hi_ HPX.out.nd.okQ,hi_ (Ext.refl _ _)⟩
    case round=>
     clear HBX HKI HPV m0 m1 m2 m3 m4
     obtain⟨m2,r2,yv2,pv2,hg2,HCO,HPV,HBX,HKI,HOQ,HE⟩:=hrel
     obtain⟨x0,x1,x2,x3,x4,hfx⟩:=aj_ HBX.out
     have hrb2:wr.heap[rb]? =some (.cells #[.int .i64 0,.int .i64 0,.int .i64 0,.string ⟨#[]⟩,.pointer none] 89 (0,0)):=HE.out.blk (HEX.out.blk HG.out.rb (by simp)) (by simp;omega)
     have HRB2:=hi_ hrb2
     obtain⟨q0,q1,q2,q3,q4,hfz⟩:=aj_ hrb2
     clear hrb2
     cases hr2:r2.1 with
     | some q=>
      have hk:=HKI.out
      unfold KidR at hk
      simp only [hr2] at hk
      have hpn:pv2=none:=by rw [HPV.out,hk];rfl
      subst hpn
      have hst:ae_ m2 r2=⟨m2,r2⟩:=by
       obtain⟨o2,t2⟩:=r2
       simp only at hr2
       subst hr2
       cases m2 with
       | zero=> rfl
       | succ m2=> exact aa_ _ _ (.inl rfl)
      have HST:=hi_ hst
      clear hk hr2 hst
      go_wp2_with fail
      obtain⟨hs,hE9⟩:=set5 HRB2.out (.int .i64 yv2.1.1) (.int .i64 yv2.1.2.1) (.int .i64 yv2.1.2.2.1) (.string ⟨yv2.1.2.2.2.toArray⟩) (.pointer none)
      obtain⟨s0,s1,s2,s3,s4,_⟩:=aj_ hs
      refine bodyPost_ret (v:= .tuple #[.agg #[(.int .i64 yv2.1.1),(.int .i64 yv2.1.2.1),(.int .i64 yv2.1.2.2.1),(.string ⟨yv2.1.2.2.2.toArray⟩),.pointer none],.int .i64 0]) (by simp [results,Tryz.results72,go_sem,s0,s1,s2,s3,s4]) rfl ?_
      have hres:res=(some ⟨m2,r2⟩,G):=by
       rw [HRES.out,HFIN.out]
       show (some (ae_ m x.2),G)=_
       rw [<-HCO.out,HST.out]
      have hfl:(ERf.flat [yv2]).toArray=#[(.int .i64 yv2.1.1),(.int .i64 yv2.1.2.1),(.int .i64 yv2.1.2.2.1),(.string ⟨yv2.1.2.2.2.toArray⟩),.pointer none]:=by rw [HPV.out];rfl
      have hA:Ext [rb] _ _:=((HEX.out.mono (S':= [bx,rb]) (by simp)).trans ((HE.out.mono (S':= [bx,rb]) (by simp)).trans (hE9.mono (S':= [bx,rb]) (by simp)))).mono (fun z hz=> by
       simp at hz
       rcases hz with rfl | rfl
       ·exact .inr HBS.out
       ·exact .inl (by simp))
      have htg:=d_ HG.out.rb
      rw [hres]
      refine⟨yv2,v',(by rw [refV,ptV,<-HPV.out] <;> rfl), ?_,HG.out.ts.cs.other hA (by simp only [List.mem_singleton,forall_eq,htg];decide),HG.out.ts.same,HG.out.ts.cf.new hA (by simp;rw [HRB.out];omega)⟩
      exact HKI.out.mono (fun b hn=> NodeR.res HRB2.out (by rw [hfl];exact hs) hE9 m2 b _ HOQ.out (NodeRI.node _ _ _ hn))
     | none=>
      have hk:=HKI.out
      unfold KidR at hk
      simp only [hr2] at hk
      obtain⟨b2,hyv,hnd⟩:=hk
      have hpn:pv2=some ⟨b2,0,none⟩:=by rw [HPV.out,hyv];rfl
      subst hpn
      subst hyv
      cases m2 with
      | zero=>
       have hst:ae_ 0 r2=⟨0,r2⟩:=rfl
       have HST:=hi_ hst
       obtain⟨pp,cp,pk,ck,pr,cr,c0, -, -, -, -, -, -, -⟩:=NodeB.cells (NodeRI.node _ _ _ hnd)
       clear hr2 hst hnd
       go_wp2_with fail
       obtain⟨hs,hE9⟩:=set5 HRB2.out (.int .i64 0) (.int .i64 0) (.int .i64 0) (.string ⟨#[]⟩) (.pointer (some ⟨b2,0,none⟩))
       obtain⟨s0,s1,s2,s3,s4,_⟩:=aj_ hs
       refine bodyPost_ret (v:= .tuple #[.agg #[(.int .i64 0),(.int .i64 0),(.int .i64 0),(.string ⟨#[]⟩),.pointer (some ⟨b2,0,none⟩)],.int .i64 0]) (by simp [results,Tryz.results72,go_sem,s0,s1,s2,s3,s4]) rfl ?_
       have hres:res=(some ⟨0,r2⟩,G):=by
        rw [HRES.out,HFIN.out]
        show (some (ae_ m x.2),G)=_
        rw [<-HCO.out,HST.out]
       have hfl:(ERf.flat [(P0,some b2)]).toArray=#[(.int .i64 0),(.int .i64 0),(.int .i64 0),(.string ⟨#[]⟩),.pointer (some ⟨b2,0,none⟩)]:=by rw [HPV.out];rfl
       have hA:Ext [rb] _ _:=((HEX.out.mono (S':= [bx,rb]) (by simp)).trans ((HE.out.mono (S':= [bx,rb]) (by simp)).trans (hE9.mono (S':= [bx,rb]) (by simp)))).mono (fun z hz=> by
        simp at hz
        rcases hz with rfl | rfl
        ·exact .inr HBS.out
        ·exact .inl (by simp))
       have htg:=d_ HG.out.rb
       rw [hres]
       refine⟨(P0,some b2),v',(by rw [refV,ptV,<-HPV.out] <;> rfl), ?_,HG.out.ts.cs.other hA (by simp only [List.mem_singleton,forall_eq,htg];decide),HG.out.ts.same,HG.out.ts.cf.new hA (by simp;rw [HRB.out];omega)⟩
       exact HKI.out.mono (fun b hn=> NodeR.res HRB2.out (by rw [hfl];exact hs) hE9 0 b _ HOQ.out (NodeRI.node _ _ _ hn))
      | succ m2=>
       obtain⟨o2,t2⟩:=r2
       simp only at hr2
       subst hr2
       obtain⟨rs,hnb,hkr⟩:=hnd
       obtain⟨pp,cp,pk,ck,pr,cr,c0, -, -,c3, -, -,hrs, -⟩:=NodeB.cells hnb.node
       by_cases h1:List.length (α:=Pc m2) t2=1
       ·obtain⟨yk,xk,hrse,hte,hkk⟩:=kids_one hkr h1
        subst hrse
        have hte':t2=([xk]:List (Pc m2)):=hte
        subst hte'
        have hcol:ae_ m2 xk.2=ae_ m x.2:=HCO.out
        simp only [List.length_singleton] at c3 hrs
        obtain⟨g3,o3,rfl⟩: ∃g o,pr=some ⟨g,o,none⟩:=by
         rcases hrs with ⟨h,_⟩ | ⟨g,o,c,_,h,_⟩
         ·simp at h
         ·simp only [Value.slice.injEq] at h;exact⟨g,_,h.1⟩
        obtain⟨k0,k1,k2,k3,k4⟩:=ba_ hrs.rd 0 (by simp)
        simp only [Nat.zero_mul,Nat.add_zero,List.getD_cons_zero] at k0 k1 k2 k3 k4
        obtain⟨pv3,hpv3⟩: ∃q,q=Option.map (fun b=> (⟨b,0,none⟩:Addr)) yk.2:=⟨_,rfl⟩
        simp only [ptV] at k4
        rw [<-hpv3] at k4
        obtain⟨hs5,hE5⟩:=set5 HBX.out (.int .i64 yk.1.1) (.int .i64 yk.1.2.1) (.int .i64 yk.1.2.2.1) (.string ⟨yk.1.2.2.2.toArray⟩) (.pointer pv3)
        obtain⟨HCOL,HPV3,HS5⟩:=h_3 hcol hpv3 hs5
        have HKK:Hid (KidR (NodeRI (fun k=> k < bx) (((((wr.setCell ⟨bx,0,none⟩ (.int .i64 yk.1.1)).setCell ⟨bx,1,none⟩ (.int .i64 yk.1.2.1)).setCell ⟨bx,2,none⟩ (.int .i64 yk.1.2.2.1)).setCell ⟨bx,3,none⟩ (.string ⟨yk.1.2.2.2.toArray⟩)).setCell ⟨bx,4,none⟩ (.pointer pv3)) m2) yk xk.2):=hi_ (hkk.mono (fun b hn=> NodeRI.ext hE5 (fun k hk hlt=> by simp at hk;omega) _ _ _ hn))
        have HE5:=hi_ (HE.out.trans hE5)
        have HOK:=hi_ (HOQ.out xk (List.mem_singleton.2 rfl)).2
        clear hcol hpv3 hs5 hE5 hkk hkr hnb hrs h1 hte
        go_wp2_with fail
        go_roundg m2
        case measure=> omega
        case rel=> exact⟨m2,xk.2,yk,pv3,rfl,HCOL,HPV3,HS5,HKK,HOK,HE5⟩
       ·have hst:ae_ (m2+1) (none,t2)=⟨m2+1,(none,t2)⟩:=aa_ _ _ (.inr (by
         have h2:List.length (α:=Pc m2) t2=0\/2<=List.length (α:=Pc m2) t2:=by omega
         rcases h2 with h2 | h2
         ·exact .inr (List.eq_nil_of_length_eq_zero h2)
         ·exact .inl h2))
        have HST:=hi_ hst
        have hrl:rs.length=List.length (α:=Pc m2) t2:=hkr.1
        rw [hrl] at c3
        obtain⟨T2,hT2⟩: ∃z,z=List.length (α:=Pc m2) t2:=⟨_,rfl⟩
        rw [<-hT2] at c3 h1
        have z3:((T2:Int)==1)=false:=beq_eq_false_iff_ne.2 (by omega)
        clear hst hrl hT2 hkr hnb hrs h1
        go_wp2_with fail
        obtain⟨hs,hE9⟩:=set5 HRB2.out (.int .i64 0) (.int .i64 0) (.int .i64 0) (.string ⟨#[]⟩) (.pointer (some ⟨b2,0,none⟩))
        obtain⟨s0,s1,s2,s3,s4,_⟩:=aj_ hs
        refine bodyPost_ret (v:= .tuple #[.agg #[(.int .i64 0),(.int .i64 0),(.int .i64 0),(.string ⟨#[]⟩),.pointer (some ⟨b2,0,none⟩)],.int .i64 0]) (by simp [results,Tryz.results72,go_sem,s0,s1,s2,s3,s4]) rfl ?_
        have hres:res=(some ⟨(m2+1),(none,t2)⟩,G):=by
         rw [HRES.out,HFIN.out]
         show (some (ae_ m x.2),G)=_
         rw [<-HCO.out,HST.out]
        have hfl:(ERf.flat [(P0,some b2)]).toArray=#[(.int .i64 0),(.int .i64 0),(.int .i64 0),(.string ⟨#[]⟩),.pointer (some ⟨b2,0,none⟩)]:=by rw [HPV.out];rfl
        have hA:Ext [rb] _ _:=((HEX.out.mono (S':= [bx,rb]) (by simp)).trans ((HE.out.mono (S':= [bx,rb]) (by simp)).trans (hE9.mono (S':= [bx,rb]) (by simp)))).mono (fun z hz=> by
         simp at hz
         rcases hz with rfl | rfl
         ·exact .inr HBS.out
         ·exact .inl (by simp))
        have htg:=d_ HG.out.rb
        rw [hres]
        refine⟨(P0,some b2),v',(by rw [refV,ptV,<-HPV.out] <;> rfl), ?_,HG.out.ts.cs.other hA (by simp only [List.mem_singleton,forall_eq,htg];decide),HG.out.ts.same,HG.out.ts.cf.new hA (by simp;rw [HRB.out];omega)⟩
        exact HKI.out.mono (fun b hn=> NodeR.res HRB2.out (by rw [hfl];exact hs) hE9 (m2+1) b _ HOQ.out (NodeRI.node _ _ _ hn))
end Go.Proofs.YtkpgjkekmdecbaaGreat
