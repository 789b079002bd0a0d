/- Lemmas for the claim. No conditions beside those that each states. -/
import Derived.Test.YtkpgjkekmdecbaaGreatEmpAW
import Derived.Test.YtkpgjkekmdecbaaGreatEmpAU
set_option maxRecDepth 100000
set_option maxHeartbeats 8000000
set_option linter.all false

namespace Go.Proofs.YtkpgjkekmdecbaaGreat
open Go.RowKit
variable {w w' w2:World} {n i:Nat} {S:List Nat} {key:Ky} {q:Ptr4} {ms:List Ptr4} {f:List Pr -> Except Int (List Pr)} {y:Sy} {v v':Sv} {L L':List Blk} {r:Root}
theorem DskK.mono {r:Rf n} (h:DskK L n r) (hL: ∀x∈L,x∈L'):DskK L' n r:=fun q hq=> ⟨hL _ (h q hq).1,(h q hq).2⟩
theorem NdT.mono:{L L':List Blk}->{n:Nat}->{t:List (El n)}->NdT L n t->(∀x∈L,x∈L')->NdT L' n t
 | _,_,0,_,h,_=> h
 | _,_,_+1,_,h,hL=> ⟨h.1,h.2.1,h.2.2.1,fun k hk=> ⟨(h.2.2.2 k hk).1,(h.2.2.2 k hk).2.1.mono hL,NdT.mono (h.2.2.2 k hk).2.2 hL⟩⟩
theorem TakeRel.head1 {s s':Spc} {n a q C:Int} (h:TakeRel s n s' a 0) (hf:s.free= [(q,C)]) (hi:SpI s') (hq:0<=q) (hn:1<=n) (hle:q+n < C) (hC:C<=40000):s'.free= [(q+n,C)]:=by
 rcases h with ⟨_,_,_,h⟩ | ⟨_,_,_,_,h⟩ | ⟨_,_,⟨f,h1,h2⟩,_,t⟩
 ·cases h
 ·cases h
 ·have hfi:s.free.find? (cK_ n)=some (q,C):=by rw [hf];simp [cK_];omega
  rw [hfi] at h1
  cases h1
  have h2:a=q:=h2
  subst h2
  refine Ok.ext hi.okF ⟨by simp,by simp;omega⟩ (fun c=> ?_)
  rw [t.free,hf]
  constructor
  ·rintro⟨⟨x,hx,h1⟩,h2⟩
   simp at hx
   subst hx
   exact⟨(a+n,C),by simp,by simp only at h1 ⊢;omega⟩
  ·rintro⟨x,hx,h1⟩
   simp at hx
   subst hx
   simp only at h1
   exact⟨⟨(a,C),by simp,by simp only;omega⟩,by omega⟩
def NoRoomZ (k:Nat) (v:Sv) (z:Nat):Prop:= ∃size:Nat,1<=size/\size<=1024/\C_ k size<=z/\(cntL v.spc.free - v.spc.back < C_ k size\/v.spc.free.find? (cK_ (C_ k size))=none)
theorem NoRoomZ.not {k z:Nat} {q C:Int} (h:NoRoomZ k v z) (hf:v.spc.free= [(q,C)]) (hb:v.spc.back=0) (hle:q+z<=C):False:=by
 obtain⟨size,h1,h2,h4,h3⟩:=h
 rcases h3 with h3 | h3
 ·rw [hf,hb] at h3
  simp [cntL] at h3
  omega
 ·rw [hf] at h3
  simp [cK_] at h3
  omega
theorem iS_ (k:Nat): ∀(l l':Nat) (a b:Int),l<=l'->aO_ (az_ k a l)<=aO_ (az_ k b l'):=by
 intro l
 induction l using Nat.strongRecOn with
 | _ l ih=>
  intro l' a b hl
  by_cases h:l=0
  ·subst h
   rw [ao_]
   have:=(bs_ k l' b b).2.2.2
   simpa [aO_] using this
  ·rw [Y_ k a l h,Y_ k b l' (by omega)]
   have:=ih (l - min l (k+1)) (by omega) (l' - min l' (k+1)) (a+(min l (k+1):Nat)+3) (b+(min l' (k+1):Nat)+3) (by omega)
   simp only [aO_,List.map_cons,List.sum_cons] at this ⊢
   omega
theorem iT_ (k:Nat) {s s':Nat} (h:s<=s'):C_ k s<=C_ k s':=by
 have:=iS_ k ((s+127) / 128) ((s'+127) / 128) 0 0 (by omega)
 rw [C_,C_]
 omega
theorem costF_le (k size:Nat) (h:size<=1024):C_ k size<=32:=by
 have h:=bs_ k ((size+127) / 128) 0 0
 rw [C_]
 omega
def unwC (c:Nat):(n:Nat)->Rf n->Nat
 | 0,r=> if r.1.isSome then 0 else C_ c (szF 0 r.2)
 | n+1,r=> if r.1.isSome then 0 else C_ c (szF (n+1) r.2)+((r.2:List (Pc n)).map (fun k=> unwC c n k.2)).sum
def unwR (c:Nat):Root->Nat
 | none=> 0
 | some ⟨n,r⟩=> unwC c n r
def A_ (k:Nat) (ms:List Ptr4):Nat:=(ms.map (fun q=> C_ k q.2.1)).sum
theorem dH_ (k:Nat) (ms ns:List Ptr4):A_ k (ms++ns)=A_ k ms+A_ k ns:=by simp [A_]
structure PutsR (y:Sy) (v v':Sv) (L L':List Blk) (ms:List Ptr4):Prop where
 dk:DkS y v' L'
 sub: ∀x∈L,x∈L'
 new: ∀q∈ms,∃bs,(q.1,bs)∈L'/\PtAt q bs
 nodup:(ms.map (fun q=> q.1)).Nodup
 fresh: ∀q∈ms,∀x∈L,x.1≠q.1
 old: ∀x∈L',x∈L\/ ∃q∈ms,q.1=x.1
 txg:v'.st.txg=v.st.txg
 cnt:cntL v'.spc.free+A_ y.k ms=cntL v.spc.free
 sum:v'.ws.length+cntL v'.spc.free=v.ws.length+cntL v.spc.free
 cells:v'.spc.cells=v.spc.cells
 back:v'.spc.back=v.spc.back
 leaving:v'.spc.leaving=v.spc.leaving
 one: ∀q C,v.spc.free= [(q,C)]->0<=q->C<=40000->q+A_ y.k ms < C->v'.spc.free= [(q+A_ y.k ms,C)]
theorem PutsR.refl (h:DkS y v L):PutsR y v v L L []:=⟨h,fun _ h=> h,by simp,by simp,by simp,fun x hx=> .inl hx,rfl,by simp [A_],rfl,rfl,rfl,rfl,fun q C h _ _ _=> by simpa [A_] using h⟩
theorem PutsR.trans {a b c:Sv} {L M N:List Blk} {ms ns:List Ptr4} (h:PutsR y a b L M ms) (k:PutsR y b c M N ns):PutsR y a c L N (ms++ns):=by
 refine⟨k.dk,fun x hx=> k.sub x (h.sub x hx),fun q hq=> ?_, ?_,fun q hq x hx=> ?_,fun x hx=> ?_,k.txg.trans h.txg, ?_,k.sum.trans h.sum,k.cells.trans h.cells,k.back.trans h.back,k.leaving.trans h.leaving,fun q C hf hq hC hlt=> ?_⟩
 ·rcases List.mem_append.1 hq with hq | hq
  ·obtain⟨bs,h1,h2⟩:=h.new q hq;exact⟨bs,k.sub _ h1,h2⟩
  ·exact k.new q hq
 ·rw [List.map_append,List.nodup_append]
  refine⟨h.nodup,k.nodup,fun x hx z hz e=> ?_⟩
  obtain⟨q,hq,rfl⟩:=List.mem_map.1 hx
  obtain⟨p,hp,rfl⟩:=List.mem_map.1 hz
  obtain⟨bs,h1,_⟩:=h.new q hq
  exact k.fresh p hp _ h1 e
 ·rcases List.mem_append.1 hq with hq | hq
  ·exact h.fresh q hq x hx
  ·exact k.fresh q hq x (h.sub x hx)
 ·rcases k.old x hx with h1 | ⟨q,h1,h2⟩
  ·rcases h.old x h1 with h1 | ⟨q,h1,h2⟩
   ·exact .inl h1
   ·exact .inr ⟨q,List.mem_append_left _ h1,h2⟩
  ·exact .inr ⟨q,List.mem_append_right _ h1,h2⟩
 ·have h1:=h.cnt
  have h2:=k.cnt
  have e:A_ y.k (ms++ns)=A_ y.k ms+A_ y.k ns:=by simp [A_]
  rw [e]
  omega
 ·have e:A_ y.k (ms++ns)=A_ y.k ms+A_ y.k ns:=by simp [A_]
  rw [e] at hlt ⊢
  have h1:=h.one q C hf hq hC (by omega)
  have h2:=k.one _ C h1 (by omega) hC (by omega)
  rw [h2]
  congr 2
  omega
theorem PutsR.single {bs:List UInt8} {a:Nat} (h:DkS y v L) (hi:SpI v.spc) (hc:v.spc.cells=(((y.k+4)*(y.S - y.F):Nat):Int)) (p:PutRel y v v' bs a) (h1:1<=bs.length) (h2:bs.length<=1024) (hw:v.ws.length+cntL v.spc.free<=900000) (hi':SpI v'.spc):PutsR y v v' L ((a,bs)::L) [(a,bs.length,v.st.txg,shaF bs)]:=by
 obtain⟨tk,hle⟩:=p.took
 obtain⟨zs,hl,hz,hws⟩:=p.sec
 have hzl:=hl.cost
 have hcb:=aV_ y.k bs.length h1 h2
 have hb0:=hi.b0
 have hwl:v'.ws.length=v.ws.length+C_ y.k bs.length:=by rw [hws,List.length_append,eE_,hzl]
 have hcf:=tk.cntF
 have hF:0<=cntL v'.spc.free:=by omega
 refine⟨h.put hi hc p h1 h2 (by omega),fun x hx=> List.mem_cons_of_mem _ hx,fun q hq=> ?_,by simp,fun q hq x hx e=> ?_,fun x hx=> ?_,by rw [p.st], ?_,by omega,tk.cells,tk.back,tk.leaving,fun q C hf hq hC hlt=> ?_⟩
 ·rw [List.mem_singleton.1 hq];exact⟨bs,by simp,rfl,rfl⟩
 ·rw [List.mem_singleton.1 hq] at e
  have e:x.1=a:=e
  have h3:=(h.dsk.std x hx).cost
  have h4:=h.used x hx (a:Int) ⟨by omega,by omega⟩
  have h5:=tk.at1 (a:Int) ⟨by omega,by omega⟩
  exact hi.fu _ ⟨h5,h4⟩
 ·rcases List.mem_cons.1 hx with rfl | hx
  ·exact .inr ⟨(a,bs.length,v.st.txg,shaF bs),by simp,rfl⟩
  ·exact .inl hx
 ·simp [A_];omega
 ·have e:A_ y.k [(a,bs.length,v.st.txg,shaF bs)]=C_ y.k bs.length:=by simp [A_]
  rw [e] at hlt ⊢
  exact p.take.head1 hf hi' hq (by omega) hlt hC
structure WrOk (L':List Blk) (n:Nat) (r r':Rf n) (ms:List Ptr4):Prop where
 dk:DskK L' n r'
 nd:NdT L' n r'.2
 pr:prs n r'.2=prs n r.2
 bk:(bkR r').Perm (bkR r++ms)
 some:r'.1.isSome=true
 len:r'.2.length=r.2.length
theorem WrOk.same {r:Rf n} (hk:DskK L n r) (hn:NdT L n r.2) (h:r.1.isSome=true):WrOk L n r r []:=⟨hk,hn,rfl,by simp,h,rfl⟩
structure WrL (L':List Blk) (n:Nat) (t t':List (Pc n)) (i:Nat) (ms:List Ptr4):Prop where
 len:t'.length=t.length
 key: ∀(j:Nat) k k',t[j]? =some k->t'[j]? =some k'->k'.1=k.1/\prs n k'.2.2=prs n k.2.2
 lo: ∀(j:Nat) k',j < i->t'[j]? =some k'->k'.2.1.isSome=true/\DskK L' n k'.2/\NdT L' n k'.2.2
 hi: ∀(j:Nat),i<=j->t'[j]? =t[j]?
 same: ∀(j:Nat) k k',t[j]? =some k->t'[j]? =some k'->k.2.1.isSome=true->k'.2.1=k.2.1
 bk:(bkP t').Perm (bkP t++ms)
theorem WrL.start (L:List Blk) (t:List (Pc n)):WrL L n t t 0 []:=⟨rfl,fun j k k' h1 h2=> by rw [h1] at h2;cases h2;exact⟨rfl,rfl⟩,fun j k' hj=> by omega,fun _ _=> rfl,fun j k k' h1 h2 _=> by rw [h1] at h2;cases h2;rfl,by simp⟩
theorem WrL.step {t t':List (Pc n)} {ms ns:List Ptr4} {k:Pc n} {r':Rf n} (h:WrL L n t t' i ms) (hk:t[i]? =some k) (hw:WrOk L' n k.2 r' ns) (hsm:k.2.1.isSome=true->r'.1=k.2.1) (hL: ∀x∈L,x∈L'):WrL L' n t (t'.set i (k.1,r')) (i+1) (ms++ns):=by
 have hi:i < t.length:=(List.getElem?_eq_some_iff.1 hk).1
 have hi':i < t'.length:=by rw [h.len];exact hi
 have hki:t'[i]? =some k:=by rw [h.hi i (Nat.le_refl _)];exact hk
 refine⟨by rw [List.length_set];exact h.len,fun j a b ha hb=> ?_,fun j b hj hb=> ?_,fun j hj=> ?_,fun j a b ha hb hs=> ?_, ?_⟩
 ·rw [List.getElem?_set] at hb
  by_cases e:i=j
  ·subst e
   rw [if_pos rfl,if_pos hi'] at hb
   rw [hk] at ha
   cases ha;cases hb
   exact⟨rfl,hw.pr⟩
  ·rw [if_neg e] at hb
   exact h.key j a b ha hb
 ·rw [List.getElem?_set] at hb
  by_cases e:i=j
  ·subst e
   rw [if_pos rfl,if_pos hi'] at hb
   cases hb
   exact⟨hw.some,hw.dk,hw.nd⟩
  ·rw [if_neg e] at hb
   obtain⟨h1,h2,h3⟩:=h.lo j b (by omega) hb
   exact⟨h1,h2.mono hL,h3.mono hL⟩
 ·rw [List.getElem?_set,if_neg (by omega)]
  exact h.hi j (by omega)
 ·rw [List.getElem?_set] at hb
  by_cases e:i=j
  ·subst e
   rw [if_pos rfl,if_pos hi'] at hb
   rw [hk] at ha
   cases ha;cases hb
   exact hsm hs
  ·rw [if_neg e] at hb
   exact h.same j a b ha hb hs
 ·have e1:=bk_at hki
  have e2:bkP (t'.set i (k.1,r'))=bkP (t'.take i)++bkR r'++bkP (t'.drop (i+1)):=by
   have h3:(t'.set i (k.1,r'))[i]? =some (k.1,r'):=by rw [List.getElem?_set,if_pos rfl,if_pos hi']
   have h4:=bk_at h3
   rw [List.take_set_of_le (Nat.le_refl _),List.drop_set_of_lt (by omega)] at h4
   exact h4
  have h5:=h.bk
  have h6:=hw.bk
  rw [e1] at h5
  rw [e2]
  rw [List.perm_iff_count] at h5 h6 ⊢
  intro a
  have:=h5 a
  have:=h6 a
  simp only [List.count_append] at*
  omega
theorem hL_ (t:List (Pc n)):prsP t=(t.map (fun k=> (k.1,prs n k.2.2))).flatMap (fun z=> z.2):=by
 rw [prsP,List.flatMap_map]
theorem spW_map (t:List (Pc n)):SpW t↔(t.map (fun k=> (k.1,prs n k.2.2))).Pairwise (fun x y:Ky×List Pr=> (∀p∈x.2,p.1 < y.1)/\(∀p∈y.2,¬p.1 < y.1)):=by
 rw [List.pairwise_map];exact Iff.rfl
theorem WrL.map {t t':List (Pc n)} (h:WrL L n t t' i ms):t'.map (fun k=> (k.1,prs n k.2.2))=t.map (fun k=> (k.1,prs n k.2.2)):=by
 apply List.ext_getElem?
 intro j
 rw [List.getElem?_map,List.getElem?_map]
 by_cases hj:j < t.length
 ·have h1:=List.getElem?_eq_getElem hj
  have h2:=List.getElem?_eq_getElem (show j < t'.length by rw [h.len];exact hj)
  obtain⟨h3,h4⟩:=h.key j _ _ h1 h2
  rw [h1,h2]
  simp only [Option.map_some,h3,h4]
 ·rw [List.getElem?_eq_none (by rw [h.len];omega:t'.length<=j),List.getElem?_eq_none (by omega:t.length<=j)]
theorem dD_:(ptrB cc_).length=50:=by
 have hlt: ∀c,128<=c->(D_ c).length=(D_ (c / 128)).length+1:=fun c hc=> by rw [ar_ hc];simp
 simp only [ptrB,cc_,encL,encI,List.map_cons,List.map_nil,List.flatten_cons,List.flatten_nil,List.length_append,List.length_cons,List.length_nil,List.length_replicate]
 rw [hlt (2*40000) (by omega),hlt (2*40000 / 128) (by omega),x_ (c:=2*40000 / 128 / 128) (by omega),hlt (2*1024) (by omega),x_ (c:=2*1024 / 128) (by omega),x_ (c:=32) (by omega)]
 have e:(2*(1125899906842624:Int).toNat)=2251799813685248:=rfl
 rw [e,hlt 2251799813685248 (by omega),hlt (2251799813685248 / 128) (by omega),hlt (2251799813685248 / 128 / 128) (by omega),hlt (2251799813685248 / 128 / 128 / 128) (by omega),hlt (2251799813685248 / 128 / 128 / 128 / 128) (by omega),hlt (2251799813685248 / 128 / 128 / 128 / 128 / 128) (by omega),hlt (2251799813685248 / 128 / 128 / 128 / 128 / 128 / 128) (by omega),x_ (c:=2251799813685248 / 128 / 128 / 128 / 128 / 128 / 128 / 128) (by omega)]
 rfl
theorem kidB_le {k k':Pc n} (h:k'.2.1=k.2.1\/(k.2.1=none/\ ∀q,k'.2.1=some q->GoodPt q)):(kidB k').length<=(kidB k).length:=by
 rcases h with h | ⟨h1,h2⟩
 ·rw [kidB,kidB,h];exact Nat.le_refl _
 ·rw [kidB,kidB,h1]
  show _<=(ptrB cc_).length
  rw [dD_]
  cases hk:k'.2.1 with
  | none=> show (ptrB cc_).length<=50;rw [dD_];exact Nat.le_refl _
  | some q=> exact eX_ (h2 q hk)
def gs_ {n:Nat} (t:List (Pc n)):List Itm:=t.flatMap (fun k=> [Itm.txt k.1,Itm.txt (kidB k)])
theorem aZ_ (k:Pc n) (r:List (Pc n)):gs_ (k::r)=Itm.txt k.1::Itm.txt (kidB k)::gs_ r:=rfl
theorem hV_: ∀(t t':List (Pc n)),t'.length=t.length->(∀k∈t,k.1.length<=24/\(kidB k).length<=50)->(∀(j:Nat) k k',t[j]? =some k->t'[j]? =some k'->k'.1=k.1/\(kidB k').length<=(kidB k).length)->(encL (gs_ t')).length<=(encL (gs_ t)).length
 | [],[],_,_,_=> Nat.le_refl _
 | [],_::_,h,_,_=> by simp at h
 | _::_,[],h,_,_=> by simp at h
 | k::r,k'::r',h,hg,hk=> by
  have ih:=hV_ r r' (by simpa using h) (fun x hx=> hg x (List.mem_cons_of_mem _ hx)) (fun j a b ha hb=> hk (j+1) a b (by simpa using ha) (by simpa using hb))
  obtain⟨h1,h2⟩:=hk 0 k k' rfl rfl
  obtain⟨g1,g2⟩:=hg k (by simp)
  rw [aZ_,aZ_,r_,r_,r_,r_,h1]
  simp only [List.length_append]
  rw [aU_ (kidB k) (by omega),aU_ (kidB k') (by omega)]
  omega
theorem sz_le {t t':List (Pc n)} (hl:t'.length=t.length) (hg: ∀k∈t,k.1.length<=24/\(kidB k).length<=50) (hk: ∀(j:Nat) k k',t[j]? =some k->t'[j]? =some k'->k'.1=k.1/\(kidB k').length<=(kidB k).length):szF (n+1) t'<=szF (n+1) t:=by
 show (encL (.num 2::(gs_ t').drop 1)).length<=(encL (.num 2::(gs_ t).drop 1)).length
 rw [r_,r_,List.length_append,List.length_append]
 refine Nat.add_le_add_left ?_ _
 cases t with
 | nil=> cases t' with
  | nil=> exact Nat.le_refl _
  | cons a r=> simp at hl
 | cons k r=> cases t' with
  | nil=> simp at hl
  | cons k' r'=>
   have ih:=hV_ r r' (by simpa using hl) (fun x hx=> hg x (List.mem_cons_of_mem _ hx)) (fun j a b ha hb=> hk (j+1) a b (by simpa using ha) (by simpa using hb))
   obtain⟨h1,h2⟩:=hk 0 k k' rfl rfl
   obtain⟨g1,g2⟩:=hg k (by simp)
   rw [aZ_,aZ_,List.drop_succ_cons,List.drop_zero,List.drop_succ_cons,List.drop_zero,r_,r_]
   simp only [List.length_append]
   rw [aU_ (kidB k) (by omega),aU_ (kidB k') (by omega)]
   omega
structure WrNode (L:List Blk) (n:Nat) (t t':List (Pc n)):Prop where
 nd:NdT L (n+1) t'
 all:allW (n+1) t'
 pr:prsP t'=prsP t
 szl:szF (n+1) t'<=szF (n+1) t
theorem WrL.node {L0 L:List Blk} {t t':List (Pc n)} (h:WrL L n t t' i ms) (hi:t.length<=i) (hn:NdT L0 (n+1) t):WrNode L n t t':=by
 have hall: ∀k'∈t',k'.2.1.isSome=true/\DskK L n k'.2/\NdT L n k'.2.2:=fun k' hk'=> by
  obtain⟨j,hj⟩:=List.getElem?_of_mem hk'
  have hl:=(List.getElem?_eq_some_iff.1 hj).1
  rw [h.len] at hl
  exact h.lo j k' (by omega) hj
 have hkey: ∀k'∈t',k'.1.length<=24:=fun k' hk'=> by
  obtain⟨j,hj⟩:=List.getElem?_of_mem hk'
  have hl:=(List.getElem?_eq_some_iff.1 hj).1
  rw [h.len] at hl
  have h1:=List.getElem?_eq_getElem hl
  rw [(h.key j _ _ h1 hj).1]
  exact(hn.kid (t:=t) (List.getElem_mem hl)).key
 have hmap:=h.map
 have hsz:szF (n+1) t'<=szF (n+1) t:=by
  refine sz_le h.len (fun k hk=> ⟨(hn.kid (t:=t) hk).key,dh_ (fun q hq=> ((hn.kid (t:=t) hk).dk q hq).2.2.1)⟩) (fun j k k' hk hk'=> ⟨(h.key j k k' hk hk').1,kidB_le ?_⟩)
  cases hkk:k.2.1 with
  | none=> exact .inr ⟨rfl,fun q hq=> ((hall k' (List.mem_of_getElem? hk')).2.1 q hq).2.2.1⟩
  | some q=>
   left
   have hkq:=h.same j k k' hk hk' (by rw [hkk];rfl)
   rw [hkq,hkk]
 refine⟨⟨?_,Nat.le_trans hsz hn.sz, ?_,fun k hk=> ⟨hkey k hk,(hall k hk).2.1,(hall k hk).2.2⟩⟩, ?_, ?_,hsz⟩
 ·intro e
  have h1:=h.len
  have e:t'= []:=e
  rw [e] at h1
  exact hn.nil (List.eq_nil_of_length_eq_zero h1.symm)
 ·have h1:SpW t:=hn.nb.sp
  show SpW t'
  rw [spW_map] at h1 ⊢
  rw [hmap];exact h1
 ·exact fun k hk e=> by have h1:=(hall k hk).1;rw [e] at h1;cases h1
 ·rw [hL_,hL_,hmap]
theorem cj_: ∀(m:Nat) (l:List (Pc n)),l.length<=m->(o_ n l).1.length<=l.length
 | _,[],_=> by rw [dt_];exact Nat.le_refl _
 | _,[x],_=> by rw [bG_];exact Nat.le_refl _
 | 0,_::_::_,h=> by simp at h
 | m+1,x::y::r,h=> by
  have hr:r.length+1<=m:=by simp only [List.length_cons] at h;omega
  have ih:=cj_ m (y::r) (by simpa using hr)
  by_cases h1:x.2.1.isSome=true/\y.2.1.isSome=true
  ·rw [bO_ r h1.1 h1.2];simp only [List.length_cons] at ih ⊢;omega
  by_cases h2:szF n (t_ n x.2.2 y.1 y.2.2)<=1024
  ·rw [aX_ r h1 h2]
   have ih2:=cj_ m ((x.1,none,t_ n x.2.2 y.1 y.2.2)::r) (by simpa using hr)
   simp only [List.length_cons] at ih2 ⊢;omega
  ·rw [bl_ r h2];simp only [List.length_cons] at ih ⊢;omega
def wP (t:List Pr):Nat:=(encL (t.flatMap (fun p=> [Itm.txt p.1,Itm.txt p.2]))).length
theorem ch_ (a b:List Pr):wP (a++b)=wP a+wP b:=by
 rw [wP,List.flatMap_append,bA_,List.length_append];rfl
theorem wP_nil:wP []=0:=rfl
theorem sz0 (t:List Pr):szF 0 t=2+wP t:=by
 have e:szF 0 t=(encL (V_ t)).length:=rfl
 have h3:(encI (.num 1)).length=2:=by simp [encI,x_]
 rw [e,V_,r_,List.length_append,h3];rfl
theorem sz0' (t:List (El 0)):szF 0 t=2+wP (prs 0 t):=sz0 t
def wX (x:Pc 0):Nat:=wP (prs 0 x.2.2)
def wL (l:List (Pc 0)):Nat:=wP (prsP l)
theorem wL_cons (x:Pc 0) (l:List (Pc 0)):wL (x::l)=wX x+wL l:=by rw [wL,v_,ch_];rfl
theorem wX_join (k:Ky) (x y:Pc 0):wX (k,none,t_ 0 x.2.2 y.1 y.2.2)=wX x+wX y:=by
 show wP (prs 0 (t_ 0 x.2.2 y.1 y.2.2))=_
 rw [cs_,ch_];rfl
theorem sz_join (x y:Pc 0):szF 0 (t_ 0 x.2.2 y.1 y.2.2)=2+wX x+wX y:=by
 rw [sz0',cs_,ch_,Nat.add_assoc];rfl
theorem eL_: ∀(s:List (Pc 0)) (x:Pc 0) (B:List (Pc 0)),(∀y∈s,y.2.1=none)->(o_ 0 (x::(s++B))).1.length<=1+(wX x+2*wL s) / 1023+B.length
 | [],x,B,_=> by
  have:=cj_ _ (x::B) (Nat.le_refl _)
  simp only [List.nil_append,List.length_cons] at this ⊢
  omega
 | y::s,x,B,h=> by
  have hy:y.2.1=none:=h y (by simp)
  have hs: ∀z∈s,z.2.1=none:=fun z hz=> h z (List.mem_cons_of_mem _ hz)
  have hnb: ¬(x.2.1.isSome=true/\y.2.1.isSome=true):=fun hh=> by rw [hy] at hh;exact absurd hh.2 (by simp)
  rw [List.cons_append,wL_cons]
  by_cases hj:szF 0 (t_ 0 x.2.2 y.1 y.2.2)<=1024
  ·rw [aX_ _ hnb hj]
   have ih:=eL_ s (x.1,none,t_ 0 x.2.2 y.1 y.2.2) B hs
   rw [wX_join] at ih
   simp only at ih ⊢
   omega
  ·rw [bl_ _ hj]
   have ih:=eL_ s y B hs
   rw [sz_join] at hj
   simp only [List.length_cons] at ih ⊢
   omega
theorem eM_: ∀(m:Nat) (A s B:List (Pc 0)),A.length<=m->s≠ []->(∀y∈s,y.2.1=none)->(∀x∈A,wX x<=1022)->wL s<=1534->(o_ 0 (A++s++B)).1.length<=A.length+3+B.length
 | _,[],s,B,_,h0,hs,_,hw=> by
  cases s with
  | nil=> exact absurd rfl h0
  | cons y s=>
   have h1:=eL_ s y B (fun z hz=> hs z (List.mem_cons_of_mem _ hz))
   rw [wL_cons] at hw
   simp only [List.nil_append,List.cons_append,List.length_nil] at h1 ⊢
   omega
 | _,[x],s,B,_,_,hs,hA,hw=> by
  have h1:=eL_ s x B hs
  have h2:=hA x (by simp)
  simp only [List.cons_append,List.nil_append,List.length_cons,List.length_nil] at h1 ⊢
  omega
 | 0,_::_::_,_,_,hm,_,_,_,_=> by simp at hm
 | m+1,x::x'::A,s,B,hm,h0,hs,hA,hw=> by
  have hm':A.length+1<=m:=by simp only [List.length_cons] at hm;omega
  have ih:=eM_ m (x'::A) s B (by simpa using hm') h0 hs (fun z hz=> hA z (List.mem_cons_of_mem _ hz)) hw
  simp only [List.cons_append] at ih ⊢
  by_cases h1:x.2.1.isSome=true/\x'.2.1.isSome=true
  ·rw [bO_ _ h1.1 h1.2];simp only [List.length_cons] at ih ⊢;omega
  by_cases h2:szF 0 (t_ 0 x.2.2 x'.1 x'.2.2)<=1024
  ·rw [aX_ _ h1 h2]
   have ih2:=eM_ m ((x.1,none,t_ 0 x.2.2 x'.1 x'.2.2)::A) s B (by simpa using hm') h0 hs (fun z hz=> by
    rcases List.mem_cons.1 hz with rfl | hz
    ·rw [wX_join];rw [sz_join] at h2;omega
    ·exact hA z (List.mem_cons_of_mem _ (List.mem_cons_of_mem _ hz))) hw
   simp only [List.cons_append,List.length_cons] at ih2 ⊢
   omega
  ·rw [bl_ _ h2];simp only [List.length_cons] at ih ⊢;omega
theorem ex_ (c:Nat):1<=(D_ c).length:=by
 rw [D_];split <;> simp
theorem bB_ (z:Nat):2<=(encI (.num z)).length:=by
 have:=ex_ (2*z)
 simp only [encI,List.length_cons]
 omega
theorem ptrB_ge (h:GoodPt q):40<=(ptrB q).length:=by
 have h1:=bB_ q.1
 have h2:=bB_ q.2.1
 have h3:=bB_ q.2.2.1.toNat
 have h4:=aU_ q.2.2.2 (by rw [h.sum];decide)
 have h5:=h.sum
 rw [ptrB,r_,r_,r_,r_]
 simp only [List.length_append]
 omega
theorem kidB_ge {k:Pc n} (h: ∀q,k.2.1=some q->GoodPt q):40<=(kidB k).length:=by
 rw [kidB]
 cases hk:k.2.1 with
 | none=> show 40<=(ptrB cc_).length;rw [dD_];decide
 | some q=> exact ptrB_ge (h q hk)
theorem ce_ (s:Ky):s.length+2<=(encI (.txt s)).length:=by
 have:=ex_ s.length
 simp only [encI,List.length_cons,List.length_append]
 omega
theorem flatK_ge (t:List (Pc n)) (h: ∀k∈t,∀q,k.2.1=some q->GoodPt q):44*t.length<=(encL (gs_ t)).length:=by
 induction t with
 | nil=> simp
 | cons k r ih=>
  have ih:=ih (fun x hx=> h x (List.mem_cons_of_mem _ hx))
  have h1:=kidB_ge (h k (by simp))
  have h2:=ce_ k.1
  have h3:=ce_ (kidB k)
  rw [aZ_,r_,r_]
  simp only [List.length_append,List.length_cons]
  omega
theorem sz_many {t:List (Pc n)} (h:PcsOk L n t):44*t.length<=szF (n+1) t:=by
 show _<=(encL (.num 2::(gs_ t).drop 1)).length
 cases t with
 | nil=> simp
 | cons k r=>
  have hg: ∀k'∈k::r,∀q,k'.2.1=some q->GoodPt q:=fun k' hk' q hq=> ((h.all k' hk').dk q hq).2.2.1
  have ih:=flatK_ge r (fun x hx=> hg x (List.mem_cons_of_mem _ hx))
  have h1:=kidB_ge (hg k (by simp))
  have h2:=ce_ (kidB k)
  have h3:=bB_ 2
  rw [aZ_,List.drop_succ_cons,List.drop_zero,r_,r_]
  simp only [List.length_append,List.length_cons]
  omega
theorem NdT.few {t:List (Pc n)} (h:NdT L (n+1) t):t.length<=23:=by
 have h1:PcsOk L n t:=h.nb
 have h2:=sz_many h1
 have h3:szF (n+1) t<=1024:=h.sz
 omega
def pcI {n:Nat} (k:Ky) (t:List (Pc n)):Pc (n+1):=(k,none,t)
theorem fa_ {t:List (Pc n)} (key:Ky) (h:PcsOk L n t) (hl:t.length<=26):
  (t= []/\i_ (n+1) t key=([]:List (Pc (n+1))))\/(t≠ []/\i_ (n+1) t key= [pcI key t])\/(14<=t.length/\ ∃(a b:List (Pc n)) (k2:Ky),i_ (n+1) t key= [pcI key a,pcI k2 b]/\a.length+b.length=t.length/\1<=a.length/\1<=b.length):=by
 by_cases h0:t= []
 ·subst h0
  exact .inl ⟨rfl,X_ (n+1) key⟩
 by_cases hs:szF (n+1) t<=1024
 ·exact .inr (.inl ⟨h0,L_ (n:=n+1) (t:=t) key h0 hs⟩)
 ·have h2:14<=t.length:=by have:=fO_ h;omega
  have e:=dC_ (t:=t) key (by omega) hs
  obtain⟨A,hA⟩: ∃A:List (Pc n),A=t.take (t.length / 2):=⟨_,rfl⟩
  obtain⟨B,hB⟩: ∃B:List (Pc n),B=t.drop (t.length / 2):=⟨_,rfl⟩
  rw [<-hA,<-hB] at e
  have ha:PcsOk L n A:=by rw [hA];exact h.sub (List.take_sublist _ _)
  have hb:PcsOk L n B:=by rw [hB];exact h.sub (List.drop_sublist _ _)
  have la:A.length=t.length / 2:=by rw [hA,List.length_take];omega
  have lb:B.length=t.length - t.length / 2:=by rw [hB,List.length_drop]
  have sa:=fO_ ha
  have sb:=fO_ hb
  have sa':szF (n+1) A<=1024:=by omega
  have sb':szF (n+1) B<=1024:=by omega
  have na:A≠ []:=fun e=> by rw [e,List.length_nil] at la;omega
  have nb:B≠ []:=fun e=> by rw [e,List.length_nil] at lb;omega
  have fa:=L_ (n:=n+1) (t:=A) key na sa'
  have fb:=L_ (n:=n+1) (t:=B) (z_ t (t.length / 2)) nb sb'
  exact .inr (.inr ⟨h2,A,B,_,by rw [e];exact congr (congrArg (fun x y:List (Pc (n+1))=> x++y) fa) fb,by omega,by omega,by omega⟩)
theorem gu_ (k size:Nat):C_ k size<=4*((size+127) / 128):=by
 have h:=bs_ k ((size+127) / 128) 0 0
 rw [C_]
 omega
theorem hZ_ (s:Ky) (h:s.length<=300):(encI (.txt s)).length<=s.length+3:=by
 have h1:=(y_ 1 s.length (by omega)).2
 simp only [encI,List.length_cons,List.length_append]
 omega
theorem wP_le: ∀(l:List Pr),(∀p∈l,bi_ p)->wP l<=329*l.length
 | [],_=> by simp [wP_nil]
 | p::l,h=> by
  have ih:=wP_le l (fun x hx=> h x (List.mem_cons_of_mem _ hx))
  obtain⟨h1,h2,h3⟩:=h p (by simp)
  have h4:=aU_ p.1 (by omega)
  have h5:=hZ_ p.2 h3
  have e:wP (p::l)=wP [p]+wP l:=ch_ [p] l
  have e2:wP [p]=(encI (.txt p.1)).length+(encI (.txt p.2)).length:=by
   rw [wP,List.flatMap_cons,List.flatMap_nil,List.append_nil,r_,r_]
   simp [encL]
  rw [e,e2,List.length_cons]
  omega
theorem hP_: ∀(t:List (Pc n)),(∀k∈t,NdT L n k.2.2)->t.length<=(prsP t).length
 | [],_=> Nat.le_refl _
 | k::t,h=> by
  have ih:=hP_ t (fun x hx=> h x (List.mem_cons_of_mem _ hx))
  have h1:=List.length_pos_iff.2 (h k (by simp)).ne
  rw [v_,List.length_append,List.length_cons]
  omega
theorem unwC_le: ∀(n:Nat) (r:Rf n),NdT L n r.2->unwC 1 n r<=(12+4*n)*(prs n r.2).length
 | 0,r,h=> by
  have h1:=gu_ 1 (szF 0 r.2)
  have h2:szF 0 r.2=2+wP (prs 0 r.2):=sz0' r.2
  have h3:=wP_le (prs 0 r.2) h.srt.2
  have h4:1<=(prs 0 r.2).length:=List.length_pos_iff.2 h.ne
  rw [unwC]
  split <;> omega
 | n+1,r,h=> by
  have hk: ∀k∈(r.2:List (Pc n)),NdT L n k.2.2:=fun k hk=> (h.kid (t:=r.2) hk).nd
  have h1:=gu_ 1 (szF (n+1) r.2)
  have hok:PcsOk L n r.2:=h.nb
  have h2:szF (n+1) r.2<=78*List.length (α:=Pc n) r.2+2:=fO_ hok
  have h3:List.length (α:=Pc n) r.2<=(prsP (n:=n) r.2).length:=hP_ _ hk
  have h0:1<=List.length (α:=Pc n) r.2:=List.length_pos_iff.2 h.nil
  have h4: ∀t:List (Pc n),(∀k∈t,NdT L n k.2.2)->(t.map (fun k=> unwC 1 n k.2)).sum<=(12+4*n)*(prsP t).length:=fun t ht=> by
   induction t with
   | nil=> simp
   | cons k t ih=>
    have ih:=ih (fun x hx=> ht x (List.mem_cons_of_mem _ hx))
    have hk:=unwC_le n k.2 (ht k (by simp))
    rw [List.map_cons,List.sum_cons,v_,List.length_append,Nat.mul_add]
    omega
  have h5:=h4 r.2 hk
  have e:(prs (n+1) r.2).length=(prsP (n:=n) r.2).length:=rfl
  have e2:(12+4*(n+1))*(prsP (n:=n) r.2).length=(12+4*n)*(prsP (n:=n) r.2).length+4*(prsP (n:=n) r.2).length:=by
   rw [show 12+4*(n+1)=(12+4*n)+4 by omega,Nat.add_mul]
  have key:C_ 1 (szF (n+1) r.2)+List.sum (List.map (α:=Pc n) (fun k=> unwC 1 n k.2) r.2)<=(12+4*(n+1))*(prs (n+1) r.2).length:=by
   rw [e,e2]
   omega
  show unwC 1 (n+1) r<=_
  unfold unwC
  split
  ·exact Nat.zero_le _
  ·exact key
theorem fl_ (o:Option Ptr4) (t:List (Pc n)) (ih: ∀k:Pc n,(ae_ n k.2).1<=n):(ae_ (n+1) (o,t)).1<=n+1:=by
 cases o with
 | some q=> rw [aa_ (some q) t (.inl rfl)];exact Nat.le_refl _
 | none=>
  match t with
  | []=> rw [aa_ none [] (.inr (.inr rfl))];exact Nat.le_refl _
  | [k]=> exact Nat.le_succ_of_le (ih k)
  | x::y::r=> rw [aa_ none (x::y::r) (.inr (.inl (by simp)))];exact Nat.le_refl _
theorem id_: ∀(n:Nat) (r:Rf n),(ae_ n r).1<=n
 | 0,_=> Nat.le_refl _
 | n+1,r=> fl_ r.1 r.2 (fun k=> id_ n k.2)
def HtOk (m:Nat):Root->Prop
 | none=> True
 | some ⟨n,x⟩=> ∃H,n<=H/\(1<=H->12*H+2<=2*m+7)/\(n=H->1<=H->12*H+x.2.length<=2*m+7)
theorem HtOk.mono {m m':Nat} (h:HtOk m r) (hm:m<=m'):HtOk m' r:=by
 cases r with
 | none=> trivial
 | some x=>
  obtain⟨n,x⟩:=x
  obtain⟨H,h1,h2,h3⟩:=h
  exact⟨H,h1,fun h=> by have:=h2 h;omega,fun e h=> by have:=h3 e h;omega⟩
theorem gw_ (o:Option Ptr4) (t:List (Pc n)) {m H:Nat} (hn:n+1<=H) (h1:1<=H->12*H+2<=2*m+7) (h2:n+1=H->1<=H->12*H+t.length<=2*m+7):HtOk m (some (ae_ (n+1) (o,t))):=by
 have same:ae_ (n+1) (o,t)=⟨n+1,(o,t)⟩->HtOk m (some (ae_ (n+1) (o,t))):=fun e=> by
  rw [e];exact⟨H,hn,h1,h2⟩
 cases o with
 | some q=> exact same (aa_ _ _ (.inl rfl))
 | none=>
  match t,same with
  | [],same=> exact same (aa_ _ _ (.inr (.inr rfl)))
  | x::y::r,same=> exact same (aa_ _ _ (.inr (.inl (by simp))))
  | [k],_=>
   have h3:=id_ n k.2
   show HtOk m (some (ae_ n k.2))
   revert h3
   generalize ae_ n k.2=z
   intro h3
   obtain⟨n',x'⟩:=z
   have h3:n'<=n:=h3
   exact⟨H,by omega,h1,fun e=> by omega⟩
theorem cf_:{n:Nat}->(r:Rf n)->{m H:Nat}->(hn:n<=H)->(h1:1<=H->12*H+2<=2*m+7)->(h2:n=H->1<=H->12*H+r.2.length<=2*m+7)->HtOk m (some (ae_ n r))
 | 0,_,_,H,hn,h1,h2=> ⟨H,hn,h1,h2⟩
 | _+1,r,_,_,hn,h1,h2=> gw_ r.1 r.2 hn h1 h2
theorem bR_: ∀(m:Nat) (t:List (El n)) (key:Ky),t.length<=m-> ∀x∈i_ n t key,x.2.1=none
 | m,t,key,hm,x,hx=> by
  by_cases h0:t= []
  ·subst h0;rw [X_] at hx;cases hx
  by_cases hs:szF n t<=1024
  ·rw [L_ key h0 hs] at hx
   rw [List.mem_singleton.1 hx]
  by_cases h2:2<=t.length
  ·obtain⟨c1,c2⟩:=cx_ n t.length h2
   rw [bx_ key h2 hs] at hx
   match m,hm with
   | 0,hm=> omega
   | m+1,hm=>
   rcases List.mem_append.1 hx with hx | hx
   ·exact bR_ m _ _ (by rw [List.length_take];omega) x hx
   ·exact bR_ m _ _ (by rw [List.length_drop];omega) x hx
  ·have h1:=List.length_pos_iff.2 h0
   rw [i_,if_neg (by omega),if_neg hs,dif_pos (by omega)] at hx
   cases hx
def WOk (f:List Pr->Except Int (List Pr)):Prop:= ∀t l,wP t<=1022->f t= .ok l->wP l<=1351
def EdC (L:List Blk):(n:Nat)->Rf n->List (Pc n)->Prop
 | 0,_,l=> ∃t':List Pr,l=i_ 0 t' []/\wP t'<=1351
 | n+1,r,l=> ∃T:List (Pc n),l=i_ (n+1) T []/\PcsOk L n T/\T.length<=List.length (α:=Pc n) r.2+2
theorem fB_ {k:Ky} {l:List (Pc n)} (h: ∀x∈l,x.2.1=none): ∀x∈j_ k l,x.2.1=none:=by
 cases l with
 | nil=> exact h
 | cons a r=>
  intro x hx
  rcases List.mem_cons.1 hx with rfl | hx
  ·exact h a (by simp)
  ·exact h x (List.mem_cons_of_mem _ hx)
theorem tid_lvl0 {t sub:List (Pc 0)} (ht:PcsOk L 0 t) (hi:i < t.length) (hn: ∀x∈sub,x.2.1=none) (hw:wL sub<=1351):(o_ 0 (allF t i sub)).1.length<=t.length+2:=by
 by_cases h0:sub= []
 ·subst h0
  have h1:=cj_ _ (allF t i []) (Nat.le_refl _)
  have h2:=fs_ t i [] hi
  simp only [List.length_nil] at h2
  omega
 ·have h3:PcsOk L 0 (j_ [] t):=ht.withKey (k:= []) (by simp)
  have h1:=eM_ _ ((j_ [] t).take i) (j_ (z_ (j_ [] t) i) sub) (t.drop (i+1)) (Nat.le_refl _) (fun e=> h0 (by cases sub with
   | nil=> rfl
   | cons a r=> cases e)) (fB_ hn) (fun x hx=> by
    have h4:=(h3.all x (List.mem_of_mem_take hx)).nd.sz
    rw [sz0'] at h4
    show wP (prs 0 x.2.2)<=_
    omega) (by rw [wL,ap_];exact Nat.le_trans hw (by decide))
  rw [List.length_take,List.length_drop,S_] at h1
  rw [allF]
  omega
theorem fg_ (hf:EdF key f) (hw:WOk f) (o:Option Ptr4) (t:List (Pc n)) (h:NdT L (n+1) t) (ih: ∀k:Pc n,NdT L n k.2.2-> ∀l',f (prs n k.2.2)= .ok l'-> ∀sub g,aA_ n k.2 key f= .ok (sub,g)->EdC L n k.2 sub) (l':List Pr) (hl:f (prsP t)= .ok l') (sub:List (Pc (n+1))) (g:List Ptr4) (he:aA_ (n+1) (o,t) key f= .ok (sub,g)):EdC L (n+1) (o,t) sub:=by
 have hko:=h.kidOk (t:=t) key
 obtain⟨i,hi⟩: ∃i,i=kidF t key:=⟨_,rfl⟩
 rw [<-hi] at hko
 have hnb:PcsOk L n t:=h.nb
 obtain⟨k,hk⟩: ∃k:Pc n,t[i]? =some k:=⟨_,List.getElem?_eq_getElem hko.lt⟩
 have hpk:=hnb.all k (List.mem_of_getElem? hk)
 have hpr:prsP t=prsP (t.take i)++prs n k.2.2++prsP (t.drop (i+1)):=prs_at hk
 have hloc:=hf.loc _ (prs n k.2.2) _ hko.A hko.B
 rw [<-hpr] at hloc
 have hes:=cM_ (o,t) key f (k:=k) (by show t[kidF t key]? =some k;rw [<-hi];exact hk)
 have hes:aA_ (n+1) (o,t) key f=(match aA_ n k.2 key f with | .error e=> .error e | .ok (sub,g)=> .ok (i_ (n+1) (o_ n (allF t (kidF t key) sub)).1 [],o.toList++g++(o_ n (allF t (kidF t key) sub)).2)):=hes
 rw [<-hi] at hes
 rw [hloc] at hl
 cases hfk:f (prs n k.2.2) with
 | error e2=> rw [hfk] at hl;cases hl
 | ok l2=>
  obtain⟨sub1,g1,hed,hok⟩:=(cL_ hf n k.2 hpk.nd).2 l2 hfk
  have hcnt:=ih k hpk.nd l2 hfk sub1 g1 hed
  rw [hes,hed] at he
  injection he with he
  have he:=(Prod.mk.inj he).1
  obtain⟨⟨ha1, -, -⟩, -⟩:=fh_ hf h hko hk hfk hok
  have htd:=bw_ _ _ (Nat.le_refl _) ha1
  refine⟨(o_ n (allF t i sub1)).1,he.symm,htd.ok, ?_⟩
  show _<=t.length+2
  clear hes hed he hloc hl hpr htd ha1
  cases n with
  | zero=>
   obtain⟨t',hs,hw'⟩:=hcnt
   have hpn:prsP sub1=l2:=hok.pr
   have h5:wP (prs 0 k.2.2)<=1022:=by
    have h4:szF 0 k.2.2<=1024:=hpk.nd.sz
    rw [sz0'] at h4
    omega
   exact tid_lvl0 hnb hko.lt (by rw [hs];exact bR_ _ _ _ (Nat.le_refl _)) (by rw [wL,hpn];exact hw _ _ h5 hfk)
  | succ n=>
   obtain⟨T',hs,hok',hle⟩:=hcnt
   have h6:List.length (α:=Pc n) k.2.2<=23:=NdT.few (t:=k.2.2) hpk.nd
   have h7:sub1.length<=2:=by
    rcases fa_ [] hok' (by omega) with ⟨_,e⟩ | ⟨_,e⟩ | ⟨_,a,b,k2,e,_⟩ <;> (rw [hs,e];simp)
   have h1:=cj_ _ (allF t i sub1) (Nat.le_refl _)
   have h2:=fs_ t i sub1 hko.lt
   omega
theorem ia_ (hf:EdF key f) (hw:WOk f): ∀(n:Nat) (r:Rf n),NdT L n r.2-> ∀l',f (prs n r.2)= .ok l'-> ∀sub g,aA_ n r key f= .ok (sub,g)->EdC L n r sub
 | 0,r,h,l',hl,sub,g,he=> by
  have hl:f r.2= .ok l':=hl
  rw [br_,hl] at he
  injection he with he
  have he:=(Prod.mk.inj he).1
  have h1:szF 0 r.2<=1024:=h.sz
  rw [sz0'] at h1
  exact⟨l',he.symm,hw r.2 l' (by show wP (prs 0 r.2)<=_;omega) hl⟩
 | n+1,r,h,l',hl,sub,g,he=> fg_ hf hw r.1 r.2 h (fun k hk=> ia_ hf hw n k.2 hk) l' hl sub g he
theorem hT_ (l:List (Pc 0)) (hn: ∀x∈l,x.2.1=none) (hw:wL l<=1351) (hok:PcsOk L 0 l) (fuel:Nat) (hfu:l.length<=fuel) {m H:Nat} (h1:1<=H->12*H+2<=2*m+7) (h2:2<=l.length->4<=m):HtOk m (Q_ fuel 0 l).1:=by
 have hd: ∀l':List (Pc 0),l'.length<=1->HtOk m (ha_ l'):=fun l' hl=> by
  match l',hl with
  | [],_=> trivial
  | [y],_=> exact cf_ (n:=0) y.2 (H:=H) (Nat.zero_le _) h1 (fun e h=> by omega)
 by_cases hl:l.length<=1
 ·rw [bc_ fuel l hl]
  exact hd l hl
 match fuel,hfu with
 | 0,hfu=> omega
 | fuel+1,hfu=>
 have ht:=bw_ l.length l (Nat.le_refl _) hok
 by_cases hl2:(o_ 0 l).1.length<=1
 ·rw [bU_ fuel l hl hl2]
  exact hd _ hl2
 ·rw [bV_ fuel l hl hl2]
  have h3:=eM_ 0 [] l [] (Nat.le_refl _) (fun e=> by rw [e] at hl;simp at hl) hn (fun x hx=> by cases hx) (by omega)
  simp only [List.nil_append,List.append_nil,List.length_nil] at h3
  obtain⟨T,hT⟩: ∃T,T=(o_ 0 l).1:=⟨_,rfl⟩
  have hto:=ht.ok
  rw [<-hT] at h3 hl2 hto
  rw [<-hT]
  rcases fa_ [] hto (by omega) with ⟨e,_⟩ | ⟨_,e⟩ | ⟨h4,_⟩
  ·rw [e] at hl2;simp at hl2
  ·rw [show i_ (0+1) T []= [pcI [] T] from e]
   rw [bc_ fuel [pcI [] T] (by simp)]
   have h4:=h2 (by omega)
   show HtOk m (some (ae_ 1 (none,T)))
   rcases Nat.eq_zero_or_pos H with hH | hH
   ·exact cf_ (n:=1) (none,T) (H:=1) (Nat.le_refl _) (fun _=> by omega) (fun _ _=> by show 12*1+T.length<=_;omega)
   ·have h5:=h1 hH
    exact cf_ (n:=1) (none,T) (H:=H) hH h1 (fun e _=> by subst e;show 12*1+T.length<=_;omega)
  ·omega
theorem do_ht (hf:EdF key f) (hw:WOk f) (r:Root) (h:RtOk L r) {m:Nat} (hm:HtOk m r) (hp:(m_ r).length<=m) {l':List Pr} (hl:f (m_ r)= .ok l') {r':Root} {g:List Ptr4} (hd:doF r key f= .ok (r',g)):HtOk (m+1) r':=by
 cases r with
 | none=>
  have hl:f []= .ok l':=hl
  obtain⟨h1,h2, -,h4⟩:=hf.ok [] l' List.Pairwise.nil (fun p hp=> by cases hp) hl
  simp only [List.length_nil] at h4
  have hp:=au_ (L:=L) (n:=0) l'.length l' [] (Nat.le_refl _) ⟨h1,h2⟩ (by show l'.length<=900;omega) (by simp)
  have hwp:=hw [] l' (by simp [wP_nil]) hl
  rw [doF] at hd
  simp only [hl] at hd
  injection hd with hd
  have hd:=congrArg Prod.fst hd
  subst hd
  refine hT_ (H:=0) _ hp.new (by rw [wL,hp.pr];exact hwp) hp.ok _ (Nat.le_refl _) (fun h=> by omega) (fun h2l=> ?_)
  exfalso
  have hwl:=wP_le l' h2
  by_cases h0:l'= []
  ·have e:i_ 0 l' []= []:=by rw [h0];exact X_ 0 []
   rw [e] at h2l;simp at h2l
  ·have e:=L_ (n:=0) (t:=l') [] h0 (by rw [sz0];omega)
   rw [e] at h2l;simp at h2l
 | some x=>
  obtain⟨n,x⟩:=x
  have hl:f (prs n x.2)= .ok l':=hl
  obtain⟨sub,g1,hs,hok⟩:=(cL_ hf n x h.2).2 l' hl
  have hcnt:=ia_ hf hw n x h.2 l' hl sub g1 hs
  rw [doF] at hd
  simp only [hs] at hd
  injection hd with hd
  have hd:=(Prod.mk.inj hd).1
  subst hd
  obtain⟨H,hH1,hH2,hH3⟩:=hm
  have hH2':1<=H->12*H+2<=2*(m+1)+7:=fun h=> by have:=hH2 h;omega
  cases n with
  | zero=>
   have hsub:sub=i_ 0 l' []:=by
    have e:=hs
    rw [br_,show f x.2= .ok l' from hl] at e
    injection e with e
    exact(Prod.mk.inj e).1.symm
   have hnew: ∀x∈sub,x.2.1=none:=by rw [hsub];exact bR_ _ _ _ (Nat.le_refl _)
   have h1:szF 0 x.2<=1024:=h.2.sz
   rw [sz0'] at h1
   have hsr:=h.2.srt
   obtain⟨-,h2, -,h4⟩:=hf.ok _ l' hsr.1 hsr.2 hl
   have hp':(prs 0 x.2).length<=m:=hp
   refine hT_ sub hnew (by rw [wL,hok.pr];exact hw _ _ (by omega) hl) hok.ok _ (Nat.le_refl _) hH2' (fun h2l=> ?_)
   by_cases h0:l'= []
   ·have e:i_ 0 l' []= []:=by rw [h0];exact X_ 0 []
    rw [hsub,e] at h2l;simp at h2l
   ·by_cases hz:szF 0 l'<=1024
    ·have e:=L_ (n:=0) (t:=l') [] h0 hz
     rw [hsub,e] at h2l;simp at h2l
    ·have hwl:=wP_le l' h2
     rw [sz0] at hz
     omega
  | succ n=>
   obtain⟨T,hsub,hTok,hTl⟩:=hcnt
   have hc:List.length (α:=Pc n) x.2<=23:=h.2.few (t:=x.2)
   have hx2:List.length (α:=El (n+1)) x.2=List.length (α:=Pc n) x.2:=rfl
   rcases fa_ [] hTok (by omega) with ⟨_,e⟩ | ⟨_,e⟩ | ⟨h14,a,b,k2,e,hab,ha1,hb1⟩
   ·rw [hsub,e]
    trivial
   ·rw [hsub,e,bc_ _ [pcI [] T] (by simp)]
    show HtOk (m+1) (some (ae_ (n+1) (none,T)))
    exact cf_ (n:=n+1) (none,T) hH1 hH2' (fun e h=> by
     have h3:=hH3 e h
     show 12*H+T.length<=_
     omega)
   ·have hsp:PcsOk L (n+1) sub:=hok.ok
    have e':sub= [pcI [] a,pcI k2 b]:=by rw [hsub,e]
    subst e'
    have hno: ¬([pcI [] a,pcI k2 b].length<=1):=by simp
    have hnb: ¬((pcI [] a).2.1.isSome=true/\(pcI k2 b).2.1.isSome=true):=by simp [pcI]
    by_cases hj:szF (n+1) (t_ (n+1) a k2 b)<=1024
    ·have et:o_ (n+1) [pcI [] a,pcI k2 b]=([((([]:Ky),none,t_ (n+1) a k2 b):Pc (n+1))],[]):=by
      have e1:=aX_ (x:=pcI [] a) (y:=pcI k2 b) [] hnb hj
      rw [bG_] at e1
      exact e1
     rw [show [pcI [] a,pcI k2 b].length=1+1 from rfl,bU_ 1 _ hno (by rw [et];simp),et]
     show HtOk (m+1) (some (ae_ (n+1) (none,t_ (n+1) a k2 b)))
     exact cf_ (n:=n+1) (none,t_ (n+1) a k2 b) hH1 hH2' (fun e h=> by
      have h3:=hH3 e h
      have h4:=congrArg (List.length (α:=Pc n)) (ev_ a b k2)
      rw [List.length_append,S_] at h4
      show 12*H+List.length (α:=Pc n) (t_ (n+1) a k2 b)<=_
      omega)
    ·have et:o_ (n+1) [pcI [] a,pcI k2 b]=([pcI [] a,pcI k2 b],[]):=by
      have e1:=bl_ (x:=pcI [] a) (y:=pcI k2 b) [] hj
      rw [bG_] at e1
      exact e1
     rw [show [pcI [] a,pcI k2 b].length=1+1 from rfl,bV_ 1 _ hno (by rw [et];simp),et]
     rcases fa_ [] hsp (by simp) with ⟨e3,_⟩ | ⟨_,e3⟩ | ⟨h4,_⟩
     ·cases e3
     ·show HtOk (m+1) (Q_ 1 (n+1+1) (i_ (n+1+1) [pcI [] a,pcI k2 b] [])).1
      rw [show i_ (n+1+1) [pcI [] a,pcI k2 b] []= [pcI [] [pcI [] a,pcI k2 b]] from e3,bc_ 1 [pcI [] [pcI [] a,pcI k2 b]] (by simp)]
      show HtOk (m+1) (some (ae_ (n+2) (none,[pcI [] a,pcI k2 b])))
      rcases Nat.lt_or_ge (n+1) H with hlt | hge
      ·exact cf_ (n:=n+2) (none,[pcI [] a,pcI k2 b]) (H:=H) hlt hH2' (fun _ h=> by
        have:=hH2 h
        show 12*H+2<=_
        omega)
      ·have hHe:n+1=H:=by omega
       have h3:=hH3 hHe (by omega)
       refine cf_ (n:=n+2) (none,[pcI [] a,pcI k2 b]) (H:=n+2) (Nat.le_refl _) (fun _=> by omega) (fun _ _=> ?_)
       show 12*(n+2)+2<=_
       omega
     ·simp at h4
theorem wP_cut (t:List Pr) {a b:Nat} (h:a<=b):wP (t.take a)+wP (t.drop b)<=wP t:=by
 have h1:wP t=wP (t.take a)+wP (t.drop a):=by rw [<-ch_,List.take_append_drop]
 have h2:wP (t.drop a)=wP ((t.drop a).take (b - a))+wP (t.drop b):=by
  rw [<-ch_]
  have e:t.drop b=(t.drop a).drop (b - a):=by rw [List.drop_drop];congr 1;omega
  rw [e,List.take_append_drop]
 omega
theorem put_w {key val:Ky} (hk:key.length<=24) (hv:val.length<=300):WOk (putF key val):=by
 intro t l ht hl
 rw [putF] at hl
 injection hl with hl
 subst hl
 have h1:=wP_cut t (show atF t key<=atF t key+(if F_ t key then 1 else 0) by omega)
 have h2:wP [(key,val)]<=329:=by
  have h4:=aU_ key (by omega)
  have h5:=hZ_ val hv
  have e2:wP [(key,val)]=(encI (.txt key)).length+(encI (.txt val)).length:=by
   rw [wP,List.flatMap_cons,List.flatMap_nil,List.append_nil,r_,r_]
   simp [encL]
  rw [e2]
  omega
 rw [ch_,ch_]
 omega
theorem drop_w (key:Ky):WOk (bF_ key):=by
 intro t l ht hl
 rw [bF_] at hl
 split at hl
 ·injection hl with hl
  subst hl
  have h1:=wP_cut t (show atF t key<=atF t key+1 by omega)
  rw [ch_]
  omega
 ·cases hl
theorem unwR_le (h:RtOk L r) {m:Nat} (hm:HtOk m r) (hp:(m_ r).length<=m):unwR 1 r<=(12+4*((2*m+5) / 12))*(m_ r).length:=by
 cases r with
 | none=> exact Nat.zero_le _
 | some x=>
  obtain⟨n,x⟩:=x
  obtain⟨H,h1,h2,h3⟩:=hm
  have h4:=unwC_le n x h.2
  refine Nat.le_trans h4 (Nat.mul_le_mul_right _ ?_)
  rcases Nat.eq_zero_or_pos H with h5 | h5
  ·omega
  ·have:=h2 h5
   omega
theorem PutsR.room (p:PutsR y v v' L L' ms) {q C:Int} (hf:v.spc.free= [(q,C)]) (hq:0<=q) (hC:C<=40000) (hb:v.spc.back=0) {z U:Nat} (hz:A_ y.k ms+z<=U) (hU:q+U < C): ¬NoRoomZ y.k v' z:=fun hno=> by
 have h1:=p.one q C hf hq hC (by omega)
 exact hno.not h1 (by rw [p.back];exact hb) (by omega)
theorem SyF.app {a b c:World} (h:SyF y a b) (he:Ext S b c) (hg: ∀g∈S,a.heap.size<=g):SyF y a c:=
 ExtT.trans' h (ExtT.of he (fun _ hx=> .inl hx):ExtT S [] b c) (fun _ h=> .inl h) (fun x hx=> .inr (hg x hx)) (fun _ h=> h) (by simp)
def BlkPost (y:Sy) (v:Sv) (L:List Blk) (l:List Ptr4) (w:World) (e:Ending) (w':World):Prop:=
 ∃u v',e= .returned (.tuple #[u,.int .i64 0])/\EP.Ow 34 w' u l/\(∀g∈blkL u,w.heap.size<=g)/\SyR w' y v'/\SameV v v'/\Dsk y v' L/\SyF y w w'
structure BlS (y:Sy) (v v':Sv) (L:List Blk) (u:Value) (l:List Ptr4) (w w':World):Prop where
 ow:EP.Ow 34 w' u l
 new: ∀g∈blkL u,w.heap.size<=g
 sy:SyR w' y v'
 same:SameV v v'
 dk:Dsk y v' L
 fr:SyF y w w'
theorem BlS.ext0 {u:Value} {l:List Ptr4} (h:BlS y v v' L u l w w') (he:Ext [] w' w2):BlS y v v' L u l w w2:=
 ⟨h.ow.ext0 he,h.new,h.sy.ext0 he,h.same,h.dk,h.fr.trans (SyF.of0 he)⟩
def eC_ (n:Nat) (k:Rf n):Prop:= ∀(q:Ptr4) (y:Sy) (v:Sv) (L:List Blk) (w:World),k.1=some q->SyR w y v->Dsk y v L->DskK L n k->NdT L n k.2->(bkR k).length<=100000->Calls Tryz.prog 32 #[.pointer (some ⟨y.b,0,none⟩),ah_ q] w (BlkPost y v L (bkR k) w)
theorem cC_ (t:List (Pc n)) (i:Nat) (hi:i < t.length):bkP (t.take (i+1))=bkP (t.take i)++bkR t[i].2:=by
 rw [List.take_succ_eq_append_getElem hi,ba_,aL_];simp [bkP,bkR]
theorem hh_ (t:List (Pc n)) (i:Nat) (hi:i < t.length):(bkP (t.take i)).length+(bkR t[i].2).length<=(bkP t).length:=by
 have h1:=cC_ t i hi
 have h2:bkP t=bkP (t.take (i+1))++bkP (t.drop (i+1)):=by rw [<-ba_,List.take_append_drop]
 rw [h2,h1,List.length_append,List.length_append]
 omega
theorem ef_ (r:Rf n) {m:Nat} (t:List (Pc m)) (leaf:Bool) (pl:List Pr) (ks:List Ky)
  (hnode: ∀w b,NodeR w n b r.2-> ∃rs,NodeB w b leaf pl ks rs/\KidsR (NodeR w m) rs t) (htl: ∀L,NdT L n r.2->t.length<=256)
  (hbk:bkT n r.2=bkP t) (hkid: ∀L,NdT L n r.2->allW n r.2-> ∀k∈t,(∃q,k.2.1=some q)/\DskK L m k.2/\NdT L m k.2.2)
  (ih: ∀k∈t,eC_ m k.2):eC_ n r:=by
 intro q y v L w hq h hd hK hN hlen
 have hE0:Ext [] w (w.alloc (.cells #[.int .i64 q.1,.int .i64 q.2.1,.int .i64 q.2.2.1,.string ⟨q.2.2.2.toArray⟩] 34)):=(Ext.refl [] w).alloc _
 have hb0:=heap_alloc_new w (.cells #[.int .i64 q.1,.int .i64 q.2.1,.int .i64 q.2.2.1,.string ⟨q.2.2.2.toArray⟩] 34)
 have hKq:=hK q hq
 have hbr:bkR r=q::bkP t:=by rw [bkR,hq,hbk];rfl
 rw [hbr] at hlen ⊢
 have HNO:=hi_ (fun W=> de_ W w (q,none) (some ⟨n,r⟩) L (by show KidR _ (q,none) r;unfold KidR;simp only [hq]) ⟨hK,hN.dsk,hN.good,hN.wf,hN.neT⟩ (fun x hx=> (hd.std x hx).1))
 have HLD:=hi_ (fun(W:World) (hs:SyR W y v)=> df_ (fun k=> k < W.heap.size) y v L n (q,none) r W hs hd (by unfold KidR;simp only [hq]) hK hN.good)
 obtain⟨x0,x1,x2,x3, -⟩:=E_ hb0
 obtain⟨HB0,HE0⟩:=h_2 hb0 hE0
 have HS:=hi_ (h.ext0 hE0)
 have HNODE:=hi_ hnode
 have HKID:=hi_ (hkid L hN hKq.2.2.2.1)
 obtain⟨HIH,HLEN⟩:=h_2 ih hlen
 have HTL:=hi_ (htl L hN)
 have HDD:=hi_ hd
 simp only [refV,ptV,Option.map_none] at HNO HLD
 clear hE0 hb0 hKq h hd hK hN hnode hkid ih hlen htl hbr hbk hq
 simp only [ah_]
 go_enter Tryz.func32,Tryz.ntmps32
 go_wp2_with fail
 refine(HNO.out _).mono ?_
 rintro e W1 ⟨rfl,hE1⟩
 have hb1:=hE1.blk HB0.out (by simp)
 have hsz1:w.heap.size < W1.heap.size:=g_ hb1
 have hEa:Ext [] W1 (W1.alloc (.cells #[.int .i64 q.1,.int .i64 q.2.1,.int .i64 q.2.2.1,.string ⟨q.2.2.2.toArray⟩] 34)):=(Ext.refl [] W1).alloc _
 have hb2:=hEa.blk hb1 (by simp)
 have how0:EP.Ow 34 (W1.alloc (.cells #[.int .i64 q.1,.int .i64 q.2.1,.int .i64 q.2.2.1,.string ⟨q.2.2.2.toArray⟩] 34)) (.slice (some ⟨W1.heap.size,0,none⟩) 1 1) [q]:= .inr ⟨W1.heap.size,0,1,[q],rfl,heap_alloc_new _ _,by simp,by simp,rfl⟩
 have hbs:BlS y v v L (.slice (some ⟨W1.heap.size,0,none⟩) 1 1) [q] w (W1.alloc (.cells #[.int .i64 q.1,.int .i64 q.2.1,.int .i64 q.2.2.1,.string ⟨q.2.2.2.toArray⟩] 34)):=⟨how0,fun g hg=> by simp [blkL] at hg;omega,(HS.out.ext0 hE1).ext0 hEa,SameV.refl v,HDD.out,((SyF.of0 HE0.out).trans (SyF.of0 hE1)).trans (SyF.of0 hEa)⟩
 obtain⟨x0,x1,x2,x3, -⟩:=E_ hb1
 obtain⟨z0,z1,z2,z3, -⟩:=E_ hb2
 have HBS:=hi_ hbs
 obtain⟨b0,hb0⟩: ∃z,z=w.heap.size:=⟨_,rfl⟩
 rw [<-hb0] at x0 x1 x2 x3 z0 z1 z2 z3
 simp only [<-hb0]
 clear hb1 hb2 hEa how0 hbs hE1 HB0 HE0 HS hb0 hsz1
 go_wp2_with fail
 refine(HLD.out _ HBS.out.sy).mono ?_
 rintro e W3 ⟨b,v3,rfl,hn3,hs3,hsm3,hd3,hF3⟩
 obtain⟨rs,hnb,hkr⟩:=HNODE.out W3 b (NodeRI.node _ _ _ hn3)
 obtain⟨S3,hS3a,hS3b⟩:=hF3.tags HBS.out.sy
 have hbs3:BlS y v v3 L (.slice (some ⟨W1.heap.size,0,none⟩) 1 1) [q] w W3:=⟨HBS.out.ow.ext hS3a (fun g hg hm=> hS3b g hm _ (by decide) (HBS.out.ow.tagOf g hg)),HBS.out.new,hs3,HBS.out.same.trans hsm3,hd3,HBS.out.fr.trans hF3⟩
 have HB3:Hid (BlS y v v3 L (.slice (some ⟨W1.heap.size,0,none⟩) 1 1) ([q]++bkP (t.take 0)) w W3):=hi_ (by simpa [bkP] using hbs3)
 have hks0: ∀(i:Nat) (k:Pc m),t[i]? =some k-> ∃q',k.2.1=some q'/\rs.getD i R0=(q',none):=fun i k hk=> by
  obtain⟨⟨q',hq'⟩, -, -⟩:=HKID.out k (List.mem_of_getElem? hk)
  have hit:=(List.getElem?_eq_some_iff.1 hk).1
  have hir:i < rs.length:=by rw [hkr.1];exact hit
  have h1:=hkr.2 i _ _ (List.getElem?_eq_getElem hir) hk
  unfold KidR at h1
  simp only [hq'] at h1
  exact⟨q',hq',by simp [List.getD,hir,h1]⟩
 have HKS:=hi_ hks0
 obtain⟨M,hM⟩: ∃M,M=rs.length:=⟨_,rfl⟩
 have hMt:M=t.length:=by rw [hM,hkr.1]
 obtain⟨pp,cp,pk,ck,pr,cr,c0,c1,c2,c3,hps,hks,hrs, -⟩:=hnb.cells
 rw [<-hM] at c3 hrs
 obtain⟨HRS,HM,HMT⟩:=h_3 hrs hM hMt
 have hM9:M<=256:=by have:=HTL.out;omega
 clear hn3 hnb hkr hs3 hsm3 hd3 hF3 hS3a hS3b hbs3 hps hks hrs hks0 c0 c1 c2 HBS hM hMt x0 x1 x2 x3 z0 z1 z2 z3 HNO HLD HNODE
 go_wp2_with fail
 clear c3
 go_loopw [6,37] (fun ov iv wr=> ∃(i:Nat) (v':Sv),iv= .int .i64 i/\i<=M/\(∃p c,ov= .slice p ([q]++bkP (t.take i)).length c)/\Hid (BlS y v v' L ov ([q]++bkP (t.take i)) w wr/\ERf.Ow 89 wr (.slice pr M cr) rs)) (fun _ iv _=> M - (intOf iv).toNat)
 case atStart=> exact⟨0,v3,rfl,Nat.zero_le _,⟨_,_,rfl⟩,hi_ ⟨HB3.out,HRS.out⟩⟩
 case round=>
  clear HB3 HRS
  obtain⟨i,v',rfl,hi,⟨po,co,rfl⟩,HI⟩:=hrel
  by_cases hlt:i < M
  ·have zl:(i:Int) < (M:Int):=by omega
   have hit:i < t.length:=by rw [<-HMT.out];exact hlt
   obtain⟨k,hk⟩: ∃k:Pc m,t[i]? =some k:=⟨_,List.getElem?_eq_getElem hit⟩
   have hke:t[i]=k:=by rw [List.getElem?_eq_getElem hit] at hk;exact Option.some.inj hk
   obtain⟨q2,hq2,hyd⟩:=HKS.out i k hk
   obtain⟨-,hdk,hnd⟩:=HKID.out k (List.mem_of_getElem? hk)
   obtain⟨g1,o1,rfl⟩: ∃g o,pr=some ⟨g,o,none⟩:=by
    rcases HI.out.2 with ⟨h,_⟩ | ⟨g,o,c,_,h,_⟩
    ·simp only [Value.slice.injEq] at h;omega
    ·simp only [Value.slice.injEq] at h;exact⟨g,_,h.1⟩
   obtain⟨m0,m1,m2,m3,m4⟩:=aP_ HI.out.2.rd i (by rw [<-HM.out];exact hlt)
   rw [hyd] at m0 m1 m2 m3 m4
   simp only [ptV,Option.map_none] at m4
   have htk:=cC_ t i hit
   have htl:=hh_ t i hit
   rw [hke] at htk htl
   obtain⟨LN,hLN⟩: ∃z,z=([q]++bkP (t.take i)).length:=⟨_,rfl⟩
   obtain⟨BL,hBL⟩: ∃z,z= [q]++bkP (t.take i):=⟨_,rfl⟩
   have hlb:LN+(bkR k.2).length<=100000:=by
    have h1:=HLEN.out
    rw [List.length_cons] at h1
    rw [hLN,List.length_append,List.length_singleton]
    omega
   rw [<-hLN] at HI ⊢
   rw [<-hBL] at HI hLN
   have hnext:BL++bkR k.2= [q]++bkP (t.take (i+1)):=by rw [hBL,htk,List.append_assoc]
   obtain⟨HNX,HLN,HLB⟩:=h_3 hnext hLN hlb
   have hEx:Ext [] wr (wr.alloc (.cells #[.int .i64 q2.1,.int .i64 q2.2.1,.int .i64 q2.2.2.1,.string ⟨q2.2.2.2.toArray⟩,.pointer none] 89)):=(Ext.refl [] wr).alloc _
   have HI1:Hid (BlS y v v' L (.slice po LN co) BL w (wr.alloc (.cells #[.int .i64 q2.1,.int .i64 q2.2.1,.int .i64 q2.2.2.1,.string ⟨q2.2.2.2.toArray⟩,.pointer none] 89))/\ERf.Ow 89 (wr.alloc (.cells #[.int .i64 q2.1,.int .i64 q2.2.1,.int .i64 q2.2.2.1,.string ⟨q2.2.2.2.toArray⟩,.pointer none] 89)) (.slice (some ⟨g1,o1,none⟩) M cr) rs):=hi_ ⟨HI.out.1.ext0 hEx,HI.out.2.ext0 hEx⟩
   have hcall:=HIH.out k (List.mem_of_getElem? hk) q2 y v' L _ hq2 HI1.out.1.sy HI1.out.1.dk hdk hnd (by omega)
   simp only [ah_] at hcall
   have HCALL:=hi_ hcall
   have zi2:((i:Int)).toNat=i:=by omega
   clear hcall hEx hnext hLN hBL hlb htk htl hk hke hq2 hyd hdk hnd HI
   go_wp2_with fail
   refine HCALL.out.mono ?_
   rintro e W5 ⟨u5,v5,rfl,how5,hnew5,hs5,hsm5,hd5,hF5⟩
   have hsy1:=HI1.out.1.sy
   obtain⟨S5,hS5a,hS5b⟩:=hF5.tags hsy1
   have HB5:Hid (BlS y v v5 L (.slice po LN co) BL w W5):=hi_ ⟨HI1.out.1.ow.ext hS5a (fun g hg hm=> hS5b g hm _ (by decide) (HI1.out.1.ow.tagOf g hg)),HI1.out.1.new,hs5,HI1.out.1.same.trans hsm5,hd5,HI1.out.1.fr.trans hF5⟩
   have HR5:Hid (ERf.Ow 89 W5 (.slice (some ⟨g1,o1,none⟩) M cr) rs):=hi_ (HI1.out.2.ext hS5a (fun g hg hm=> hS5b g hm _ (by decide) (HI1.out.2.tagOf g hg)))
   have HU5:=hi_ how5
   clear how5 hnew5 hs5 hsm5 hd5 hF5 hS5a hS5b HI1 HCALL hsy1 m0 m1 m2 m3 m4
   go_wp2_with (with_reducible refine e_ (d:=53) ?_)
   refine k_ rfl fun K hK=> b_ (s:= .tmp 51) (x:= .tmp 52) (E:=EP) (T:=34) (zero:=(0,0,0,[])) (bytes:=40) (v:= .slice po LN co) (u:=u5) (xs:=BL) (ys:=bkR k.2) tiEP Tryz.underlying38 Tryz.underlying38 rfl rfl rfl HB5.out.ow HU5.out.rd (by rw [<-HLN.out];have:=HLB.out;omega) (by rw [<-HLN.out];have:=HLB.out;omega) ?_
   intro v6 W6 how6 hext6 hnear6 _
   rw [HNX.out] at how6
   have htg:=HB5.out.ow.tagOf
   have HB6:Hid (BlS y v v5 L v6 ([q]++bkP (t.take (i+1))) w W6/\ERf.Ow 89 W6 (.slice (some ⟨g1,o1,none⟩) M cr) rs):=hi_ ⟨⟨how6,fun g hg=> (hnear6 g hg).elim (HB5.out.new g) (fun h=> Nat.le_trans (ExtT.size HB5.out.fr) h),HB5.out.sy.otherT hext6 (fun g hg T hT=> by rw [htg g hg];revert T;decide),HB5.out.same,HB5.out.dk,HB5.out.fr.app hext6 HB5.out.new⟩,HR5.out.ext hext6 (fun g hg hm=> by have h1:=htg g hm;rw [HR5.out.tagOf g hg] at h1;cases h1)⟩
   obtain⟨p6,c6,rfl,_⟩:=how6.rd.len_eq
   refine hK _ _ ?_
   clear hK how6 hext6 hnear6 htg HB5 HR5 HU5 HNX HLN HLB
   go_wp2_with fail
   go_roundw
   case rel=> exact⟨i+1,v5,by go_num,by omega,⟨_,_,rfl⟩,HB6⟩
   case measure=> simp [intOf];omega
  ·have zl: ¬((i:Int) < (M:Int)):=by omega
   have hiM:i=t.length:=by rw [<-HMT.out];omega
   have hfin:=HI.out.1
   rw [hiM,List.take_length] at hfin
   have HFIN:=hi_ hfin
   clear hfin
   subst hiM
   go_wp2_with fail
   go_ret2
   rw [List.take_length] at*
   exact⟨_,v',rfl,HFIN.out.ow,HFIN.out.new,HFIN.out.sy,HFIN.out.same,HFIN.out.dk,HFIN.out.fr⟩
theorem eI_ (r:Rf 0):eC_ 0 r:=
 ef_ r (m:=0) [] true r.2 [] (fun w b hnr=> ⟨[],hnr,rfl,fun i y x hy=> by simp at hy⟩) (fun _ _=> by simp) rfl (fun _ _ _ k hk=> by cases hk) (fun k hk=> by cases hk)
theorem eJ_ (o:Option Ptr4) (t:List (Pc n)) (ih: ∀k:Pc n,eC_ n k.2):eC_ (n+1) (o,t):=
 ef_ (n:=n+1) (o,t) (m:=n) t false [] (q_ t) (fun w b hnr=> hnr) (fun L hn=> N_ hn.sz) (fo_ t) (fun L hn ha k hk=> by
  refine⟨?_,(hn.kid (t:=t) hk).dk,(hn.kid (t:=t) hk).nd⟩
  cases hq:k.2.1 with
  | some q=> exact⟨q,rfl⟩
  | none=> exact absurd hq (ha k hk)) (fun k _=> ih k)
theorem ee_: ∀(n:Nat) (r:Rf n),eC_ n r
 | 0,r=> eI_ r
 | _+1,r=> eJ_ r.1 r.2 (fun k=> ee_ _ k.2)
theorem ci_ (y:Sy) (w:World):Calls Tryz.prog 32 #[.pointer (some ⟨y.b,0,none⟩),ah_ P0] w fun e w'=> e= .returned (.tuple #[.slice none 0 0,.int .i64 0])/\Ext [] w w':=by
 have hE0:Ext [] w (w.alloc (.cells #[.int .i64 0,.int .i64 0,.int .i64 0,.string ⟨#[]⟩] 34)):=(Ext.refl [] w).alloc _
 obtain⟨x0,x1,x2,x3, -⟩:=E_ (heap_alloc_new w (.cells #[.int .i64 0,.int .i64 0,.int .i64 0,.string ⟨#[]⟩] 34))
 have HNO:=hi_ (fun W=> de_ W w (P0,none) none [] rfl trivial (by simp))
 simp only [refV,ptV,Option.map_none,P0] at HNO
 simp only [ah_,P0]
 go_enter Tryz.func32,Tryz.ntmps32
 go_wp2_with fail
 refine(HNO.out _).mono ?_
 rintro e W1 ⟨rfl,hE1⟩
 clear x0 x1 x2 x3
 go_wp2_with fail
 go_ret2
 exact⟨rfl,hE0.trans hE1⟩
theorem fL_ (q:Ptr4) (w:World):Calls Tryz.prog 32 #[.pointer none,ah_ q] w fun e w'=> e= .returned (.tuple #[.slice none 0 0,.int .i64 1])/\Ext [] w w':=by
 have hE0:Ext [] w (w.alloc (.cells #[.int .i64 q.1,.int .i64 q.2.1,.int .i64 q.2.2.1,.string ⟨q.2.2.2.toArray⟩] 34)):=(Ext.refl [] w).alloc _
 simp only [ah_]
 go_enter Tryz.func32,Tryz.ntmps32
 go_wp2_with fail
 go_ret2
 exact⟨rfl,hE0⟩
theorem ip_ (q:Ptr4) (w:World):Calls Tryz.prog 13 #[.pointer none,ah_ q] w fun e w'=> e= .returned (.tuple #[.pointer none,.int .i64 1])/\Ext [] w w':=by
 have hE0:Ext [] w (w.alloc (.cells #[.int .i64 q.1,.int .i64 q.2.1,.int .i64 q.2.2.1,.string ⟨q.2.2.2.toArray⟩] 34)):=(Ext.refl [] w).alloc _
 simp only [ah_]
 go_enter Tryz.func13,Tryz.ntmps13
 go_wp2_with fail
 go_ret2
 exact⟨rfl,hE0⟩
theorem lawin_c (lv:Value) (l:List Ptr4) (q:Ptr4) (w:World) (hl:EP.Rd w lv l) (hn:l.length<=1000000):Calls Tryz.prog 33 #[lv,ah_ q] w fun e w'=> e= .returned (.int .i64 (l.count q))/\Ext [] w w':=by
 obtain⟨p,c,rfl,hc⟩:=hl.len_eq
 obtain⟨N,hN⟩: ∃N,N=l.length:=⟨_,rfl⟩
 rw [<-hN] at hl hn hc ⊢
 have hE0:Ext [] w (w.alloc (.cells #[.int .i64 q.1,.int .i64 q.2.1,.int .i64 q.2.2.1,.string ⟨q.2.2.2.toArray⟩] 34)):=(Ext.refl [] w).alloc _
 have hb0:=heap_alloc_new w (.cells #[.int .i64 q.1,.int .i64 q.2.1,.int .i64 q.2.2.1,.string ⟨q.2.2.2.toArray⟩] 34)
 obtain⟨HB0,HE0⟩:=h_2 hb0 hE0
 have HL:=hi_ (hl.ext0 hE0)
 have HN:=hi_ hN
 clear hE0 hb0 hl hN
 simp only [ah_]
 go_enter Tryz.func33,Tryz.ntmps33
 go_wp2_with fail
 obtain⟨b0,hb0⟩: ∃z,z=w.heap.size:=⟨_,rfl⟩
 rw [<-hb0] at HB0
 try simp only [<-hb0]
 clear hb0
 revert HB0 HE0 HL
 generalize World.alloc _ _=W0
 intro HE0 HL HB0
 go_loopw [5,6] (fun nv iv wr=> ∃i:Nat,iv= .int .i64 i/\i<=N/\nv= .int .i64 ((l.take i).count q)/\Hid (Ext [] W0 wr)) (fun _ iv _=> N - (intOf iv).toNat)
 case atStart=> exact⟨0,rfl,Nat.zero_le _,by simp,hi_ (Ext.refl _ _)⟩
 case round=>
  obtain⟨i,rfl,hi,rfl,HE⟩:=hrel
  by_cases hlt:i < N
  ·have zl:(i:Int) < (N:Int):=by omega
   have hil:i < l.length:=by rw [<-HN.out];exact hlt
   obtain⟨g1,o1,rfl⟩: ∃g o,p=some ⟨g,o,none⟩:=by
    rcases HL.out with ⟨h,_⟩ | ⟨g,o,c,h,_⟩
    ·simp only [Value.slice.injEq] at h;omega
    ·simp only [Value.slice.injEq] at h;exact⟨g,_,h.1⟩
   obtain⟨m0,m1,m2,m3⟩:=dn_ (HL.out.ext0 HE.out) i hil
   obtain⟨x,hx⟩: ∃x,x=l.getD i P0:=⟨_,rfl⟩
   rw [<-hx] at m0 m1 m2 m3
   obtain⟨k0,k1,k2,k3, -⟩:=E_ (HE.out.blk HB0.out (by simp))
   have hx':l[i]? =some x:=by rw [hx];simp [List.getD,hil]
   have zi2:((i:Int)).toNat=i:=by omega
   have hct:(l.take (i+1)).count q=(l.take i).count q+(if x=q then 1 else 0):=by
    rw [List.take_add_one,hx',List.count_append]
    congr 1
    by_cases h:x=q
    ·subst h;simp
    ·simp [h,List.count_nil]
   have hcl:(l.take i).count q<=i:=Nat.le_trans List.count_le_length (by rw [List.length_take];omega)
   obtain⟨CT,hCT⟩: ∃z,z=(l.take i).count q:=⟨_,rfl⟩
   rw [<-hCT] at hct hcl ⊢
   have HCT:=hi_ hct
   clear hx hil hx' hct hCT
   by_cases he:x=q
   ·subst he
    have HC2:Hid ((l.take (i+1)).count x=CT+1):=hi_ (by rw [HCT.out];simp)
    clear HCT
    go_wp2_with fail
    go_big_quiet (fail)
    go_wp2_with fail
    go_roundw
    case rel=> exact⟨i+1,by go_num,by omega,by rw [HC2.out];go_num,hi_ (HE.out.drewN nq)⟩
    case measure=> simp [intOf];omega
   ·have HC2:Hid ((l.take (i+1)).count q=CT):=hi_ (by rw [HCT.out];simp [he])
    clear HCT
    by_cases e0:x.1=q.1
    ·rw [<-e0] at k0
     by_cases e1:x.2.1=q.2.1
     ·rw [<-e1] at k1
      by_cases e2:x.2.2.1=q.2.2.1
      ·rw [<-e2] at k2
       have e3:(x.2.2.2==q.2.2.2)=false:=by
        have h2: ¬x.2.2.2=q.2.2.2:=fun h2=> he (Prod.ext e0 (Prod.ext e1 (Prod.ext e2 h2)))
        simpa using h2
       clear he e0 e1 e2
       go_wp2_with fail
       go_big_quiet (fail)
       go_wp2_with fail
       go_roundw
       case rel=> exact⟨i+1,by go_num,by omega,by rw [HC2.out],hi_ (HE.out.drewN nq)⟩
       case measure=> simp [intOf];omega
      ·have e4:(x.2.2.1==q.2.2.1)=false:=by simpa using e2
       clear he e0 e1 e2
       go_wp2_with fail
       go_big_quiet (fail)
       go_wp2_with fail
       go_roundw
       case rel=> exact⟨i+1,by go_num,by omega,by rw [HC2.out],hi_ (HE.out.drewN nq)⟩
       case measure=> simp [intOf];omega
     ·have e4:((x.2.1:Int)==(q.2.1:Int))=false:=beq_eq_false_iff_ne.2 (by omega)
      clear he e0 e1
      go_wp2_with fail
      go_big_quiet (fail)
      go_wp2_with fail
      go_roundw
      case rel=> exact⟨i+1,by go_num,by omega,by rw [HC2.out],hi_ (HE.out.drewN nq)⟩
      case measure=> simp [intOf];omega
    ·have e4:((x.1:Int)==(q.1:Int))=false:=beq_eq_false_iff_ne.2 (by omega)
     clear he e0
     go_wp2_with fail
     go_big_quiet (fail)
     go_wp2_with fail
     go_roundw
     case rel=> exact⟨i+1,by go_num,by omega,by rw [HC2.out],hi_ (HE.out.drewN nq)⟩
     case measure=> simp [intOf];omega
  ·have zl: ¬((i:Int) < (N:Int)):=by omega
   have hil:l.take i=l:=List.take_of_length_le (by rw [<-HN.out];omega)
   rw [hil]
   go_wp2_with fail
   go_ret
   exact⟨rfl,HE0.out.trans HE.out⟩
end Go.Proofs.YtkpgjkekmdecbaaGreat
