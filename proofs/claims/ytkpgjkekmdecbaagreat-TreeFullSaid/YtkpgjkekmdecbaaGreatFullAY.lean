/- Lemmas for the claim. No conditions beside those that each states. -/
import Derived.Test.YtkpgjkekmdecbaaGreatFullAC
import Derived.Test.YtkpgjkekmdecbaaGreatFullAV
import Derived.Test.YtkpgjkekmdecbaaGreatFullAT
set_option maxRecDepth 100000
set_option maxHeartbeats 8000000
set_option linter.all false

namespace Go.Proofs.YtkpgjkekmdecbaaGreat
open Go.RowKit Go.ChangeShapes Go.WideShapes Go.Deep
variable {w:World} {n i:Nat} {key:Ky} {q:Ptr4} {ms:List Ptr4} {f:List Pr -> Except Int (List Pr)} {y:Sy} {v v':Sv} {L L':List Blk} {r:Root}
section
variable {H:Type} {enc:TypeId×Value->H} {P:Program} {w:World} {base:Nat} {spare:Nat->Bool} {held:Bool}
theorem field_str {e:TypeId} {fs:Array Field} {cs:List Value} {x:DataW H×List MemPlace} {a:Addr} (he:P.underlying e=some (.struct fs)) (hone:oneCellFields P fs=true)
  (hC:P.cellsOf e=fs.size) (hc:w.cells? base a (P.cellsOf e)=some cs) (h:DataW.trod enc P w base spare held n e cs=some x) {j:Nat} {f:Field} (hj:fs[j]? =some f) (hi:P.underlying f.type=some .string):
  ∃z:List UInt8,w.cell? (a.add j)=some (.string ⟨z.toArray⟩):=by
 obtain⟨v,y,m,h1,h2⟩:=dD_ he hone hC hc h hj
 obtain⟨z,h3,_⟩:=DataW.trod_string hi h2
 obtain rfl:v= .string z:=by simpa using h3
 exact⟨z.data.toList,by rw [h1]⟩
end
abbrev Stp:=Int×List UInt8×List UInt8×Int
def EOx:Enc Stp where
 k:=4
 hk:=by decide
 enc x:= [.int .i64 x.1,.string ⟨x.2.1.toArray⟩,.string ⟨x.2.2.1.toArray⟩,.int .i64 x.2.2.2]
 len _:=rfl
 one _ v hv:=by simp at hv;rcases hv with rfl | rfl | rfl | rfl <;> rfl
abbrev S0:Stp:=(0,[],[],0)
theorem EOx_cells {g o n cap:Nat} {s:List Stp} (h:EOx.Rd w (.slice (some ⟨g,o,none⟩) n cap) s) (i:Nat) (hi:i < s.length):
  w.cell? ⟨g,o+i*4,none⟩=some (.int .i64 (s.getD i S0).1)/\w.cell? ⟨g,o+i*4+1,none⟩=some (.string ⟨(s.getD i S0).2.1.toArray⟩)/\w.cell? ⟨g,o+i*4+2,none⟩=some (.string ⟨(s.getD i S0).2.2.1.toArray⟩)/\w.cell? ⟨g,o+i*4+3,none⟩=some (.int .i64 (s.getD i S0).2.2.2):=by
 have e:s.getD i S0=s[i]:=by simp [List.getD,hi]
 rw [e]
 exact⟨h.cells i 0 hi (by decide),h.cells i 1 hi (by decide),h.cells i 2 hi (by decide),h.cells i 3 hi (by decide)⟩
def StpOk (x:Stp):Prop:=(-9223372036854775808<=x.1/\x.1<=9223372036854775807)/\(-9223372036854775808<=x.2.2.2/\x.2.2.2<=9223372036854775807)
end Go.Proofs.YtkpgjkekmdecbaaGreat
namespace Go.Proofs.YtkpgjkekmdecbaaGreat
open Go.RowKit
variable {w:World} {n i:Nat} {key:Ky} {q:Ptr4} {ms:List Ptr4} {f:List Pr -> Except Int (List Pr)} {y:Sy} {v v':Sv} {L L':List Blk} {r:Root}
theorem DskK.mono {r:Rf n} (h:DskK L n r) (hL: ∀x∈L,x∈L'):DskK L' n r:=fun q hq=> ⟨hL _ (h q hq).1,(h q hq).2⟩
theorem NdT.mono:{L L':List Blk}->{n:Nat}->{t:List (El n)}->NdT L n t->(∀x∈L,x∈L')->NdT L' n t
 | _,_,0,_,h,_=> h
 | _,_,_+1,_,h,hL=> ⟨h.1,h.2.1,h.2.2.1,fun k hk=> ⟨(h.2.2.2 k hk).1,(h.2.2.2 k hk).2.1.mono hL,NdT.mono (h.2.2.2 k hk).2.2 hL⟩⟩
theorem RtOk.mono (h:RtOk L r) (hL: ∀x∈L,x∈L'):RtOk L' r:=by
 cases r with
 | none=> trivial
 | some x=> exact⟨h.1.mono hL,h.2.mono hL⟩
theorem DskK.keep {r:Rf n} (h:DskK L n r) (hL: ∀q∈bkR r,∀bs,(q.1,bs)∈L->(q.1,bs)∈L'):DskK L' n r:=fun q hq=> ⟨hL q (by rw [bkR,hq];simp) _ (h q hq).1,(h q hq).2⟩
theorem bkR_sub {t:List (Pc n)} {k:Pc n} (hk:k∈t): ∀q∈bkR k.2,q∈bkP t:=fun q hq=> List.mem_flatMap.2 ⟨k,hk,hq⟩
theorem NdT.keep:{L L':List Blk}->{n:Nat}->{t:List (El n)}->NdT L n t->(∀q∈bkT n t,∀bs,(q.1,bs)∈L->(q.1,bs)∈L')->NdT L' n t
 | _,_,0,_,h,_=> h
 | _,_,n+1,t,h,hL=> ⟨h.1,h.2.1,h.2.2.1,fun k hk=> ⟨(h.2.2.2 k hk).1,(h.2.2.2 k hk).2.1.keep (fun q hq=> hL q (bkR_sub (n:=n) (t:=t) hk q hq)),NdT.keep (h.2.2.2 k hk).2.2 (fun q hq=> hL q (bkR_sub (n:=n) (t:=t) hk q (by rw [bkR];exact List.mem_append_right _ hq)))⟩⟩
theorem RtOk.keep (h:RtOk L r) (hL: ∀q∈L_ r,∀bs,(q.1,bs)∈L->(q.1,bs)∈L'):RtOk L' r:=by
 cases r with
 | none=> trivial
 | some x=> exact⟨h.1.keep hL,h.2.keep (fun q hq=> hL q (by show q∈bkR _;rw [bkR];exact List.mem_append_right _ hq))⟩
theorem TakeRel.head1 {s s':Spc} {n a q C:Int} (h:TakeRel s n s' a 0) (hf:s.free= [(q,C)]) (hi:SpI s') (hq:0<=q) (hn:1<=n) (hle:q+n < C) (hC:C<=40000):s'.free= [(q+n,C)]:=by
 rcases h with ⟨_,_,_,h⟩ | ⟨_,_,_,_,h⟩ | ⟨_,_,⟨f,h1,h2⟩,_,t⟩
 ·cases h
 ·cases h
 ·have hfi:s.free.find? (cK_ n)=some (q,C):=by rw [hf];simp [cK_];omega
  rw [hfi] at h1
  cases h1
  have h2:a=q:=h2
  subst h2
  refine Ok.ext hi.okF ⟨by simp,by simp;omega⟩ (fun c=> ?_)
  rw [t.free,hf]
  constructor
  ·rintro⟨⟨x,hx,h1⟩,h2⟩
   simp at hx
   subst hx
   exact⟨(a+n,C),by simp,by simp only at h1 ⊢;omega⟩
  ·rintro⟨x,hx,h1⟩
   simp at hx
   subst hx
   simp only at h1
   exact⟨⟨(a,C),by simp,by simp only;omega⟩,by omega⟩
def NoRoomZ (k:Nat) (v:Sv) (z:Nat):Prop:= ∃size:Nat,1<=size/\size<=1024/\D_ k size<=z/\(cntL v.spc.free - v.spc.back < D_ k size\/v.spc.free.find? (cK_ (D_ k size))=none)
theorem NoRoomZ.not {k z:Nat} {q C:Int} (h:NoRoomZ k v z) (hf:v.spc.free= [(q,C)]) (hb:v.spc.back=0) (hle:q+z<=C):False:=by
 obtain⟨size,h1,h2,h4,h3⟩:=h
 rcases h3 with h3 | h3
 ·rw [hf,hb] at h3
  simp [cntL] at h3
  omega
 ·rw [hf] at h3
  simp [cK_] at h3
  omega
theorem iP_ (k:Nat): ∀(l l':Nat) (a b:Int),l<=l'->aN_ (ay_ k a l)<=aN_ (ay_ k b l'):=by
 intro l
 induction l using Nat.strongRecOn with
 | _ l ih=>
  intro l' a b hl
  by_cases h:l=0
  ·subst h
   rw [ap_]
   have:=(bY_ k l' b b).2.2.2
   simpa [aN_] using this
  ·rw [aa_ k a l h,aa_ k b l' (by omega)]
   have:=ih (l - min l (k+1)) (by omega) (l' - min l' (k+1)) (a+(min l (k+1):Nat)+3) (b+(min l' (k+1):Nat)+3) (by omega)
   simp only [aN_,List.map_cons,List.sum_cons] at this ⊢
   omega
theorem iQ_ (k:Nat) {s s':Nat} (h:s<=s'):D_ k s<=D_ k s':=by
 have:=iP_ k ((s+127) / 128) ((s'+127) / 128) 0 0 (by omega)
 rw [D_,D_]
 omega
theorem costF_le (k size:Nat) (h:size<=1024):D_ k size<=32:=by
 have h:=bY_ k ((size+127) / 128) 0 0
 rw [D_]
 omega
def unwC (c:Nat):(n:Nat)->Rf n->Nat
 | 0,r=> if r.1.isSome then 0 else D_ c (szF 0 r.2)
 | n+1,r=> if r.1.isSome then 0 else D_ c (szF (n+1) r.2)+((r.2:List (Pc n)).map (fun k=> unwC c n k.2)).sum
def unwR (c:Nat):Root->Nat
 | none=> 0
 | some ⟨n,r⟩=> unwC c n r
def G_ (k:Nat) (ms:List Ptr4):Nat:=(ms.map (fun q=> D_ k q.2.1)).sum
theorem dE_ (k:Nat) (ms ns:List Ptr4):G_ k (ms++ns)=G_ k ms+G_ k ns:=by simp [G_]
structure PutsR (y:Sy) (v v':Sv) (L L':List Blk) (ms:List Ptr4):Prop where
 dk:DkS y v' L'
 sub: ∀x∈L,x∈L'
 new: ∀q∈ms,∃bs,(q.1,bs)∈L'/\PtAt q bs
 nodup:(ms.map (fun q=> q.1)).Nodup
 fresh: ∀q∈ms,∀x∈L,x.1≠q.1
 old: ∀x∈L',x∈L\/ ∃q∈ms,q.1=x.1
 txg:v'.st.txg=v.st.txg
 cnt:cntL v'.spc.free+G_ y.k ms=cntL v.spc.free
 sum:v'.ws.length+cntL v'.spc.free=v.ws.length+cntL v.spc.free
 cells:v'.spc.cells=v.spc.cells
 back:v'.spc.back=v.spc.back
 leaving:v'.spc.leaving=v.spc.leaving
 one: ∀q C,v.spc.free= [(q,C)]->0<=q->C<=40000->q+G_ y.k ms < C->v'.spc.free= [(q+G_ y.k ms,C)]
theorem PutsR.refl (h:DkS y v L):PutsR y v v L L []:=⟨h,fun _ h=> h,by simp,by simp,by simp,fun x hx=> .inl hx,rfl,by simp [G_],rfl,rfl,rfl,rfl,fun q C h _ _ _=> by simpa [G_] using h⟩
theorem PutsR.trans {a b c:Sv} {L M N:List Blk} {ms ns:List Ptr4} (h:PutsR y a b L M ms) (k:PutsR y b c M N ns):PutsR y a c L N (ms++ns):=by
 refine⟨k.dk,fun x hx=> k.sub x (h.sub x hx),fun q hq=> ?_, ?_,fun q hq x hx=> ?_,fun x hx=> ?_,k.txg.trans h.txg, ?_,k.sum.trans h.sum,k.cells.trans h.cells,k.back.trans h.back,k.leaving.trans h.leaving,fun q C hf hq hC hlt=> ?_⟩
 ·rcases List.mem_append.1 hq with hq | hq
  ·obtain⟨bs,h1,h2⟩:=h.new q hq;exact⟨bs,k.sub _ h1,h2⟩
  ·exact k.new q hq
 ·rw [List.map_append,List.nodup_append]
  refine⟨h.nodup,k.nodup,fun x hx z hz e=> ?_⟩
  obtain⟨q,hq,rfl⟩:=List.mem_map.1 hx
  obtain⟨p,hp,rfl⟩:=List.mem_map.1 hz
  obtain⟨bs,h1,_⟩:=h.new q hq
  exact k.fresh p hp _ h1 e
 ·rcases List.mem_append.1 hq with hq | hq
  ·exact h.fresh q hq x hx
  ·exact k.fresh q hq x (h.sub x hx)
 ·rcases k.old x hx with h1 | ⟨q,h1,h2⟩
  ·rcases h.old x h1 with h1 | ⟨q,h1,h2⟩
   ·exact .inl h1
   ·exact .inr ⟨q,List.mem_append_left _ h1,h2⟩
  ·exact .inr ⟨q,List.mem_append_right _ h1,h2⟩
 ·have h1:=h.cnt
  have h2:=k.cnt
  have e:G_ y.k (ms++ns)=G_ y.k ms+G_ y.k ns:=by simp [G_]
  rw [e]
  omega
 ·have e:G_ y.k (ms++ns)=G_ y.k ms+G_ y.k ns:=by simp [G_]
  rw [e] at hlt ⊢
  have h1:=h.one q C hf hq hC (by omega)
  have h2:=k.one _ C h1 (by omega) hC (by omega)
  rw [h2]
  congr 2
  omega
theorem PutsR.single {bs:List UInt8} {a:Nat} (h:DkS y v L) (hi:SpI v.spc) (hc:v.spc.cells=(((y.k+4)*(y.S - y.F):Nat):Int)) (p:PutRel y v v' bs a) (h1:1<=bs.length) (h2:bs.length<=1024) (hw:v.ws.length+cntL v.spc.free<=900000) (hi':SpI v'.spc):PutsR y v v' L ((a,bs)::L) [(a,bs.length,v.st.txg,shaF bs)]:=by
 obtain⟨tk,hle⟩:=p.took
 obtain⟨zs,hl,hz,hws⟩:=p.sec
 have hzl:=hl.cost
 have hcb:=aT_ y.k bs.length h1 h2
 have hb0:=hi.b0
 have hwl:v'.ws.length=v.ws.length+D_ y.k bs.length:=by rw [hws,List.length_append,ez_,hzl]
 have hcf:=tk.cntF
 have hF:0<=cntL v'.spc.free:=by omega
 refine⟨h.put hi hc p h1 h2 (by omega),fun x hx=> List.mem_cons_of_mem _ hx,fun q hq=> ?_,by simp,fun q hq x hx e=> ?_,fun x hx=> ?_,by rw [p.st], ?_,by omega,tk.cells,tk.back,tk.leaving,fun q C hf hq hC hlt=> ?_⟩
 ·rw [List.mem_singleton.1 hq];exact⟨bs,by simp,rfl,rfl⟩
 ·rw [List.mem_singleton.1 hq] at e
  have e:x.1=a:=e
  have h3:=(h.dsk.std x hx).cost
  have h4:=h.used x hx (a:Int) ⟨by omega,by omega⟩
  have h5:=tk.at1 (a:Int) ⟨by omega,by omega⟩
  exact hi.fu _ ⟨h5,h4⟩
 ·rcases List.mem_cons.1 hx with rfl | hx
  ·exact .inr ⟨(a,bs.length,v.st.txg,shaF bs),by simp,rfl⟩
  ·exact .inl hx
 ·simp [G_];omega
 ·have e:G_ y.k [(a,bs.length,v.st.txg,shaF bs)]=D_ y.k bs.length:=by simp [G_]
  rw [e] at hlt ⊢
  exact p.take.head1 hf hi' hq (by omega) hlt hC
structure WrOk (L':List Blk) (n:Nat) (r r':Rf n) (ms:List Ptr4):Prop where
 dk:DskK L' n r'
 nd:NdT L' n r'.2
 pr:prs n r'.2=prs n r.2
 bk:(bkR r').Perm (bkR r++ms)
 some:r'.1.isSome=true
 len:r'.2.length=r.2.length
theorem WrOk.same {r:Rf n} (hk:DskK L n r) (hn:NdT L n r.2) (h:r.1.isSome=true):WrOk L n r r []:=⟨hk,hn,rfl,by simp,h,rfl⟩
structure WrL (L':List Blk) (n:Nat) (t t':List (Pc n)) (i:Nat) (ms:List Ptr4):Prop where
 len:t'.length=t.length
 key: ∀(j:Nat) k k',t[j]? =some k->t'[j]? =some k'->k'.1=k.1/\prs n k'.2.2=prs n k.2.2
 lo: ∀(j:Nat) k',j < i->t'[j]? =some k'->k'.2.1.isSome=true/\DskK L' n k'.2/\NdT L' n k'.2.2
 hi: ∀(j:Nat),i<=j->t'[j]? =t[j]?
 same: ∀(j:Nat) k k',t[j]? =some k->t'[j]? =some k'->k.2.1.isSome=true->k'.2.1=k.2.1
 bk:(bkP t').Perm (bkP t++ms)
theorem WrL.start (L:List Blk) (t:List (Pc n)):WrL L n t t 0 []:=⟨rfl,fun j k k' h1 h2=> by rw [h1] at h2;cases h2;exact⟨rfl,rfl⟩,fun j k' hj=> by omega,fun _ _=> rfl,fun j k k' h1 h2 _=> by rw [h1] at h2;cases h2;rfl,by simp⟩
theorem WrL.step {t t':List (Pc n)} {ms ns:List Ptr4} {k:Pc n} {r':Rf n} (h:WrL L n t t' i ms) (hk:t[i]? =some k) (hw:WrOk L' n k.2 r' ns) (hsm:k.2.1.isSome=true->r'.1=k.2.1) (hL: ∀x∈L,x∈L'):WrL L' n t (t'.set i (k.1,r')) (i+1) (ms++ns):=by
 have hi:i < t.length:=(List.getElem?_eq_some_iff.1 hk).1
 have hi':i < t'.length:=by rw [h.len];exact hi
 have hki:t'[i]? =some k:=by rw [h.hi i (Nat.le_refl _)];exact hk
 refine⟨by rw [List.length_set];exact h.len,fun j a b ha hb=> ?_,fun j b hj hb=> ?_,fun j hj=> ?_,fun j a b ha hb hs=> ?_, ?_⟩
 ·rw [List.getElem?_set] at hb
  by_cases e:i=j
  ·subst e
   rw [if_pos rfl,if_pos hi'] at hb
   rw [hk] at ha
   cases ha;cases hb
   exact⟨rfl,hw.pr⟩
  ·rw [if_neg e] at hb
   exact h.key j a b ha hb
 ·rw [List.getElem?_set] at hb
  by_cases e:i=j
  ·subst e
   rw [if_pos rfl,if_pos hi'] at hb
   cases hb
   exact⟨hw.some,hw.dk,hw.nd⟩
  ·rw [if_neg e] at hb
   obtain⟨h1,h2,h3⟩:=h.lo j b (by omega) hb
   exact⟨h1,h2.mono hL,h3.mono hL⟩
 ·rw [List.getElem?_set,if_neg (by omega)]
  exact h.hi j (by omega)
 ·rw [List.getElem?_set] at hb
  by_cases e:i=j
  ·subst e
   rw [if_pos rfl,if_pos hi'] at hb
   rw [hk] at ha
   cases ha;cases hb
   exact hsm hs
  ·rw [if_neg e] at hb
   exact h.same j a b ha hb hs
 ·have e1:=bk_at hki
  have e2:bkP (t'.set i (k.1,r'))=bkP (t'.take i)++bkR r'++bkP (t'.drop (i+1)):=by
   have h3:(t'.set i (k.1,r'))[i]? =some (k.1,r'):=by rw [List.getElem?_set,if_pos rfl,if_pos hi']
   have h4:=bk_at h3
   rw [List.take_set_of_le (Nat.le_refl _),List.drop_set_of_lt (by omega)] at h4
   exact h4
  have h5:=h.bk
  have h6:=hw.bk
  rw [e1] at h5
  rw [e2]
  rw [List.perm_iff_count] at h5 h6 ⊢
  intro a
  have:=h5 a
  have:=h6 a
  simp only [List.count_append] at*
  omega
theorem hI_ (t:List (Pc n)):prsP t=(t.map (fun k=> (k.1,prs n k.2.2))).flatMap (fun z=> z.2):=by
 rw [prsP,List.flatMap_map]
theorem spW_map (t:List (Pc n)):SpW t↔(t.map (fun k=> (k.1,prs n k.2.2))).Pairwise (fun x y:Ky×List Pr=> (∀p∈x.2,p.1 < y.1)/\(∀p∈y.2,¬p.1 < y.1)):=by
 rw [List.pairwise_map];exact Iff.rfl
theorem WrL.map {t t':List (Pc n)} (h:WrL L n t t' i ms):t'.map (fun k=> (k.1,prs n k.2.2))=t.map (fun k=> (k.1,prs n k.2.2)):=by
 apply List.ext_getElem?
 intro j
 rw [List.getElem?_map,List.getElem?_map]
 by_cases hj:j < t.length
 ·have h1:=List.getElem?_eq_getElem hj
  have h2:=List.getElem?_eq_getElem (show j < t'.length by rw [h.len];exact hj)
  obtain⟨h3,h4⟩:=h.key j _ _ h1 h2
  rw [h1,h2]
  simp only [Option.map_some,h3,h4]
 ·rw [List.getElem?_eq_none (by rw [h.len];omega:t'.length<=j),List.getElem?_eq_none (by omega:t.length<=j)]
theorem dz_:(ptrB ce_).length=50:=by
 have hlt: ∀c,128<=c->(C_ c).length=(C_ (c / 128)).length+1:=fun c hc=> by rw [as_ hc];simp
 simp only [ptrB,ce_,encL,encI,List.map_cons,List.map_nil,List.flatten_cons,List.flatten_nil,List.length_append,List.length_cons,List.length_nil,List.length_replicate]
 rw [hlt (2*40000) (by omega),hlt (2*40000 / 128) (by omega),w_ (c:=2*40000 / 128 / 128) (by omega),hlt (2*1024) (by omega),w_ (c:=2*1024 / 128) (by omega),w_ (c:=32) (by omega)]
 have e:(2*(1125899906842624:Int).toNat)=2251799813685248:=rfl
 rw [e,hlt 2251799813685248 (by omega),hlt (2251799813685248 / 128) (by omega),hlt (2251799813685248 / 128 / 128) (by omega),hlt (2251799813685248 / 128 / 128 / 128) (by omega),hlt (2251799813685248 / 128 / 128 / 128 / 128) (by omega),hlt (2251799813685248 / 128 / 128 / 128 / 128 / 128) (by omega),hlt (2251799813685248 / 128 / 128 / 128 / 128 / 128 / 128) (by omega),w_ (c:=2251799813685248 / 128 / 128 / 128 / 128 / 128 / 128 / 128) (by omega)]
 rfl
theorem kidB_le {k k':Pc n} (h:k'.2.1=k.2.1\/(k.2.1=none/\ ∀q,k'.2.1=some q->GoodPt q)):(kidB k').length<=(kidB k).length:=by
 rcases h with h | ⟨h1,h2⟩
 ·rw [kidB,kidB,h];exact Nat.le_refl _
 ·rw [kidB,kidB,h1]
  show _<=(ptrB ce_).length
  rw [dz_]
  cases hk:k'.2.1 with
  | none=> show (ptrB ce_).length<=50;rw [dz_];exact Nat.le_refl _
  | some q=> exact eS_ (h2 q hk)
def gl_ {n:Nat} (t:List (Pc n)):List Itm:=t.flatMap (fun k=> [Itm.txt k.1,Itm.txt (kidB k)])
theorem aY_ (k:Pc n) (r:List (Pc n)):gl_ (k::r)=Itm.txt k.1::Itm.txt (kidB k)::gl_ r:=rfl
theorem hR_: ∀(t t':List (Pc n)),t'.length=t.length->(∀k∈t,k.1.length<=24/\(kidB k).length<=50)->(∀(j:Nat) k k',t[j]? =some k->t'[j]? =some k'->k'.1=k.1/\(kidB k').length<=(kidB k).length)->(encL (gl_ t')).length<=(encL (gl_ t)).length
 | [],[],_,_,_=> Nat.le_refl _
 | [],_::_,h,_,_=> by simp at h
 | _::_,[],h,_,_=> by simp at h
 | k::r,k'::r',h,hg,hk=> by
  have ih:=hR_ r r' (by simpa using h) (fun x hx=> hg x (List.mem_cons_of_mem _ hx)) (fun j a b ha hb=> hk (j+1) a b (by simpa using ha) (by simpa using hb))
  obtain⟨h1,h2⟩:=hk 0 k k' rfl rfl
  obtain⟨g1,g2⟩:=hg k (by simp)
  rw [aY_,aY_,s_,s_,s_,s_,h1]
  simp only [List.length_append]
  rw [aS_ (kidB k) (by omega),aS_ (kidB k') (by omega)]
  omega
theorem sz_le {t t':List (Pc n)} (hl:t'.length=t.length) (hg: ∀k∈t,k.1.length<=24/\(kidB k).length<=50) (hk: ∀(j:Nat) k k',t[j]? =some k->t'[j]? =some k'->k'.1=k.1/\(kidB k').length<=(kidB k).length):szF (n+1) t'<=szF (n+1) t:=by
 show (encL (.num 2::(gl_ t').drop 1)).length<=(encL (.num 2::(gl_ t).drop 1)).length
 rw [s_,s_,List.length_append,List.length_append]
 refine Nat.add_le_add_left ?_ _
 cases t with
 | nil=> cases t' with
  | nil=> exact Nat.le_refl _
  | cons a r=> simp at hl
 | cons k r=> cases t' with
  | nil=> simp at hl
  | cons k' r'=>
   have ih:=hR_ r r' (by simpa using hl) (fun x hx=> hg x (List.mem_cons_of_mem _ hx)) (fun j a b ha hb=> hk (j+1) a b (by simpa using ha) (by simpa using hb))
   obtain⟨h1,h2⟩:=hk 0 k k' rfl rfl
   obtain⟨g1,g2⟩:=hg k (by simp)
   rw [aY_,aY_,List.drop_succ_cons,List.drop_zero,List.drop_succ_cons,List.drop_zero,s_,s_]
   simp only [List.length_append]
   rw [aS_ (kidB k) (by omega),aS_ (kidB k') (by omega)]
   omega
structure WrNode (L:List Blk) (n:Nat) (t t':List (Pc n)):Prop where
 nd:NdT L (n+1) t'
 all:allW (n+1) t'
 pr:prsP t'=prsP t
 szl:szF (n+1) t'<=szF (n+1) t
theorem WrL.node {L0 L:List Blk} {t t':List (Pc n)} (h:WrL L n t t' i ms) (hi:t.length<=i) (hn:NdT L0 (n+1) t):WrNode L n t t':=by
 have hall: ∀k'∈t',k'.2.1.isSome=true/\DskK L n k'.2/\NdT L n k'.2.2:=fun k' hk'=> by
  obtain⟨j,hj⟩:=List.getElem?_of_mem hk'
  have hl:=(List.getElem?_eq_some_iff.1 hj).1
  rw [h.len] at hl
  exact h.lo j k' (by omega) hj
 have hkey: ∀k'∈t',k'.1.length<=24:=fun k' hk'=> by
  obtain⟨j,hj⟩:=List.getElem?_of_mem hk'
  have hl:=(List.getElem?_eq_some_iff.1 hj).1
  rw [h.len] at hl
  have h1:=List.getElem?_eq_getElem hl
  rw [(h.key j _ _ h1 hj).1]
  exact(hn.kid (t:=t) (List.getElem_mem hl)).key
 have hmap:=h.map
 have hsz:szF (n+1) t'<=szF (n+1) t:=by
  refine sz_le h.len (fun k hk=> ⟨(hn.kid (t:=t) hk).key,de_ (fun q hq=> ((hn.kid (t:=t) hk).dk q hq).2.2.1)⟩) (fun j k k' hk hk'=> ⟨(h.key j k k' hk hk').1,kidB_le ?_⟩)
  cases hkk:k.2.1 with
  | none=> exact .inr ⟨rfl,fun q hq=> ((hall k' (List.mem_of_getElem? hk')).2.1 q hq).2.2.1⟩
  | some q=>
   left
   have hkq:=h.same j k k' hk hk' (by rw [hkk];rfl)
   rw [hkq,hkk]
 refine⟨⟨?_,Nat.le_trans hsz hn.sz, ?_,fun k hk=> ⟨hkey k hk,(hall k hk).2.1,(hall k hk).2.2⟩⟩, ?_, ?_,hsz⟩
 ·intro e
  have h1:=h.len
  have e:t'= []:=e
  rw [e] at h1
  exact hn.nil (List.eq_nil_of_length_eq_zero h1.symm)
 ·have h1:SpW t:=hn.nb.sp
  show SpW t'
  rw [spW_map] at h1 ⊢
  rw [hmap];exact h1
 ·exact fun k hk e=> by have h1:=(hall k hk).1;rw [e] at h1;cases h1
 ·rw [hI_,hI_,hmap]
theorem ck_: ∀(m:Nat) (l:List (Pc n)),l.length<=m->(o_ n l).1.length<=l.length
 | _,[],_=> by rw [do_];exact Nat.le_refl _
 | _,[x],_=> by rw [bH_];exact Nat.le_refl _
 | 0,_::_::_,h=> by simp at h
 | m+1,x::y::r,h=> by
  have hr:r.length+1<=m:=by simp only [List.length_cons] at h;omega
  have ih:=ck_ m (y::r) (by simpa using hr)
  by_cases h1:x.2.1.isSome=true/\y.2.1.isSome=true
  ·rw [bO_ r h1.1 h1.2];simp only [List.length_cons] at ih ⊢;omega
  by_cases h2:szF n (t_ n x.2.2 y.1 y.2.2)<=1024
  ·rw [aW_ r h1 h2]
   have ih2:=ck_ m ((x.1,none,t_ n x.2.2 y.1 y.2.2)::r) (by simpa using hr)
   simp only [List.length_cons] at ih2 ⊢;omega
  ·rw [bm_ r h2];simp only [List.length_cons] at ih ⊢;omega
def wP (t:List Pr):Nat:=(encL (t.flatMap (fun p=> [Itm.txt p.1,Itm.txt p.2]))).length
theorem cj_ (a b:List Pr):wP (a++b)=wP a+wP b:=by
 rw [wP,List.flatMap_append,bB_,List.length_append];rfl
theorem wP_nil:wP []=0:=rfl
theorem sz0 (t:List Pr):szF 0 t=2+wP t:=by
 have e:szF 0 t=(encL (V_ t)).length:=rfl
 have h3:(encI (.num 1)).length=2:=by simp [encI,w_]
 rw [e,V_,s_,List.length_append,h3];rfl
theorem sz0' (t:List (El 0)):szF 0 t=2+wP (prs 0 t):=sz0 t
def wX (x:Pc 0):Nat:=wP (prs 0 x.2.2)
def wL (l:List (Pc 0)):Nat:=wP (prsP l)
theorem wL_cons (x:Pc 0) (l:List (Pc 0)):wL (x::l)=wX x+wL l:=by rw [wL,A_,cj_];rfl
theorem wX_join (k:Ky) (x y:Pc 0):wX (k,none,t_ 0 x.2.2 y.1 y.2.2)=wX x+wX y:=by
 show wP (prs 0 (t_ 0 x.2.2 y.1 y.2.2))=_
 rw [cu_,cj_];rfl
theorem sz_join (x y:Pc 0):szF 0 (t_ 0 x.2.2 y.1 y.2.2)=2+wX x+wX y:=by
 rw [sz0',cu_,cj_,Nat.add_assoc];rfl
theorem eE_: ∀(s:List (Pc 0)) (x:Pc 0) (B:List (Pc 0)),(∀y∈s,y.2.1=none)->(o_ 0 (x::(s++B))).1.length<=1+(wX x+2*wL s) / 1023+B.length
 | [],x,B,_=> by
  have:=ck_ _ (x::B) (Nat.le_refl _)
  simp only [List.nil_append,List.length_cons] at this ⊢
  omega
 | y::s,x,B,h=> by
  have hy:y.2.1=none:=h y (by simp)
  have hs: ∀z∈s,z.2.1=none:=fun z hz=> h z (List.mem_cons_of_mem _ hz)
  have hnb: ¬(x.2.1.isSome=true/\y.2.1.isSome=true):=fun hh=> by rw [hy] at hh;exact absurd hh.2 (by simp)
  rw [List.cons_append,wL_cons]
  by_cases hj:szF 0 (t_ 0 x.2.2 y.1 y.2.2)<=1024
  ·rw [aW_ _ hnb hj]
   have ih:=eE_ s (x.1,none,t_ 0 x.2.2 y.1 y.2.2) B hs
   rw [wX_join] at ih
   simp only at ih ⊢
   omega
  ·rw [bm_ _ hj]
   have ih:=eE_ s y B hs
   rw [sz_join] at hj
   simp only [List.length_cons] at ih ⊢
   omega
theorem eF_: ∀(m:Nat) (A s B:List (Pc 0)),A.length<=m->s≠ []->(∀y∈s,y.2.1=none)->(∀x∈A,wX x<=1022)->wL s<=1534->(o_ 0 (A++s++B)).1.length<=A.length+3+B.length
 | _,[],s,B,_,h0,hs,_,hw=> by
  cases s with
  | nil=> exact absurd rfl h0
  | cons y s=>
   have h1:=eE_ s y B (fun z hz=> hs z (List.mem_cons_of_mem _ hz))
   rw [wL_cons] at hw
   simp only [List.nil_append,List.cons_append,List.length_nil] at h1 ⊢
   omega
 | _,[x],s,B,_,_,hs,hA,hw=> by
  have h1:=eE_ s x B hs
  have h2:=hA x (by simp)
  simp only [List.cons_append,List.nil_append,List.length_cons,List.length_nil] at h1 ⊢
  omega
 | 0,_::_::_,_,_,hm,_,_,_,_=> by simp at hm
 | m+1,x::x'::A,s,B,hm,h0,hs,hA,hw=> by
  have hm':A.length+1<=m:=by simp only [List.length_cons] at hm;omega
  have ih:=eF_ m (x'::A) s B (by simpa using hm') h0 hs (fun z hz=> hA z (List.mem_cons_of_mem _ hz)) hw
  simp only [List.cons_append] at ih ⊢
  by_cases h1:x.2.1.isSome=true/\x'.2.1.isSome=true
  ·rw [bO_ _ h1.1 h1.2];simp only [List.length_cons] at ih ⊢;omega
  by_cases h2:szF 0 (t_ 0 x.2.2 x'.1 x'.2.2)<=1024
  ·rw [aW_ _ h1 h2]
   have ih2:=eF_ m ((x.1,none,t_ 0 x.2.2 x'.1 x'.2.2)::A) s B (by simpa using hm') h0 hs (fun z hz=> by
    rcases List.mem_cons.1 hz with rfl | hz
    ·rw [wX_join];rw [sz_join] at h2;omega
    ·exact hA z (List.mem_cons_of_mem _ (List.mem_cons_of_mem _ hz))) hw
   simp only [List.cons_append,List.length_cons] at ih2 ⊢
   omega
  ·rw [bm_ _ h2];simp only [List.length_cons] at ih ⊢;omega
theorem et_ (c:Nat):1<=(C_ c).length:=by
 rw [C_];split <;> simp
theorem bC_ (z:Nat):2<=(encI (.num z)).length:=by
 have:=et_ (2*z)
 simp only [encI,List.length_cons]
 omega
theorem ptrB_ge (h:GoodPt q):40<=(ptrB q).length:=by
 have h1:=bC_ q.1
 have h2:=bC_ q.2.1
 have h3:=bC_ q.2.2.1.toNat
 have h4:=aS_ q.2.2.2 (by rw [h.sum];decide)
 have h5:=h.sum
 rw [ptrB,s_,s_,s_,s_]
 simp only [List.length_append]
 omega
theorem kidB_ge {k:Pc n} (h: ∀q,k.2.1=some q->GoodPt q):40<=(kidB k).length:=by
 rw [kidB]
 cases hk:k.2.1 with
 | none=> show 40<=(ptrB ce_).length;rw [dz_];decide
 | some q=> exact ptrB_ge (h q hk)
theorem cg_ (s:Ky):s.length+2<=(encI (.txt s)).length:=by
 have:=et_ s.length
 simp only [encI,List.length_cons,List.length_append]
 omega
theorem flatK_ge (t:List (Pc n)) (h: ∀k∈t,∀q,k.2.1=some q->GoodPt q):44*t.length<=(encL (gl_ t)).length:=by
 induction t with
 | nil=> simp
 | cons k r ih=>
  have ih:=ih (fun x hx=> h x (List.mem_cons_of_mem _ hx))
  have h1:=kidB_ge (h k (by simp))
  have h2:=cg_ k.1
  have h3:=cg_ (kidB k)
  rw [aY_,s_,s_]
  simp only [List.length_append,List.length_cons]
  omega
theorem sz_many {t:List (Pc n)} (h:PcsOk L n t):44*t.length<=szF (n+1) t:=by
 show _<=(encL (.num 2::(gl_ t).drop 1)).length
 cases t with
 | nil=> simp
 | cons k r=>
  have hg: ∀k'∈k::r,∀q,k'.2.1=some q->GoodPt q:=fun k' hk' q hq=> ((h.all k' hk').dk q hq).2.2.1
  have ih:=flatK_ge r (fun x hx=> hg x (List.mem_cons_of_mem _ hx))
  have h1:=kidB_ge (hg k (by simp))
  have h2:=cg_ (kidB k)
  have h3:=bC_ 2
  rw [aY_,List.drop_succ_cons,List.drop_zero,s_,s_]
  simp only [List.length_append,List.length_cons]
  omega
theorem NdT.few {t:List (Pc n)} (h:NdT L (n+1) t):t.length<=23:=by
 have h1:PcsOk L n t:=h.nb
 have h2:=sz_many h1
 have h3:szF (n+1) t<=1024:=h.sz
 omega
def pcI {n:Nat} (k:Ky) (t:List (Pc n)):Pc (n+1):=(k,none,t)
theorem eW_ {t:List (Pc n)} (key:Ky) (h:PcsOk L n t) (hl:t.length<=26):
  (t= []/\j_ (n+1) t key=([]:List (Pc (n+1))))\/(t≠ []/\j_ (n+1) t key= [pcI key t])\/(14<=t.length/\ ∃(a b:List (Pc n)) (k2:Ky),j_ (n+1) t key= [pcI key a,pcI k2 b]/\a.length+b.length=t.length/\1<=a.length/\1<=b.length):=by
 by_cases h0:t= []
 ·subst h0
  exact .inl ⟨rfl,X_ (n+1) key⟩
 by_cases hs:szF (n+1) t<=1024
 ·exact .inr (.inl ⟨h0,M_ (n:=n+1) (t:=t) key h0 hs⟩)
 ·have h2:14<=t.length:=by have:=ht_ h;omega
  have e:=dy_ (t:=t) key (by omega) hs
  obtain⟨A,hA⟩: ∃A:List (Pc n),A=t.take (t.length / 2):=⟨_,rfl⟩
  obtain⟨B,hB⟩: ∃B:List (Pc n),B=t.drop (t.length / 2):=⟨_,rfl⟩
  rw [<-hA,<-hB] at e
  have ha:PcsOk L n A:=by rw [hA];exact h.sub (List.take_sublist _ _)
  have hb:PcsOk L n B:=by rw [hB];exact h.sub (List.drop_sublist _ _)
  have la:A.length=t.length / 2:=by rw [hA,List.length_take];omega
  have lb:B.length=t.length - t.length / 2:=by rw [hB,List.length_drop]
  have sa:=ht_ ha
  have sb:=ht_ hb
  have sa':szF (n+1) A<=1024:=by omega
  have sb':szF (n+1) B<=1024:=by omega
  have na:A≠ []:=fun e=> by rw [e,List.length_nil] at la;omega
  have nb:B≠ []:=fun e=> by rw [e,List.length_nil] at lb;omega
  have fa:=M_ (n:=n+1) (t:=A) key na sa'
  have fb:=M_ (n:=n+1) (t:=B) (y_ t (t.length / 2)) nb sb'
  exact .inr (.inr ⟨h2,A,B,_,by rw [e];exact congr (congrArg (fun x y:List (Pc (n+1))=> x++y) fa) fb,by omega,by omega,by omega⟩)
theorem hV_ (s:Ky) (h:s.length<=300):(encI (.txt s)).length<=s.length+3:=by
 have h1:=(x_ 1 s.length (by omega)).2
 simp only [encI,List.length_cons,List.length_append]
 omega
theorem wP_le: ∀(l:List Pr),(∀p∈l,bj_ p)->wP l<=329*l.length
 | [],_=> by simp [wP_nil]
 | p::l,h=> by
  have ih:=wP_le l (fun x hx=> h x (List.mem_cons_of_mem _ hx))
  obtain⟨h1,h2,h3⟩:=h p (by simp)
  have h4:=aS_ p.1 (by omega)
  have h5:=hV_ p.2 h3
  have e:wP (p::l)=wP [p]+wP l:=cj_ [p] l
  have e2:wP [p]=(encI (.txt p.1)).length+(encI (.txt p.2)).length:=by
   rw [wP,List.flatMap_cons,List.flatMap_nil,List.append_nil,s_,s_]
   simp [encL]
  rw [e,e2,List.length_cons]
  omega
theorem fi_ (o:Option Ptr4) (t:List (Pc n)) (ih: ∀k:Pc n,(ah_ n k.2).1<=n):(ah_ (n+1) (o,t)).1<=n+1:=by
 cases o with
 | some q=> rw [ac_ (some q) t (.inl rfl)];exact Nat.le_refl _
 | none=>
  match t with
  | []=> rw [ac_ none [] (.inr (.inr rfl))];exact Nat.le_refl _
  | [k]=> exact Nat.le_succ_of_le (ih k)
  | x::y::r=> rw [ac_ none (x::y::r) (.inr (.inl (by simp)))];exact Nat.le_refl _
theorem hZ_: ∀(n:Nat) (r:Rf n),(ah_ n r).1<=n
 | 0,_=> Nat.le_refl _
 | n+1,r=> fi_ r.1 r.2 (fun k=> hZ_ n k.2)
def HtOk (m:Nat):Root->Prop
 | none=> True
 | some ⟨n,x⟩=> ∃H,n<=H/\(1<=H->12*H+2<=2*m+7)/\(n=H->1<=H->12*H+x.2.length<=2*m+7)
theorem HtOk.mono {m m':Nat} (h:HtOk m r) (hm:m<=m'):HtOk m' r:=by
 cases r with
 | none=> trivial
 | some x=>
  obtain⟨n,x⟩:=x
  obtain⟨H,h1,h2,h3⟩:=h
  exact⟨H,h1,fun h=> by have:=h2 h;omega,fun e h=> by have:=h3 e h;omega⟩
theorem go_ (o:Option Ptr4) (t:List (Pc n)) {m H:Nat} (hn:n+1<=H) (h1:1<=H->12*H+2<=2*m+7) (h2:n+1=H->1<=H->12*H+t.length<=2*m+7):HtOk m (some (ah_ (n+1) (o,t))):=by
 have same:ah_ (n+1) (o,t)=⟨n+1,(o,t)⟩->HtOk m (some (ah_ (n+1) (o,t))):=fun e=> by
  rw [e];exact⟨H,hn,h1,h2⟩
 cases o with
 | some q=> exact same (ac_ _ _ (.inl rfl))
 | none=>
  match t,same with
  | [],same=> exact same (ac_ _ _ (.inr (.inr rfl)))
  | x::y::r,same=> exact same (ac_ _ _ (.inr (.inl (by simp))))
  | [k],_=>
   have h3:=hZ_ n k.2
   show HtOk m (some (ah_ n k.2))
   revert h3
   generalize ah_ n k.2=z
   intro h3
   obtain⟨n',x'⟩:=z
   have h3:n'<=n:=h3
   exact⟨H,by omega,h1,fun e=> by omega⟩
theorem ch_:{n:Nat}->(r:Rf n)->{m H:Nat}->(hn:n<=H)->(h1:1<=H->12*H+2<=2*m+7)->(h2:n=H->1<=H->12*H+r.2.length<=2*m+7)->HtOk m (some (ah_ n r))
 | 0,_,_,H,hn,h1,h2=> ⟨H,hn,h1,h2⟩
 | _+1,r,_,_,hn,h1,h2=> go_ r.1 r.2 hn h1 h2
theorem bR_: ∀(m:Nat) (t:List (El n)) (key:Ky),t.length<=m-> ∀x∈j_ n t key,x.2.1=none
 | m,t,key,hm,x,hx=> by
  by_cases h0:t= []
  ·subst h0;rw [X_] at hx;cases hx
  by_cases hs:szF n t<=1024
  ·rw [M_ key h0 hs] at hx
   rw [List.mem_singleton.1 hx]
  by_cases h2:2<=t.length
  ·obtain⟨c1,c2⟩:=cz_ n t.length h2
   rw [by_ key h2 hs] at hx
   match m,hm with
   | 0,hm=> omega
   | m+1,hm=>
   rcases List.mem_append.1 hx with hx | hx
   ·exact bR_ m _ _ (by rw [List.length_take];omega) x hx
   ·exact bR_ m _ _ (by rw [List.length_drop];omega) x hx
  ·have h1:=List.length_pos_iff.2 h0
   rw [j_,if_neg (by omega),if_neg hs,dif_pos (by omega)] at hx
   cases hx
def WOk (f:List Pr->Except Int (List Pr)):Prop:= ∀t l,wP t<=1022->f t= .ok l->wP l<=1351
def EdC (L:List Blk):(n:Nat)->Rf n->List (Pc n)->Prop
 | 0,_,l=> ∃t':List Pr,l=j_ 0 t' []/\wP t'<=1351
 | n+1,r,l=> ∃T:List (Pc n),l=j_ (n+1) T []/\PcsOk L n T/\T.length<=List.length (α:=Pc n) r.2+2
theorem fy_ {k:Ky} {l:List (Pc n)} (h: ∀x∈l,x.2.1=none): ∀x∈k_ k l,x.2.1=none:=by
 cases l with
 | nil=> exact h
 | cons a r=>
  intro x hx
  rcases List.mem_cons.1 hx with rfl | hx
  ·exact h a (by simp)
  ·exact h x (List.mem_cons_of_mem _ hx)
theorem tid_lvl0 {t sub:List (Pc 0)} (ht:PcsOk L 0 t) (hi:i < t.length) (hn: ∀x∈sub,x.2.1=none) (hw:wL sub<=1351):(o_ 0 (allF t i sub)).1.length<=t.length+2:=by
 by_cases h0:sub= []
 ·subst h0
  have h1:=ck_ _ (allF t i []) (Nat.le_refl _)
  have h2:=fo_ t i [] hi
  simp only [List.length_nil] at h2
  omega
 ·have h3:PcsOk L 0 (k_ [] t):=ht.withKey (k:= []) (by simp)
  have h1:=eF_ _ ((k_ [] t).take i) (k_ (y_ (k_ [] t) i) sub) (t.drop (i+1)) (Nat.le_refl _) (fun e=> h0 (by cases sub with
   | nil=> rfl
   | cons a r=> cases e)) (fy_ hn) (fun x hx=> by
    have h4:=(h3.all x (List.mem_of_mem_take hx)).nd.sz
    rw [sz0'] at h4
    show wP (prs 0 x.2.2)<=_
    omega) (by rw [wL,aq_];exact Nat.le_trans hw (by decide))
  rw [List.length_take,List.length_drop,S_] at h1
  rw [allF]
  omega
theorem fc_ (hf:EdF key f) (hw:WOk f) (o:Option Ptr4) (t:List (Pc n)) (h:NdT L (n+1) t) (ih: ∀k:Pc n,NdT L n k.2.2-> ∀l',f (prs n k.2.2)= .ok l'-> ∀sub g,az_ n k.2 key f= .ok (sub,g)->EdC L n k.2 sub) (l':List Pr) (hl:f (prsP t)= .ok l') (sub:List (Pc (n+1))) (g:List Ptr4) (he:az_ (n+1) (o,t) key f= .ok (sub,g)):EdC L (n+1) (o,t) sub:=by
 have hko:=h.kidOk (t:=t) key
 obtain⟨i,hi⟩: ∃i,i=kidF t key:=⟨_,rfl⟩
 rw [<-hi] at hko
 have hnb:PcsOk L n t:=h.nb
 obtain⟨k,hk⟩: ∃k:Pc n,t[i]? =some k:=⟨_,List.getElem?_eq_getElem hko.lt⟩
 have hpk:=hnb.all k (List.mem_of_getElem? hk)
 have hpr:prsP t=prsP (t.take i)++prs n k.2.2++prsP (t.drop (i+1)):=prs_at hk
 have hloc:=hf.loc _ (prs n k.2.2) _ hko.A hko.B
 rw [<-hpr] at hloc
 have hes:=cM_ (o,t) key f (k:=k) (by show t[kidF t key]? =some k;rw [<-hi];exact hk)
 have hes:az_ (n+1) (o,t) key f=(match az_ n k.2 key f with | .error e=> .error e | .ok (sub,g)=> .ok (j_ (n+1) (o_ n (allF t (kidF t key) sub)).1 [],o.toList++g++(o_ n (allF t (kidF t key) sub)).2)):=hes
 rw [<-hi] at hes
 rw [hloc] at hl
 cases hfk:f (prs n k.2.2) with
 | error e2=> rw [hfk] at hl;cases hl
 | ok l2=>
  obtain⟨sub1,g1,hed,hok⟩:=(cL_ hf n k.2 hpk.nd).2 l2 hfk
  have hcnt:=ih k hpk.nd l2 hfk sub1 g1 hed
  rw [hes,hed] at he
  injection he with he
  have he:=(Prod.mk.inj he).1
  obtain⟨⟨ha1, -, -⟩, -⟩:=fd_ hf h hko hk hfk hok
  have htd:=bx_ _ _ (Nat.le_refl _) ha1
  refine⟨(o_ n (allF t i sub1)).1,he.symm,htd.ok, ?_⟩
  show _<=t.length+2
  clear hes hed he hloc hl hpr htd ha1
  cases n with
  | zero=>
   obtain⟨t',hs,hw'⟩:=hcnt
   have hpn:prsP sub1=l2:=hok.pr
   have h5:wP (prs 0 k.2.2)<=1022:=by
    have h4:szF 0 k.2.2<=1024:=hpk.nd.sz
    rw [sz0'] at h4
    omega
   exact tid_lvl0 hnb hko.lt (by rw [hs];exact bR_ _ _ _ (Nat.le_refl _)) (by rw [wL,hpn];exact hw _ _ h5 hfk)
  | succ n=>
   obtain⟨T',hs,hok',hle⟩:=hcnt
   have h6:List.length (α:=Pc n) k.2.2<=23:=NdT.few (t:=k.2.2) hpk.nd
   have h7:sub1.length<=2:=by
    rcases eW_ [] hok' (by omega) with ⟨_,e⟩ | ⟨_,e⟩ | ⟨_,a,b,k2,e,_⟩ <;> (rw [hs,e];simp)
   have h1:=ck_ _ (allF t i sub1) (Nat.le_refl _)
   have h2:=fo_ t i sub1 hko.lt
   omega
theorem hW_ (hf:EdF key f) (hw:WOk f): ∀(n:Nat) (r:Rf n),NdT L n r.2-> ∀l',f (prs n r.2)= .ok l'-> ∀sub g,az_ n r key f= .ok (sub,g)->EdC L n r sub
 | 0,r,h,l',hl,sub,g,he=> by
  have hl:f r.2= .ok l':=hl
  rw [bt_,hl] at he
  injection he with he
  have he:=(Prod.mk.inj he).1
  have h1:szF 0 r.2<=1024:=h.sz
  rw [sz0'] at h1
  exact⟨l',he.symm,hw r.2 l' (by show wP (prs 0 r.2)<=_;omega) hl⟩
 | n+1,r,h,l',hl,sub,g,he=> fc_ hf hw r.1 r.2 h (fun k hk=> hW_ hf hw n k.2 hk) l' hl sub g he
theorem hP_ (l:List (Pc 0)) (hn: ∀x∈l,x.2.1=none) (hw:wL l<=1351) (hok:PcsOk L 0 l) (fuel:Nat) (hfu:l.length<=fuel) {m H:Nat} (h1:1<=H->12*H+2<=2*m+7) (h2:2<=l.length->4<=m):HtOk m (Q_ fuel 0 l).1:=by
 have hd: ∀l':List (Pc 0),l'.length<=1->HtOk m (gV_ l'):=fun l' hl=> by
  match l',hl with
  | [],_=> trivial
  | [y],_=> exact ch_ (n:=0) y.2 (H:=H) (Nat.zero_le _) h1 (fun e h=> by omega)
 by_cases hl:l.length<=1
 ·rw [bd_ fuel l hl]
  exact hd l hl
 match fuel,hfu with
 | 0,hfu=> omega
 | fuel+1,hfu=>
 have ht:=bx_ l.length l (Nat.le_refl _) hok
 by_cases hl2:(o_ 0 l).1.length<=1
 ·rw [bV_ fuel l hl hl2]
  exact hd _ hl2
 ·rw [bW_ fuel l hl hl2]
  have h3:=eF_ 0 [] l [] (Nat.le_refl _) (fun e=> by rw [e] at hl;simp at hl) hn (fun x hx=> by cases hx) (by omega)
  simp only [List.nil_append,List.append_nil,List.length_nil] at h3
  obtain⟨T,hT⟩: ∃T,T=(o_ 0 l).1:=⟨_,rfl⟩
  have hto:=ht.ok
  rw [<-hT] at h3 hl2 hto
  rw [<-hT]
  rcases eW_ [] hto (by omega) with ⟨e,_⟩ | ⟨_,e⟩ | ⟨h4,_⟩
  ·rw [e] at hl2;simp at hl2
  ·rw [show j_ (0+1) T []= [pcI [] T] from e]
   rw [bd_ fuel [pcI [] T] (by simp)]
   have h4:=h2 (by omega)
   show HtOk m (some (ah_ 1 (none,T)))
   rcases Nat.eq_zero_or_pos H with hH | hH
   ·exact ch_ (n:=1) (none,T) (H:=1) (Nat.le_refl _) (fun _=> by omega) (fun _ _=> by show 12*1+T.length<=_;omega)
   ·have h5:=h1 hH
    exact ch_ (n:=1) (none,T) (H:=H) hH h1 (fun e _=> by subst e;show 12*1+T.length<=_;omega)
  ·omega
theorem do_ht (hf:EdF key f) (hw:WOk f) (r:Root) (h:RtOk L r) {m:Nat} (hm:HtOk m r) (hp:(i_ r).length<=m) {l':List Pr} (hl:f (i_ r)= .ok l') {r':Root} {g:List Ptr4} (hd:doF r key f= .ok (r',g)):HtOk (m+1) r':=by
 cases r with
 | none=>
  have hl:f []= .ok l':=hl
  obtain⟨h1,h2, -,h4⟩:=hf.ok [] l' List.Pairwise.nil (fun p hp=> by cases hp) hl
  simp only [List.length_nil] at h4
  have hp:=av_ (L:=L) (n:=0) l'.length l' [] (Nat.le_refl _) ⟨h1,h2⟩ (by show l'.length<=900;omega) (by simp)
  have hwp:=hw [] l' (by simp [wP_nil]) hl
  rw [doF] at hd
  simp only [hl] at hd
  injection hd with hd
  have hd:=congrArg Prod.fst hd
  subst hd
  refine hP_ (H:=0) _ hp.new (by rw [wL,hp.pr];exact hwp) hp.ok _ (Nat.le_refl _) (fun h=> by omega) (fun h2l=> ?_)
  exfalso
  have hwl:=wP_le l' h2
  by_cases h0:l'= []
  ·have e:j_ 0 l' []= []:=by rw [h0];exact X_ 0 []
   rw [e] at h2l;simp at h2l
  ·have e:=M_ (n:=0) (t:=l') [] h0 (by rw [sz0];omega)
   rw [e] at h2l;simp at h2l
 | some x=>
  obtain⟨n,x⟩:=x
  have hl:f (prs n x.2)= .ok l':=hl
  obtain⟨sub,g1,hs,hok⟩:=(cL_ hf n x h.2).2 l' hl
  have hcnt:=hW_ hf hw n x h.2 l' hl sub g1 hs
  rw [doF] at hd
  simp only [hs] at hd
  injection hd with hd
  have hd:=(Prod.mk.inj hd).1
  subst hd
  obtain⟨H,hH1,hH2,hH3⟩:=hm
  have hH2':1<=H->12*H+2<=2*(m+1)+7:=fun h=> by have:=hH2 h;omega
  cases n with
  | zero=>
   have hsub:sub=j_ 0 l' []:=by
    have e:=hs
    rw [bt_,show f x.2= .ok l' from hl] at e
    injection e with e
    exact(Prod.mk.inj e).1.symm
   have hnew: ∀x∈sub,x.2.1=none:=by rw [hsub];exact bR_ _ _ _ (Nat.le_refl _)
   have h1:szF 0 x.2<=1024:=h.2.sz
   rw [sz0'] at h1
   have hsr:=h.2.srt
   obtain⟨-,h2, -,h4⟩:=hf.ok _ l' hsr.1 hsr.2 hl
   have hp':(prs 0 x.2).length<=m:=hp
   refine hP_ sub hnew (by rw [wL,hok.pr];exact hw _ _ (by omega) hl) hok.ok _ (Nat.le_refl _) hH2' (fun h2l=> ?_)
   by_cases h0:l'= []
   ·have e:j_ 0 l' []= []:=by rw [h0];exact X_ 0 []
    rw [hsub,e] at h2l;simp at h2l
   ·by_cases hz:szF 0 l'<=1024
    ·have e:=M_ (n:=0) (t:=l') [] h0 hz
     rw [hsub,e] at h2l;simp at h2l
    ·have hwl:=wP_le l' h2
     rw [sz0] at hz
     omega
  | succ n=>
   obtain⟨T,hsub,hTok,hTl⟩:=hcnt
   have hc:List.length (α:=Pc n) x.2<=23:=h.2.few (t:=x.2)
   have hx2:List.length (α:=El (n+1)) x.2=List.length (α:=Pc n) x.2:=rfl
   rcases eW_ [] hTok (by omega) with ⟨_,e⟩ | ⟨_,e⟩ | ⟨h14,a,b,k2,e,hab,ha1,hb1⟩
   ·rw [hsub,e]
    trivial
   ·rw [hsub,e,bd_ _ [pcI [] T] (by simp)]
    show HtOk (m+1) (some (ah_ (n+1) (none,T)))
    exact ch_ (n:=n+1) (none,T) hH1 hH2' (fun e h=> by
     have h3:=hH3 e h
     show 12*H+T.length<=_
     omega)
   ·have hsp:PcsOk L (n+1) sub:=hok.ok
    have e':sub= [pcI [] a,pcI k2 b]:=by rw [hsub,e]
    subst e'
    have hno: ¬([pcI [] a,pcI k2 b].length<=1):=by simp
    have hnb: ¬((pcI [] a).2.1.isSome=true/\(pcI k2 b).2.1.isSome=true):=by simp [pcI]
    by_cases hj:szF (n+1) (t_ (n+1) a k2 b)<=1024
    ·have et:o_ (n+1) [pcI [] a,pcI k2 b]=([((([]:Ky),none,t_ (n+1) a k2 b):Pc (n+1))],[]):=by
      have e1:=aW_ (x:=pcI [] a) (y:=pcI k2 b) [] hnb hj
      rw [bH_] at e1
      exact e1
     rw [show [pcI [] a,pcI k2 b].length=1+1 from rfl,bV_ 1 _ hno (by rw [et];simp),et]
     show HtOk (m+1) (some (ah_ (n+1) (none,t_ (n+1) a k2 b)))
     exact ch_ (n:=n+1) (none,t_ (n+1) a k2 b) hH1 hH2' (fun e h=> by
      have h3:=hH3 e h
      have h4:=congrArg (List.length (α:=Pc n)) (er_ a b k2)
      rw [List.length_append,S_] at h4
      show 12*H+List.length (α:=Pc n) (t_ (n+1) a k2 b)<=_
      omega)
    ·have et:o_ (n+1) [pcI [] a,pcI k2 b]=([pcI [] a,pcI k2 b],[]):=by
      have e1:=bm_ (x:=pcI [] a) (y:=pcI k2 b) [] hj
      rw [bH_] at e1
      exact e1
     rw [show [pcI [] a,pcI k2 b].length=1+1 from rfl,bW_ 1 _ hno (by rw [et];simp),et]
     rcases eW_ [] hsp (by simp) with ⟨e3,_⟩ | ⟨_,e3⟩ | ⟨h4,_⟩
     ·cases e3
     ·show HtOk (m+1) (Q_ 1 (n+1+1) (j_ (n+1+1) [pcI [] a,pcI k2 b] [])).1
      rw [show j_ (n+1+1) [pcI [] a,pcI k2 b] []= [pcI [] [pcI [] a,pcI k2 b]] from e3,bd_ 1 [pcI [] [pcI [] a,pcI k2 b]] (by simp)]
      show HtOk (m+1) (some (ah_ (n+2) (none,[pcI [] a,pcI k2 b])))
      rcases Nat.lt_or_ge (n+1) H with hlt | hge
      ·exact ch_ (n:=n+2) (none,[pcI [] a,pcI k2 b]) (H:=H) hlt hH2' (fun _ h=> by
        have:=hH2 h
        show 12*H+2<=_
        omega)
      ·have hHe:n+1=H:=by omega
       have h3:=hH3 hHe (by omega)
       refine ch_ (n:=n+2) (none,[pcI [] a,pcI k2 b]) (H:=n+2) (Nat.le_refl _) (fun _=> by omega) (fun _ _=> ?_)
       show 12*(n+2)+2<=_
       omega
     ·simp at h4
theorem wP_cut (t:List Pr) {a b:Nat} (h:a<=b):wP (t.take a)+wP (t.drop b)<=wP t:=by
 have h1:wP t=wP (t.take a)+wP (t.drop a):=by rw [<-cj_,List.take_append_drop]
 have h2:wP (t.drop a)=wP ((t.drop a).take (b - a))+wP (t.drop b):=by
  rw [<-cj_]
  have e:t.drop b=(t.drop a).drop (b - a):=by rw [List.drop_drop];congr 1;omega
  rw [e,List.take_append_drop]
 omega
theorem put_w {key val:Ky} (hk:key.length<=24) (hv:val.length<=300):WOk (putF key val):=by
 intro t l ht hl
 rw [putF] at hl
 injection hl with hl
 subst hl
 have h1:=wP_cut t (show atF t key<=atF t key+(if B_ t key then 1 else 0) by omega)
 have h2:wP [(key,val)]<=329:=by
  have h4:=aS_ key (by omega)
  have h5:=hV_ val hv
  have e2:wP [(key,val)]=(encI (.txt key)).length+(encI (.txt val)).length:=by
   rw [wP,List.flatMap_cons,List.flatMap_nil,List.append_nil,s_,s_]
   simp [encL]
  rw [e2]
  omega
 rw [cj_,cj_]
 omega
theorem drop_w (key:Ky):WOk (bG_ key):=by
 intro t l ht hl
 rw [bG_] at hl
 split at hl
 ·injection hl with hl
  subst hl
  have h1:=wP_cut t (show atF t key<=atF t key+1 by omega)
  rw [cj_]
  omega
 ·cases hl
end Go.Proofs.YtkpgjkekmdecbaaGreat
