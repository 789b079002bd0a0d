/- Lemmas for the claim. No conditions beside those that each states. -/
import Derived.Test.YtkpgjkekmdecbaaGreatOrdAJ
import Derived.Test.YtkpgjkekmdecbaaGreatOrdAK
import Derived.StillTailTactics
import Derived.Test.YtkpgjkekmdecbaaGreatOrdAH
import Derived.Test.YtkpgjkekmdecbaaGreatOrdAG
set_option maxRecDepth 100000
set_option maxHeartbeats 8000000
set_option linter.all false

namespace Go.Proofs.YtkpgjkekmdecbaaGreat
open Go.RowKit
variable {w w' W:World} {T:TypeId} {n g b k:Nat} {S bs:List Nat} {Ts:List TypeId} {zs:List (List UInt8)} {ws:List (Nat × Nat × List UInt8)}
theorem one_rdI (W0:World) (x:Int):EI.Rd (W0.alloc (.cells #[.int .i64 x] T)) (.slice (some ⟨W0.heap.size,0,none⟩) 1 1) [x]:=by
 refine .inr ⟨W0.heap.size,0,1,rfl,Nat.le_refl _,by simp,fun j u hj=> ?_⟩
 rw [cell_of_row _ W0.heap.size _ _ _ _ (heap_alloc_new _ _)]
 match j,hj with
 | 0,hj=> exact hj
 | j+1,hj=> simp [EI,Enc.flat] at hj
theorem tmodD (a D:Nat):((a:Nat):Int).tmod (D:Int)=((a % D:Nat):Int):=by
 rw [Int.tmod_eq_emod_of_nonneg (by omega)];omega
theorem tdivD (a D:Nat):((a:Nat):Int).tdiv (D:Int)=((a / D:Nat):Int):=by
 rw [Int.tdiv_eq_ediv_of_nonneg (by omega)];omega
theorem es_ (a r gg k S F addr size:Nat) (ws:List (Nat×Nat×List UInt8)) (w:World) (hr:RackR w r gg (k+4) S ws) (ha:ArrR w a r (k+4) F) (hk1:1<=k) (hk:k<=8) (hS:S<=2000) (hF:F<=S) (hs1:1<=size) (hs:size<=1024) (had:addr+B_ k size<=(k+4)*(S - F)):
  Calls Tryz.prog 142 #[.pointer (some ⟨a,0,none⟩),.int .i64 addr,.int .i64 size] w fun e w'=> ∃v l,e= .returned (.tuple #[v,.int .i64 0])/\EI.Rd w' v l/\l.length<=12/\(∀x∈l,0<=x/\x < ((k+4:Nat):Int))/\(∀y∈blkL v,w.heap.size<=y)/\Ext [] w w':=by
 obtain⟨HA,HR⟩:=h_2 ha hr
 have hcb:=aP_ k size hs1 hs
 obtain⟨C,hC⟩: ∃C,C=B_ k size:=⟨_,rfl⟩
 obtain⟨A,hA⟩: ∃C,C=(k+4)*(S - F):=⟨_,rfl⟩
 have hA2:(k+4)*(S - F)<=12*2000:=Nat.mul_le_mul (by omega) (by omega)
 rw [<-hC] at hcb had
 rw [<-hA] at hA2 had
 have m1: ¬((addr:Int) < 0):=by omega
 have m2:IntKind.i64.wrap ((A:Int) - (C:Int))=(A:Int) - (C:Int):=IntWalk.i64_in _ (by omega)
 have m3: ¬((A:Int) - (C:Int) < (addr:Int)):=by omega
 obtain⟨HC,HAA⟩:=h_2 hC hA
 obtain⟨D,hD⟩: ∃D,D=k+4:=⟨_,rfl⟩
 have hD5:5<=D/\D<=12:=by omega
 rw [<-hD] at ha hr ⊢
 clear hC hA hD
 go_enter Tryz.func142,Tryz.ntmps142
 go_wp2_with fail
 refine(fh_ a r k F size _ HA.out (by omega) hs1 hs).mono ?_
 rintro e W1 ⟨rfl,hE1⟩
 rw [<-HC.out]
 go_wp2_with fail
 refine(gq_ a r gg (k+4) S F ws _ (HR.out.ext0 hE1) (HA.out.ext0 hE1) (by omega) hS hF).mono ?_
 rintro e W2 ⟨rfl,hE2⟩
 rw [<-HAA.out]
 have hE02:=hE1.trans hE2
 have c0:w.cell? ⟨a,1,none⟩=some (.int .i64 D):=by rw [cell_of_row w a 1 _ _ _ ha];rfl
 have c1:=hE02.cell c0 (by simp)
 have HC0:=hi_ c0
 obtain⟨M,hM⟩: ∃M,M=min C D:=⟨_,rfl⟩
 have hmin:min (C:Int) (D:Int)=(M:Int):=by omega
 have hM12:1<=M/\M<=12:=by omega
 clear ha hr hE1 hE2 hM c0
 go_wp2_with fail
 go_loopw [10,11,38] (fun ov _ cv wr=> ∃(c:Nat) (l:List Int),c<=M/\cv= .int .i64 c/\l.length=c/\Ext [] w wr/\Hid (EI.Ow 3 wr ov l/\(∀x∈l,0<=x/\x < (D:Int))/\ ∀y∈blkL ov,w.heap.size<=y)) (fun _ _ cv _=> M - (intOf cv).toNat)
 case atStart=> exact⟨0,[],by omega,rfl,rfl,hE02,.inl ⟨rfl,rfl⟩,by simp,by simp [blkL]⟩
 case round=>
  obtain⟨c,l,hc,rfl,hlc,hE,HO⟩:=hrel
  clear c1
  by_cases hlt:c < M
  ·have z1:(c:Int) < (M:Int):=by omega
   have c1':=hE.cell HC0.out (by simp)
   have w1:IntKind.i64.wrap ((addr:Int)+(c:Int))=((addr+c:Nat):Int):=by rw [IntWalk.i64_in _ (by omega)];omega
   have w2:=tmodD (addr+c) D
   have hmod:(addr+c) % D < D:=Nat.mod_lt _ (by omega)
   obtain⟨q,hq⟩: ∃q,q=addr+c:=⟨_,rfl⟩
   rw [<-hq] at w1 w2 hmod
   obtain⟨x,hx⟩: ∃x,x=q % D:=⟨_,rfl⟩
   rw [<-hx] at w2 hmod
   have w3: ¬((D:Int)=0):=by omega
   have w4:((D:Int)==0)=false:=by simp;omega
   obtain⟨pv,cv,rfl,_⟩:=HO.out.1.rd.len_eq
   obtain⟨nl,hnl⟩: ∃n,n=l.length:=⟨_,rfl⟩
   rw [<-hnl] at HO hlc ⊢
   have HNL:=hi_ hnl
   clear hnl hq hx
   go_wp2_with (with_reducible refine f_ (d:=51) ?_)
   refine k_ rfl fun K hK=> b_ (E:=EI) (T:=3) (zero:=0) (bytes:=8) (v:= .slice pv nl cv) (xs:=l) (ys:= [(x:Int)]) tiI Tryz.underlying208 Tryz.underlying208 rfl rfl rfl (HO.out.1.ext0 ((Ext.refl [] _).alloc _)) (one_rdI _ _) (by rw [<-HNL.out];simp;omega) (by rw [<-HNL.out];simp;omega) ?_
   intro v7 W7 how7 hE7 hnear7 _
   refine hK _ _ ?_
   clear hK
   have hw7:Ext [] w W7:=(hE.alloc _).trans' hE7 (by simp) (fun y hy=> .inr (HO.out.2.2 y hy))
   have hn7: ∀y∈blkL v7,w.heap.size<=y:=fun y hy=> by
    rcases hnear7 y hy with h | h
    ·exact HO.out.2.2 y h
    ·have:=hE.size;simp at h;omega
   obtain⟨HO7,HN7⟩:=h_2 how7 hn7
   clear how7 hE7 hnear7 hn7 c1'
   go_wp2_with fail
   go_roundw
   case rel=> exact⟨c+1,l++ [(x:Int)],by omega,by go_num,by rw [List.length_append,<-HNL.out,hlc];rfl,hw7,HO7.out,fun y hy=> by
    rcases List.mem_append.1 hy with h | h
    ·exact HO.out.2.1 y h
    ·simp at h;omega,HN7.out⟩
   case measure=> simp [intOf];omega
  ·obtain rfl:c=M:=by omega
   have z1: ¬((c:Int) < (c:Int)):=by omega
   go_wp2_with fail
   obtain⟨ho,hgood,hnew⟩:=HO.out
   rcases ho with ⟨rfl,h⟩ | ⟨g,i,cap,L,rfl,hg,h1,h2,h3⟩
   ·rw [h] at hlc;simp at hlc;omega
   simp only [EI,Nat.mul_one] at hnew ⊢
   have hgd:Good (fun x=> 0<=x/\x < (D:Int)) L i l.length:=fun q hq=> by
    have e:L.getD (i+q) 0=l.getD q 0:=by
     have h4:((L.drop i).take l.length)[q]? =l[q]? :=by rw [h3]
     rw [List.getElem?_take,if_pos hq,List.getElem?_drop] at h4
     rw [List.getD_eq_getElem?_getD,List.getD_eq_getElem?_getD,h4]
    rw [e]
    exact hgood _ (by simp [List.getD,hq])
   have hEg:=hnew g (by simp [blkL])
   refine(sort_c (fun x=> 0<=x/\x < (D:Int)) g i l.length cap L wr hg (by omega) (by omega) hgd).mono ?_
   rintro e W5 ⟨rfl,L',hg5,hl5,hgd5,hE5⟩
   have hw5:Ext [] w W5:=hE.trans' hE5 (by simp) (fun y hy=> .inr (by simp at hy;omega))
   have hlt5:=g_ hg5
   have hl6:l.length<=12:=by omega
   have hl7:i+l.length<=L'.length:=by omega
   obtain⟨n,hn⟩: ∃n,n=l.length:=⟨_,rfl⟩
   rw [<-hn] at h1 hgd5 hl6 hl7 ⊢
   obtain⟨HG5,HGD5⟩:=h_2 hg5 hgd5
   clear hg hg5 hgd5 hgd hgood h3 hn hE5 hl5
   go_wp2
   go_ret2
   refine⟨_,(L'.drop i).take n,rfl,.inr ⟨g,i,cap, ?_, ?_,hlt5,fun j u hj=> ?_⟩, ?_,fun x hx=> ?_,fun y hy=> by simp [blkL] at hy;subst hy;exact hEg,hw5⟩
   ·simp;omega
   ·simp;omega
   ·rw [cell_of_row _ g _ _ _ _ HG5.out]
    rw [flatI,List.getElem?_map,List.getElem?_take] at hj
    split at hj
    ·rw [List.getElem?_drop] at hj
     simpa [flatI] using hj
    ·cases hj
   ·simp;omega
   ·obtain⟨q,hq,he⟩:=List.getElem_of_mem hx
    simp at hq
    have h:=HGD5.out q (by omega)
    rw [List.getElem_take,List.getElem_drop] at he
    rw [List.getD_eq_getElem?_getD,List.getElem?_eq_getElem (by omega),he] at h
    exact h
theorem hS_ (a r gg D S F:Nat) (ws:List (Nat×Nat×List UInt8)) (v:Value) (l:List Int) (w:World) (hr:RackR w r gg D S ws) (ha:ArrR w a r D F) (hv:EI.Rd w v l) (hl:l.length<=100) (hd: ∀x∈l,0<=x/\x < (D:Int)):
  Calls Tryz.prog 143 #[.pointer (some ⟨a,0,none⟩),v] w fun e w'=> e= .returned (.tuple #[.slice none 0 0,.int .i64 0])/\w'=w:=by
 obtain⟨HR,HD⟩:=h_2 hr hd
 have c0:w.cell? ⟨a,0,none⟩=some (.pointer (some ⟨r,0,none⟩)):=by rw [cell_of_row w a 0 _ _ _ ha];rfl
 obtain⟨p,c,rfl,_⟩:=hv.len_eq
 obtain⟨n,hn⟩: ∃n,n=l.length:=⟨_,rfl⟩
 rw [<-hn] at hv hl ⊢
 obtain⟨HV,HN⟩:=h_2 hv hn
 clear hr ha hv hd hn
 go_enter Tryz.func143,Tryz.ntmps143
 go_wp2_with fail
 go_loopw [6,8,11] (fun ov _ iv wr=> ∃q:Nat,q<=n/\iv= .int .i64 q/\ov= .slice none 0 0/\wr=w) (fun _ _ iv _=> n - (intOf iv).toNat)
 case atStart=> exact⟨0,Nat.zero_le _,rfl,rfl,rfl⟩
 case round=>
  obtain⟨q,hq,rfl,rfl,rfl⟩:=hrel
  by_cases hlt:q < n
  ·have z1:(q:Int) < (n:Int):=by omega
   obtain⟨g,o,rfl⟩: ∃g o,p=some ⟨g,o,none⟩:=by
    rcases HV.out with ⟨_,h⟩ | ⟨g,o,c,h,_⟩
    ·have:=HN.out;rw [h] at this;simp at this;omega
    ·simp only [Value.slice.injEq] at h;exact⟨g,o,h.1⟩
   have hcell:=fp_ HV.out q (by rw [<-HN.out];exact hlt)
   have hx:=HD.out (l.getD q 0) (by have:=HN.out;simp [List.getD,show q < l.length by omega])
   obtain⟨x,hx0⟩: ∃x:Nat,l.getD q 0=x:=⟨(l.getD q 0).toNat,by omega⟩
   rw [hx0] at hcell hx
   clear hx0
   go_wp2_with fail
   refine(hq_ r gg D S ws x _ HR.out (by omega)).mono ?_
   rintro e W2 ⟨rfl,rfl⟩
   go_wp2_with fail
   go_roundw
   case rel=> exact⟨q+1,by omega,by go_num,rfl,trivial⟩
   case measure=> simp [intOf];omega
  ·have z1: ¬((q:Int) < (n:Int)):=by omega
   go_wp2
   go_ret2
   exact⟨rfl,rfl⟩
theorem gp_ (a r D F x:Nat) (w:World) (ha:ArrR w a r D F) (hD:1<=D) (hF:F<=2000) (hx:x<=100000):
  Calls Tryz.prog 169 #[.pointer (some ⟨a,0,none⟩),.int .i64 x] w fun e w'=> e= .returned (.tuple #[.int .i64 ((x % D:Nat):Int),.int .i64 ((F+x / D:Nat):Int)])/\Ext [] w w':=by
 have c1:w.cell? ⟨a,1,none⟩=some (.int .i64 D):=by rw [cell_of_row w a 1 _ _ _ ha];rfl
 have c2:w.cell? ⟨a,2,none⟩=some (.int .i64 F):=by rw [cell_of_row w a 2 _ _ _ ha];rfl
 have w1:=tmodD x D
 have w2:=tdivD x D
 have hq:x / D<=x:=Nat.div_le_self _ _
 obtain⟨q,hq'⟩: ∃q,q=x / D:=⟨_,rfl⟩
 obtain⟨m,hm⟩: ∃q,q=x % D:=⟨_,rfl⟩
 rw [<-hq'] at w2 hq ⊢
 rw [<-hm] at w1 ⊢
 have w3:IntKind.i64.wrap ((F:Int)+(q:Int))=((F+q:Nat):Int):=by rw [IntWalk.i64_in _ (by omega)];omega
 obtain⟨s,hs⟩: ∃s,s=F+q:=⟨_,rfl⟩
 rw [<-hs] at w3 ⊢
 have w4:IntKind.i64.wrap ((q:Nat):Int)=(q:Int):=IntWalk.i64_in _ (by omega)
 have z0: ¬((D:Int)=0):=by omega
 have z1:((D:Int)==0)=false:=by simp;omega
 clear ha hq' hm hs
 go_enter Tryz.func169,Tryz.ntmps169
 go_wp2_with fail
 go_big_quiet (fail)
 go_wp2
 go_ret2
 exact⟨rfl,(Ext.refl _ _).drewN _⟩
theorem arput_c (a r gg D S F x:Nat) (ws:List (Nat×Nat×List UInt8)) (v:Value) (bs:List UInt8) (w:World) (hr:RackR w r gg D S ws) (ha:ArrR w a r D F) (hD:1<=D) (hF:F<=S) (hS:S<=2000) (hx:x < D*(S - F)) (hx2:x<=100000) (hv:EB.Rd w v bs) (hbl:bs.length=128) (hwl:ws.length<=1000000):
  Calls Tryz.prog 145 #[.pointer (some ⟨a,0,none⟩),.int .i64 x,v] w fun e w'=> e= .returned (.int .i64 0)/\RackR w' r gg D S (ws++ [(x % D,F+x / D,bs)])/\ExtT [r] [339] w w':=by
 obtain⟨HR,HA,HV⟩:=h_3 hr ha hv
 have hm1:x % D < D:=Nat.mod_lt _ (by omega)
 have hm2:F+x / D < S:=by
  have:x / D < S - F:=Nat.div_lt_of_lt_mul hx
  omega
 have c0:w.cell? ⟨a,0,none⟩=some (.pointer (some ⟨r,0,none⟩)):=by rw [cell_of_row w a 0 _ _ _ ha];rfl
 clear hr ha hv hx
 have hpl:=gp_ a r D F x w HA.out hD (by omega) hx2
 obtain⟨q,hq⟩: ∃q,q=F+x / D:=⟨_,rfl⟩
 obtain⟨m,hm⟩: ∃q,q=x % D:=⟨_,rfl⟩
 rw [<-hq] at hm2 hpl ⊢
 rw [<-hm] at hm1 hpl ⊢
 have HPL:=hi_ hpl
 clear hq hm hpl
 go_enter Tryz.func145,Tryz.ntmps145
 go_wp2_with fail
 refine HPL.out.mono ?_
 rintro e W1 ⟨rfl,hE1⟩
 have c0':=hE1.cell c0 (by simp)
 have HR1:=hi_ (HR.out.ext0 hE1)
 have HV1:=hi_ (HV.out.ext0 hE1)
 clear c0
 go_wp2_with fail
 refine(hq_ r gg D S ws m _ HR1.out hm1).mono ?_
 rintro e W2 ⟨rfl,rfl⟩
 go_wp2_with fail
 refine(rkwrite_c r gg D S ws m q v bs _ HR1.out hm1 hm2 HV1.out hbl hwl).mono ?_
 rintro e W3 ⟨rfl,hr3,hE3⟩
 have HR3:=hi_ hr3
 clear hr3 c0'
 go_wp2
 go_ret
 exact⟨rfl,HR3.out,(ExtT.of0 hE1).trans hE3⟩
def Sec (w:World) (B:Nat) (x:Option Addr×Nat×Nat) (b:List UInt8):Prop:=EB.Rd w (.slice x.1 x.2.1 x.2.2) b/\ ∀y∈blkL (.slice x.1 x.2.1 x.2.2),B<=y/\r_ w y=some 5
theorem aG_ {y:Nat} (h:r_ w y=some T) (he:Ext S w w') (hS:y∉S):r_ w' y=some T:=by
 rw [r_] at h ⊢
 by_cases hl:y < w.heap.size
 ·rwa [he.block y hl hS]
 ·rw [Array.getElem?_eq_none (by omega)] at h;cases h
theorem Sec.ext {B:Nat} {x:Option Addr×Nat×Nat} {b:List UInt8} (h:Sec w B x b) (he:Ext S w w') (hS: ∀y∈S,r_ w y≠some 5):Sec w' B x b:=
 ⟨h.1.ext he (fun y hy hy2=> hS y hy2 (h.2 y hy).2),fun y hy=> ⟨(h.2 y hy).1,aG_ (h.2 y hy).2 he (fun hy2=> hS y hy2 (h.2 y hy).2)⟩⟩
theorem Sec.ext0 {B:Nat} {x:Option Addr×Nat×Nat} {b:List UInt8} (h:Sec w B x b) (he:Ext [] w w'):Sec w' B x b:=h.ext he (by simp)
def CellsOk (w:World) (B:Nat) (zs:List ((Option Addr×Nat×Nat)×List UInt8)):Prop:= ∀z∈zs,z.1.2.1=128/\z.2.length=128/\Sec w B z.1 z.2
theorem CellsOk.ext {B:Nat} {zs:List ((Option Addr×Nat×Nat)×List UInt8)} (h:CellsOk w B zs) (he:Ext S w w') (hS: ∀y∈S,r_ w y≠some 5):CellsOk w' B zs:=fun z hz=> ⟨(h z hz).1,(h z hz).2.1,(h z hz).2.2.ext he hS⟩
theorem CellsOk.append {B:Nat} {zs ys:List ((Option Addr×Nat×Nat)×List UInt8)} (h:CellsOk w B zs) (k:CellsOk w B ys):CellsOk w B (zs++ys):=fun z hz=> by
 rcases List.mem_append.1 hz with h1 | h1
 ·exact h z h1
 ·exact k z h1
def az_ (P:List UInt8) (m:Nat):List (List UInt8):=(List.range m).map (fun i=> (P.drop (128*i)).take 128)
theorem dt_ (P:List UInt8) (m:Nat):az_ P (m+1)=az_ P m++ [(P.drop (128*m)).take 128]:=by simp [az_,List.range_succ]
theorem W_ (P:List UInt8) (m:Nat):(az_ P m).length=m:=by simp [az_]
inductive LayOf (k:Nat):List UInt8->Nat->List (List UInt8)->Prop
 | nil (P:List UInt8):LayOf k P 0 []
 | row (P:List UInt8) (l:Nat) (p1 p2 p3:List UInt8) (rest:List (List UInt8)):l≠0->LayOf k (P.drop (128*min l (k+1))) (l - min l (k+1)) rest->LayOf k P l (p1::p2::p3::(az_ P (min l (k+1))++rest))
theorem LayOf.len {P:List UInt8} {l:Nat} (h:LayOf k P l zs): ∀a,(zs.length:Int)=aI_ (ax_ k a l):=by
 induction h with
 | nil P=> intro a;rw [ao_];rfl
 | row P l p1 p2 p3 rest h0 h1 ih=>
  intro a
  rw [Y_ k a l h0]
  have:=ih (a+(min l (k+1):Nat)+3)
  simp only [aI_,List.map_cons,List.sum_cons,List.length_cons,List.length_append,W_] at this ⊢
  omega
theorem Sec.take {B:Nat} {p:Option Addr} {n c k c':Nat} {P:List UInt8} (h:Sec w B (p,n,c) P) (hk:k<=P.length) (hk1:1<=k) (hc:k<=c'):Sec w B (p,k,c') (P.take k):=by
 obtain⟨h1,h2⟩:=h
 rcases h1 with ⟨h1,h3⟩ | ⟨g,o,cap,h1,h3,h4,h5⟩
 ·rw [h3] at hk;simp at hk;omega
 ·simp only [Value.slice.injEq] at h1
  obtain⟨rfl,rfl,rfl⟩:=h1
  refine⟨.inr ⟨g,o,c',by simp [hk],by simp;omega,h4,fun j u hj=> h5 j u ?_⟩,fun y hy=> h2 y (by simpa [blkL] using hy)⟩
  rw [EB.flat_take] at hj
  rw [List.getElem?_take] at hj
  split at hj
  ·exact hj
  ·cases hj
theorem Sec.drop {B g o n c:Nat} (k:Nat) {P:List UInt8} (h:Sec w B (some ⟨g,o,none⟩,n,c) P) (hk:k < c):Sec w B (some ⟨g,o+k,none⟩,n - k,c - k) (P.drop k):=by
 obtain⟨h1,h2⟩:=h
 have h3:=EB_drop (k:=k) h1
 have hne: ¬(c=k):=by omega
 simp only [if_neg hne] at h3
 exact⟨h3,fun y hy=> h2 y (by simpa [blkL] using hy)⟩
theorem Sec.u8 {B g n:Nat} (h:U8 w g n) (hB:B<=g): ∃b:List UInt8,b.length=n/\Sec w B (bg_ n g) b:=by
 obtain⟨b,h1,h2⟩:=h
 refine⟨b,h1,.inr ⟨g,0,n,by simp [bg_,h1],by omega,g_ h2,fun j u hj=> ?_⟩,fun y hy=> ?_⟩
 ·rw [cell_of_row _ g _ _ _ _ h2];simp at hj ⊢;exact hj
 ·simp [blkL,bg_] at hy;subst hy;exact⟨hB,d_ h2⟩
theorem par_cells {B:Nat} {gs:List Nat} (hl:gs.length=3) (h: ∀g∈gs,U8 w g 128/\B<=g): ∃p1 p2 p3:List UInt8,∃zs,zs.map (·.1)=gs.map (bg_ 128)/\zs.map (·.2)= [p1,p2,p3]/\CellsOk w B zs:=by
 obtain⟨a,b,c,rfl⟩:=three_of gs hl
 obtain⟨p1,l1,s1⟩:=Sec.u8 (h a (by simp)).1 (h a (by simp)).2
 obtain⟨p2,l2,s2⟩:=Sec.u8 (h b (by simp)).1 (h b (by simp)).2
 obtain⟨p3,l3,s3⟩:=Sec.u8 (h c (by simp)).1 (h c (by simp)).2
 refine⟨p1,p2,p3,[(bg_ 128 a,p1),(bg_ 128 b,p2),(bg_ 128 c,p3)],rfl,rfl,fun z hz=> ?_⟩
 simp at hz
 rcases hz with rfl | rfl | rfl
 ·exact⟨rfl,l1,s1⟩
 ·exact⟨rfl,l2,s2⟩
 ·exact⟨rfl,l3,s3⟩
theorem one_rdS (W0:World) (x:Option Addr×Nat×Nat):ES.Rd (W0.alloc (.cells #[.slice x.1 x.2.1 x.2.2] T)) (.slice (some ⟨W0.heap.size,0,none⟩) 1 1) [x]:=by
 refine .inr ⟨W0.heap.size,0,1,rfl,Nat.le_refl _,by simp,fun j u hj=> ?_⟩
 rw [cell_of_row _ W0.heap.size _ _ _ _ (heap_alloc_new _ _)]
 match j,hj with
 | 0,hj=> exact hj
 | j+1,hj=> simp [ES,Enc.flat] at hj
def padB (bs:List UInt8):List UInt8:=bs++List.replicate 128 0
theorem iK_ (a r k F:Nat) (v:Value) (bs:List UInt8) (w:World) (ha:ArrR w a r (k+4) F) (hk:k<=100) (hv:EB.Rd w v bs) (h1:1<=bs.length) (h2:bs.length<=1024):
  Calls Tryz.prog 144 #[.pointer (some ⟨a,0,none⟩),v] w fun e w'=> ∃u zs,e= .returned (.tuple #[u,.int .i64 0])/\ES.Ow 158 w' u (zs.map (·.1))/\CellsOk w' w.heap.size zs/\LayOf k (padB bs) ((bs.length+127) / 128) (zs.map (·.2))/\Ext [] w w':=by
 have HA:=hi_ ha
 obtain⟨p,c,rfl,_⟩:=hv.len_eq
 obtain⟨size,hsz⟩: ∃n,n=bs.length:=⟨_,rfl⟩
 rw [<-hsz] at hv h1 h2 ⊢
 obtain⟨HV,HSZ⟩:=h_2 hv hsz
 clear ha hv hsz
 go_enter Tryz.func144,Tryz.ntmps144
 go_wp2_with fail
 refine(ff_ _ bs _ (by rw [<-HSZ.out];omega) HV.out).mono ?_
 rintro e W1 ⟨v1,rfl,how1,hE1,hn1, -⟩
 go_wp2_with (with_reducible refine f_ (d:=15) ?_)
 refine k_ rfl fun K hK=> L_ (E:=EB) (T:=5) (zero:=0) (bytes:=1) (v:=v1) (xs:=bs) (n:=128) tiB Tryz.underlying158 Tryz.underlying3 rfl rfl rfl how1 (by rw [<-HSZ.out];omega) (by rw [<-HSZ.out];omega) ?_
 intro v2 W2 how2 hE2 hnear2 _
 refine hK _ _ ?_
 clear hK
 have hE02:Ext [] w W2:=hE1.trans' hE2 (by simp) (fun y hy=> .inr (hn1 y hy))
 obtain⟨P,hP⟩: ∃P,P=padB bs:=⟨_,rfl⟩
 have how2:EB.Ow 5 W2 v2 P:=by rw [hP];exact how2
 have hPl:P.length=size+128:=by rw [hP,HSZ.out,padB];simp
 obtain⟨p2,c2,rfl,hc2⟩:=how2.rd.len_eq
 have hsec:Sec W2 w.heap.size (p2,P.length,c2) P:=⟨how2.rd,fun y hy=> ⟨by
  rcases hnear2 y hy with h | h
  ·exact hn1 y h
  ·have:=hE1.size;omega,by obtain⟨x,hx⟩:=how2.tag y hy;exact d_ hx⟩⟩
 obtain⟨HP,HSEC⟩:=h_2 hP hsec
 clear hsec how2 how1 hn1 hE1 hE2 hnear2 hP
 go_wp2_with fail
 have hr1:=fg_ a r k F 0 size W2 (HA.out.ext0 hE02) hk (by omega) (by omega) h1 h2
 refine hr1.mono ?_
 clear hr1
 rintro e W3 ⟨v3,rfl,how3,hn3,hE3⟩
 obtain⟨p3,c3,rfl,hc3⟩:=how3.rd.len_eq
 have hE03:=hE02.trans hE3
 have HSEC3:=hi_ (HSEC.out.ext0 hE3)
 have HR3:=hi_ how3.rd
 have hrl:=dv_ k ((size+127) / 128) 0
 obtain⟨l0,hl0⟩: ∃l,l=(size+127) / 128:=⟨_,rfl⟩
 have hPl2:128*l0 < P.length:=by omega
 have hl8:l0<=8:=by omega
 obtain⟨rs,hrs⟩: ∃rs,rs=ax_ k 0 l0:=⟨_,rfl⟩
 rw [<-hl0,<-hrs] at HR3 hrl
 rw [<-hl0,<-hrs]
 obtain⟨HRS,HL0⟩:=h_2 hrs hl0
 obtain⟨nr,hnr⟩: ∃n,n=rs.length:=⟨_,rfl⟩
 rw [<-hnr] at HR3 hrl ⊢
 have HNR:=hi_ hnr
 clear hrs hl0 how3 hn3 hc3 hnr HSEC hE3
 go_wp2_with fail
 obtain⟨B,hB⟩: ∃B,B=w.heap.size:=⟨_,rfl⟩
 have HBB:=hi_ hB
 rw [<-hB] at HSEC3
 have hB3:B<=W3.heap.size:=by have:=hE03.size;omega
 have hPle:P.length<=1152:=by omega
 rw [<-hPl]
 clear hPl hB
 go_loopw [6,7,9,10,11,12,21] (fun pv ov _ _ _ _ iv wr=> ∃(q l:Nat) (a':Int) (P':List UInt8) (x:Option Addr×Nat×Nat) (zs:List ((Option Addr×Nat×Nat)×List UInt8)),q<=nr/\iv= .int .i64 q/\pv= .slice x.1 x.2.1 x.2.2/\l<=l0/\128*l < P'.length/\P'.length<=1152/\zs.length<=4*(l0 - l)/\Ext [] W3 wr/\Hid (rs.drop q=ax_ k a' l)/\Hid (Sec wr B x P')/\Hid (ES.Ow 158 wr ov (zs.map (·.1))/\CellsOk wr B zs/\ ∀y∈blkL ov,W3.heap.size<=y)/\Hid (∀rest,LayOf k P' l rest->LayOf k P l0 (zs.map (·.2)++rest))) (fun _ _ _ _ _ _ iv _=> nr - (intOf iv).toNat)
 case atStart=> exact⟨0,l0,0,P,(p2,P.length,c2),[],by omega,rfl,rfl,by omega,hPl2,hPle,by simp,Ext.refl _ _,HRS,HSEC3,hi_ ⟨.inl ⟨rfl,rfl⟩,(fun z hz=> by cases hz),by simp [blkL]⟩,hi_ (fun rest h=> h)⟩
 case round=>
  obtain⟨q,l,a',P',x,zs,hq,rfl,rfl,hll,hPl',hPle',hzl,hE,HDR,HS,HO,HL⟩:=hrel
  by_cases hlt:q < nr
  ·have z1:(q:Int) < (nr:Int):=by omega
   obtain⟨g3,o3,rfl⟩: ∃g o,p3=some ⟨g,o,none⟩:=by
    rcases HR3.out with ⟨_,h⟩ | ⟨g,o,c,h,_⟩
    ·have:=HNR.out;rw [h] at this;simp at this;omega
    ·simp only [Value.slice.injEq] at h;exact⟨g,o,h.1⟩
   have hr3:ER.Rd wr (.slice (some ⟨g3,o3,none⟩) nr c3) rs:=HR3.out.ext0 hE
   obtain⟨hm1,hm2⟩:=E_ hr3 q (by rw [<-HNR.out];exact hlt)
   have hdr:rs.drop q=rs.getD q (0,0)::rs.drop (q+1):=by
    rw [List.drop_eq_getElem_cons (by rw [<-HNR.out];exact hlt)]
    congr 1
    have:=HNR.out
    simp [List.getD,show q < rs.length by omega]
   have hl1:l≠0:=by
    rintro rfl
    have h:=HDR.out
    rw [ao_,hdr] at h
    cases h
   have hrow:=HDR.out
   rw [Y_ k a' l hl1,hdr] at hrow
   simp only [List.cons.injEq] at hrow
   obtain⟨hx1,hrest⟩:=hrow
   rw [hx1] at hm1 hm2
   simp only at hm1 hm2
   have M1:1<=min l (k+1):=by omega
   have M2:min l (k+1)<=l:=by omega
   obtain⟨M,hM⟩: ∃M,M=min l (k+1):=⟨_,rfl⟩
   have HLAY:Hid (∀p1 p2 p3 rest,LayOf k (P'.drop (128*M)) (l - M) rest->LayOf k P' l (p1::p2::p3::(az_ P' M++rest))):=by
    rw [hM];exact hi_ (fun p1 p2 p3 rest h=> LayOf.row P' l p1 p2 p3 rest hl1 h)
   rw [<-hM] at hm2 M1 M2 hrest
   have HREST:=hi_ hrest
   clear hr3 hdr hx1 hM hrest
   go_wp2_with fail
   have hEa:Ext [] wr (wr.alloc (.cells #[.int .i64 a',.int .i64 M] 131)):=(Ext.refl [] wr).alloc _
   have hE1:=hE.trans hEa
   have HS1:=hi_ (HS.out.ext0 hEa)
   have HO1:=hi_ (And.intro (HO.out.1.ext0 hEa) (And.intro (HO.out.2.1.ext hEa (by simp)) HO.out.2.2))
   clear hEa hE HS HO hm1 hm2
   revert HO1 HS1 hE1
   generalize World.alloc _ _=w1
   intro hE1 HS1 HO1
   go_loopw [6,10,27] (fun pv dv cv w2=> ∃(c:Nat) (x:Option Addr×Nat×Nat) (ys:List ((Option Addr×Nat×Nat)×List UInt8)),c<=M/\cv= .int .i64 c/\pv= .slice x.1 x.2.1 x.2.2/\ys.length=c/\Ext [] w1 w2/\Hid (Sec w2 B x (P'.drop (128*c)))/\Hid (ES.Ow 158 w2 dv (ys.map (·.1))/\CellsOk w2 B ys/\ys.map (·.2)=az_ P' c/\ ∀y∈blkL dv,w1.heap.size<=y)) (fun _ _ cv _=> M - (intOf cv).toNat)
   case atStart=> exact⟨0,x,[],by omega,rfl,rfl,rfl,Ext.refl _ _,HS1,hi_ ⟨.inl ⟨rfl,rfl⟩,(fun z hz=> by cases hz),rfl,by simp [blkL]⟩⟩
   case round=>
    clear HS1
    obtain⟨c,xi,ys,hc,rfl,rfl,hyl,hE2,HS2,HO2⟩:=hrel
    by_cases hcm:c < M
    ·have z2:(c:Int) < (M:Int):=by omega
     obtain⟨px,nx,cx⟩:=xi
     have hdl:(P'.drop (128*c)).length=P'.length - 128*c:=List.length_drop
     obtain⟨p6,c6,e6,hn6⟩:=HS2.out.1.len_eq
     simp only [Value.slice.injEq] at e6
     obtain⟨rfl,rfl,rfl⟩:=e6
     obtain⟨gx,ox,rfl⟩: ∃g o,px=some ⟨g,o,none⟩:=by
      rcases HS2.out.1 with ⟨_,h⟩ | ⟨g,o,c,h,_⟩
      ·rw [h] at hdl;simp at hdl;omega
      ·simp only [Value.slice.injEq] at h;exact⟨g,o,h.1⟩
     obtain⟨n6,hn6'⟩: ∃n,n=(P'.drop (128*c)).length:=⟨_,rfl⟩
     rw [<-hn6'] at HS2 hn6 hdl ⊢
     have y1:128 < n6:=by omega
     have y2:(128:Int)<=(cx:Int):=by omega
     have y3:(128:Int)<=(n6:Int):=by omega
     have y4:128<=cx:=by omega
     have y5: ¬(cx=128):=by omega
     have htk:=HS2.out.take (k:=128) (c':=128) (by rw [<-hn6'];omega) (by omega) (by omega)
     have hdp:=HS2.out.drop 128 (by omega)
     rw [List.drop_drop,show 128*c+128=128*(c+1) by omega] at hdp
     have hzl:(List.take 128 (List.drop (128*c) P')).length=128:=by rw [List.length_take,<-hn6'];omega
     obtain⟨HTK,HDP,HZL⟩:=h_3 htk hdp hzl
     obtain⟨pv,cv,e7,_⟩:=HO2.out.1.rd.len_eq
     subst e7
     rw [List.length_map,hyl] at HO2 ⊢
     clear hn6' hdl htk hdp hn6 hzl
     dsimp only
     go_wp2_with (with_reducible refine f_ (d:=33) ?_)
     refine k_ rfl fun K hK=> b_ (E:=ES) (T:=158) (zero:=(none,0,0)) (bytes:=24) (v:= .slice pv c cv) (xs:=ys.map (·.1)) (ys:= [(some ⟨gx,ox,none⟩,128,128)]) tiS Tryz.underlying240 Tryz.underlying240 rfl rfl rfl (HO2.out.1.ext0 ((Ext.refl [] _).alloc _)) (one_rdS _ _) (by simp [hyl];omega) (by simp [hyl];omega) ?_
     intro v7 W7 how7 hE7 hnear7 _
     refine hK _ _ ?_
     clear hK
     have hEb:Ext [] wr _:=(Ext.refl [] wr).alloc (.cells #[.slice (some ⟨gx,ox,none⟩) 128 128] 158)
     have htags: ∀y∈blkL (.slice pv c cv),r_ (wr.alloc (.cells #[.slice (some ⟨gx,ox,none⟩) 128 128] 158)) y≠some 5:=fun y hy=> by
      obtain⟨z,hz⟩:=(HO2.out.1.ext0 hEb).tag y hy
      rw [d_ hz]
      decide
     have hw7:Ext [] w1 W7:=(hE2.trans hEb).trans' hE7 (by simp) (fun y hy=> .inr (HO2.out.2.2.2 y hy))
     have hn7: ∀y∈blkL v7,w1.heap.size<=y:=fun y hy=> by
      rcases hnear7 y hy with h | h
      ·exact HO2.out.2.2.2 y h
      ·have:=hE2.size;simp at h;omega
     have hs7:=(HDP.out.ext0 hEb).ext hE7 htags
     obtain⟨zn,hznl,hzn1,hzn2,hzn3⟩: ∃zn:List ((Option Addr×Nat×Nat)×List UInt8),zn.length=c+1/\ES.Ow 158 W7 v7 (zn.map (·.1))/\CellsOk W7 B zn/\zn.map (·.2)=az_ P' (c+1):=by
      refine⟨ys++ [((some ⟨gx,ox,none⟩,128,128),(P'.drop (128*c)).take 128)],by simp [hyl],by simpa using how7,((HO2.out.2.1.ext hEb (by simp)).ext hE7 htags).append (fun z hz=> ?_),by rw [List.map_append,HO2.out.2.2.1,dt_];rfl⟩
      simp at hz
      subst hz
      exact⟨rfl,HZL.out,(HTK.out.ext0 hEb).ext hE7 htags⟩
     have HO7:=hi_ (And.intro hzn1 (And.intro hzn2 (And.intro hzn3 hn7)))
     have HS7:=hi_ hs7
     clear how7 hE7 hnear7 hEb htags hn7 hs7 hE2 hzn1 hzn2 hzn3
     go_wp2_with fail
     go_roundw
     case rel=> exact⟨c+1,(some ⟨gx,ox+128,none⟩,n6 - 128,cx - 128),zn,by omega,by go_num,rfl,hznl,hw7,HS7,HO7⟩
     case measure=> simp [intOf];omega
    ·obtain rfl:c=M:=by omega
     have z2: ¬((c:Int) < (c:Int)):=by omega
     obtain⟨pd,cd,e7,_⟩:=HO2.out.1.rd.len_eq
     subst e7
     rw [List.length_map,hyl] at HO2 ⊢
     go_wp2_with fail
     refine(pmake_c 128 _ (ys.map (·.1)) _ HO2.out.1.rd (by omega) (by omega) (fun h=> by have:=congrArg List.length h;simp [hyl] at this;omega) (by rw [List.length_map,hyl];omega) (fun x hx=> ?_)).mono ?_
     ·obtain⟨z,hz,rfl⟩:=List.mem_map.1 hx
      obtain⟨h1,h2,h3⟩:=HO2.out.2.1 z hz
      refine⟨h1,z.2,h2, ?_⟩
      have h4:=h3.1
      rw [h1] at h4
      exact h4
     rintro e W5 ⟨gt,gs,rfl,hgl,hgt,hgs,lgt,hE5⟩
     have hE15:=hE2.trans hE5
     have lwr:=hE2.size
     have hB5:B<=wr.heap.size:=by have:=hE1.size;omega
     obtain⟨p1,p2',p3',zp,hzp1,hzp2,hzp3⟩:=par_cells (B:=B) hgl (fun g hg=> ⟨(hgs g hg).1,by have:=(hgs g hg).2;omega⟩)
     have hrdp:ES.Rd W5 (.slice (some ⟨gt,0,none⟩) 3 3) (zp.map (·.1)):=by
      rw [hzp1]
      exact .inr ⟨gt,0,3,by simp [hgl],by simp [hgl],g_ hgt,fun j u hj=> by rw [cell_of_row _ gt _ _ _ _ hgt];simp at hj ⊢;exact hj⟩
     have hzpl:zp.length=3:=by have:=congrArg List.length hzp2;simpa using this
     obtain⟨po,co,e8,_⟩:=HO1.out.1.rd.len_eq
     subst e8
     obtain⟨nz,hnz⟩: ∃n,n=(zs.map (·.1)).length:=⟨_,rfl⟩
     rw [<-hnz] at HO1 ⊢
     have hnz2:zs.length=nz:=by rw [hnz];simp
     have HO5:=hi_ (HO1.out.1.ext0 hE15)
     obtain⟨HRD5,HE15,HE5⟩:=h_3 hrdp hE15 hE5
     have HZP:=hi_ (And.intro hzp2 hzp3)
     clear hgt hgs hzp1 hzp2 hzp3 hrdp hE15 hE5 hnz hgl
     go_wp2_with (with_reducible refine f_ (d:=47) ?_)
     refine k_ rfl fun K hK=> b_ (E:=ES) (T:=158) (zero:=(none,0,0)) (bytes:=24) (v:= .slice po nz co) (u:= .slice (some ⟨gt,0,none⟩) 3 3) (xs:=zs.map Prod.fst) (ys:=zp.map Prod.fst) tiS Tryz.underlying240 Tryz.underlying240 rfl rfl rfl HO5.out HRD5.out (by simp [hzpl];omega) (by simp [hzpl];omega) ?_
     intro v6 W6 how6 hE6 hnear6 _
     refine hK _ _ ?_
     clear hK
     have ht6: ∀y∈blkL (.slice po nz co),r_ W5 y≠some 5:=fun y hy=> by
      obtain⟨z,hz⟩:=HO5.out.tag y hy
      rw [d_ hz]
      decide
     have hcz6:=(((HO1.out.2.1.ext HE15.out (by simp)).append HZP.out.2).ext hE6 ht6)
     have hcy6:=((HO2.out.2.1.ext HE5.out (by simp)).ext hE6 ht6)
     have hs6:=(HS2.out.ext0 HE5.out).ext hE6 ht6
     have hd6:ES.Rd W6 (.slice pd c cd) (ys.map (·.1)):=(HO2.out.1.rd.ext0 HE5.out).ext hE6 (fun y hy hy2=> by
      have h1:=HO2.out.2.2.2 y hy
      have h2:=HO1.out.1.lt y hy2
      omega)
     have hE16:Ext [] W3 W6:=(hE1.trans HE15.out).trans' hE6 (by simp) (fun y hy=> .inr (HO1.out.2.2 y hy))
     have hn6: ∀y∈blkL v6,W3.heap.size<=y:=fun y hy=> by
      rcases hnear6 y hy with h | h
      ·exact HO1.out.2.2 y h
      ·have h1:=hE1.size
       have h2:=HE15.out.size
       omega
     obtain⟨p6,c6,rfl,_⟩:=how6.rd.len_eq
     obtain⟨n6,hn6'⟩: ∃n,n=(zs.map Prod.fst++zp.map Prod.fst).length:=⟨_,rfl⟩
     rw [<-hn6'] at how6 hn6 ⊢
     obtain⟨HO6,HD6,HN6⟩:=h_3 how6 hd6 hn6
     have HC6:=hi_ (And.intro hcz6 (And.intro hcy6 hs6))
     have HE16:=hi_ hE16
     clear how6 hE6 hnear6 ht6 hcz6 hcy6 hs6 hd6 hE16 hn6 hn6'
     go_wp2_with (with_reducible refine f_ (d:=49) ?_)
     refine k_ rfl fun K hK=> b_ (E:=ES) (T:=158) (zero:=(none,0,0)) (bytes:=24) (v:= .slice p6 n6 c6) (u:= .slice pd c cd) (xs:=zs.map Prod.fst++zp.map Prod.fst) (ys:=ys.map Prod.fst) tiS Tryz.underlying240 Tryz.underlying240 rfl rfl rfl HO6.out HD6.out (by simp [hzpl,hyl];omega) (by simp [hzpl,hyl];omega) ?_
     intro v8 W8 how8 hE8 hnear8 _
     refine hK _ _ ?_
     clear hK
     have ht8: ∀y∈blkL (.slice p6 n6 c6),r_ W6 y≠some 5:=fun y hy=> by
      obtain⟨z,hz⟩:=HO6.out.tag y hy
      rw [d_ hz]
      decide
     have hE18:Ext [] W3 W8:=HE16.out.trans' hE8 (by simp) (fun y hy=> .inr (HN6.out y hy))
     have hn8: ∀y∈blkL v8,W3.heap.size<=y:=fun y hy=> by
      rcases hnear8 y hy with h | h
      ·exact HN6.out y h
      ·have h1:=HE16.out.size
       omega
     obtain⟨zn,hznl,hzn1,hzn2,hzn3⟩: ∃zn:List ((Option Addr×Nat×Nat)×List UInt8),zn.length=nz+3+c/\ES.Ow 158 W8 v8 (zn.map (·.1))/\CellsOk W8 B zn/\zn.map (·.2)=zs.map (·.2)++p1::p2'::p3'::az_ P' c:=by
      refine⟨zs++zp++ys,by simp [hzpl,hyl];omega, ?_,(HC6.out.1.append HC6.out.2.1).ext hE8 ht8, ?_⟩
      ·rw [List.map_append,List.map_append];exact how8
      ·rw [List.map_append,List.map_append,HZP.out.1,HO2.out.2.2.1];simp
     have HL8:Hid (∀rest,LayOf k (P'.drop (128*c)) (l - c) rest->LayOf k P l0 (zn.map (·.2)++rest)):=hi_ (fun rest h=> by
      have h1:=HL.out _ (HLAY.out p1 p2' p3' rest h)
      rw [hzn3,List.append_assoc]
      exact h1)
     have HO8:=hi_ (And.intro hzn1 (And.intro hzn2 hn8))
     have HS8:=hi_ (HC6.out.2.2.ext hE8 ht8)
     have hdl:(P'.drop (128*c)).length=P'.length - 128*c:=List.length_drop
     clear how8 hE8 hnear8 ht8 hn8 hzn1 hzn2 hzn3 HO2 HO1 HS2
     go_wp2_with fail
     go_roundw
     case rel=> exact⟨q+1,l - c,_,P'.drop (128*c),xi,zn,by omega,by go_num,rfl,by omega,by omega,by omega,by omega,hE18,HREST,HS8,HO8,HL8⟩
     case measure=> simp [intOf];omega
  ·have z1: ¬((q:Int) < (nr:Int)):=by omega
   have hl1:l=0:=by
    have h:=HDR.out
    rw [List.drop_eq_nil_of_le (by have:=HNR.out;omega)] at h
    by_cases h0:l=0
    ·exact h0
    ·rw [Y_ k a' l h0] at h;cases h
   have hlay:=HL.out [] (by rw [hl1];exact .nil _)
   rw [List.append_nil] at hlay
   have HLY:=hi_ hlay
   clear hl1 hlay
   go_wp2
   go_ret2
   refine⟨_,rfl,zs,HO.out.1, ?_, ?_,hE03.trans hE⟩
   ·rw [<-HBB.out];exact HO.out.2.1
   ·rw [<-HP.out,<-HL0.out];exact HLY.out
theorem Sec.extT {B:Nat} {x:Option Addr×Nat×Nat} {b:List UInt8} (h:Sec w B x b) (he:ExtT bs Ts w w') (hb: ∀y∈bs,r_ w y≠some 5) (hT:5∉Ts):Sec w' B x b:=by
 obtain⟨S,hS,hs⟩:=he
 refine h.ext hS (fun y hy=> ?_)
 rcases hs y hy with h1 | ⟨T,h1,h2,_⟩
 ·exact hb y h1
 ·rw [h2];rintro h3;cases h3;exact hT h1
theorem CellsOk.extT {B:Nat} {zs:List ((Option Addr×Nat×Nat)×List UInt8)} (h:CellsOk w B zs) (he:ExtT bs Ts w w') (hb: ∀y∈bs,r_ w y≠some 5) (hT:5∉Ts):CellsOk w' B zs:=fun z hz=> ⟨(h z hz).1,(h z hz).2.1,(h z hz).2.2.extT he hb hT⟩
def wsOf (D F addr:Nat) (zs:List (List UInt8)):List (Nat×Nat×List UInt8):=zs.zipIdx.map (fun z=> ((addr+z.2) % D,F+(addr+z.2) / D,z.1))
theorem eu_ (D F addr:Nat) (zs:List (List UInt8)):(wsOf D F addr zs).length=zs.length:=by simp [wsOf]
theorem wsOf_take (D F addr:Nat) (zs:List (List UInt8)) (q:Nat) (h:q < zs.length):wsOf D F addr (zs.take (q+1))=wsOf D F addr (zs.take q)++ [((addr+q) % D,F+(addr+q) / D,zs[q])]:=by
 rw [List.take_succ_eq_append_getElem h,wsOf,List.zipIdx_append,List.map_append,wsOf]
 simp [Nat.min_eq_left (Nat.le_of_lt h)]
theorem RackR.row {b gg D S:Nat} (h:RackR w b gg D S ws): ∃c,w.heap[b]? =some (.cells c 143 (0,0)):=by
 obtain⟨mv,pw,nw,cw,left,rs,h1,_⟩:=h
 exact⟨_,h1⟩
theorem arwrite_c (a r gg k S F addr:Nat) (ws:List (Nat×Nat×List UInt8)) (v:Value) (bs:List UInt8) (w:World) (hr:RackR w r gg (k+4) S ws) (ha:ArrR w a r (k+4) F) (hk1:1<=k) (hk:k<=8) (hS:S<=2000) (hF:F<=S) (hv:EB.Rd w v bs) (h1:1<=bs.length) (h2:bs.length<=1024) (had:addr+B_ k bs.length<=(k+4)*(S - F)) (hwl:ws.length<=900000):
  Calls Tryz.prog 106 #[.pointer (some ⟨a,0,none⟩),.int .i64 addr,v] w fun e w'=> e= .returned (.int .i64 0)/\ ∃zs,LayOf k (padB bs) ((bs.length+127) / 128) zs/\(∀z∈zs,z.length=128)/\RackR w' r gg (k+4) S (ws++wsOf (k+4) F addr zs)/\ExtT [r] [339] w w':=by
 obtain⟨HR,HA,HAD⟩:=h_3 hr ha had
 obtain⟨p,c,rfl,_⟩:=hv.len_eq
 have HV:=hi_ hv
 have hm:(k+4)*(S - F)<=12*2000:=Nat.mul_le_mul (by omega) (by omega)
 have hra:a≠r:=by
  obtain⟨x,hx⟩:=hr.row
  rintro rfl
  rw [ArrR,hx] at ha
  simp only [Option.some.injEq,Obj.cells.injEq] at ha
  exact absurd ha.2.1 (by decide)
 have HM:=hi_ hm
 clear hr ha hv hm had
 go_enter Tryz.func106,Tryz.ntmps106
 go_wp2_with fail
 refine(es_ a r gg k S F addr bs.length ws _ HR.out HA.out hk1 hk hS hF h1 h2 HAD.out).mono ?_
 rintro e W1 ⟨v1,l1,rfl,hrd1,hl1,hd1,hn1,hE1⟩
 have HR1:=hi_ (HR.out.ext0 hE1)
 have HA1:=hi_ (HA.out.ext0 hE1)
 obtain⟨HRD1,HD1⟩:=h_2 hrd1 hd1
 clear hrd1 hd1 hn1
 go_wp2_with fail
 refine(hS_ a r gg (k+4) S F ws v1 l1 _ HR1.out HA1.out HRD1.out (by omega) HD1.out).mono ?_
 rintro e W2 ⟨rfl,rfl⟩
 go_wp2_with fail
 refine(iK_ a r k F _ bs _ HA1.out (by omega) (HV.out.ext0 hE1) h1 h2).mono ?_
 rintro e W3 ⟨v3,zs,rfl,how3,hc3,hlay,hE3⟩
 have hE03:=hE1.trans hE3
 have HR3:=hi_ (HR1.out.ext0 hE3)
 have HA3:=hi_ (HA1.out.ext0 hE3)
 have hzl:zs.length<=32/\addr+zs.length<=(k+4)*(S - F):=by
  have h3:=hlay.len 0
  rw [<-dg_] at h3
  have h4:=aP_ k bs.length h1 h2
  have h5:=HAD.out
  simp at h3
  omega
 obtain⟨p3,c3,rfl,_⟩:=how3.rd.len_eq
 obtain⟨n,hn⟩: ∃n,n=zs.length:=⟨_,rfl⟩
 rw [List.length_map] at how3 ⊢
 rw [<-hn] at how3 hzl ⊢
 obtain⟨HN,HO3,HC3,HLY⟩:=h_4 hn how3 hc3 hlay
 have hrow3: ∃c,W3.heap[r]? =some (.cells c 143 (0,0)):=HR3.out.row
 obtain⟨cr,hcr⟩:=hrow3
 have HCR:=hi_ hcr
 obtain⟨zb,hzb⟩: ∃zb,zb=zs.map Prod.snd:=⟨_,rfl⟩
 have HZB:=hi_ hzb
 clear hn how3 hc3 hlay hcr hzb hE1 hE3 hl1
 go_wp2_with fail
 go_loopw [12,13,14,46] (fun _ _ _ iv wr=> ∃q:Nat,q<=n/\iv= .int .i64 q/\ExtT [r] [339] W3 wr/\Hid (RackR wr r gg (k+4) S (ws++wsOf (k+4) F addr (zb.take q)))) (fun _ _ _ iv _=> n - (intOf iv).toNat)
 case atStart=> exact⟨0,by omega,rfl,ExtT.refl _ _ _,by simpa [wsOf] using HR3⟩
 case round=>
  obtain⟨q,hq,rfl,hE,HRQ⟩:=hrel
  by_cases hlt:q < n
  ·have z1:(q:Int) < (n:Int):=by omega
   have ho:ES.Ow 158 wr (.slice p3 n c3) (zs.map (·.1)):=HO3.out.extT hE (fun y hy=> by simpa using HO3.out.ne HCR.out (by decide) y hy) (by decide)
   have hcs:=HC3.out.extT hE (fun y hy=> by simp at hy;subst hy;rw [d_ HCR.out];decide) (by decide)
   have haq:ArrR wr a r (k+4) F:=HA3.out.extT hE (by simpa using hra) (by decide)
   obtain⟨g3,o3,rfl⟩: ∃g o,p3=some ⟨g,o,none⟩:=by
    rcases ho.rd with ⟨_,h⟩ | ⟨g,o,c,h,_⟩
    ·have h3:=congrArg List.length h;simp at h3;have:=HN.out;rw [h3] at this;simp at this;omega
    ·simp only [Value.slice.injEq] at h;exact⟨g,o,h.1⟩
   obtain⟨z,hz⟩: ∃z,zs[q]? =some z:=⟨zs[q]'(by rw [<-HN.out];exact hlt),List.getElem?_eq_getElem _⟩
   have hcell:=dM_ ho.rd q z.1 (by simp [hz])
   obtain⟨y1,y2,y3⟩:=hcs z (List.mem_of_getElem? hz)
   have y4:=y3.1
   obtain⟨⟨px,nx,cx⟩,zbs⟩:=z
   simp only at y1 y2 y4 hcell
   subst y1
   have w1:IntKind.i64.wrap ((addr:Int)+(q:Int))=((addr+q:Nat):Int):=by rw [IntWalk.i64_in _ (by have:=HM.out;omega)];omega
   have hlen:(ws++wsOf (k+4) F addr (zb.take q)).length<=1000000:=by
    rw [List.length_append,eu_,List.length_take];omega
   have hput:=arput_c a r gg (k+4) S F (addr+q) _ _ zbs wr HRQ.out haq (by omega) hF hS (by have:=hzl.2;omega) (by have:=HM.out;have:=hzl.2;omega) y4 y2 hlen
   have hzb:zb[q]? =some zbs:=by rw [HZB.out,List.getElem?_map,hz];rfl
   have hws:=wsOf_take (k+4) F addr zb q (List.getElem?_eq_some_iff.1 hzb).1
   rw [(List.getElem?_eq_some_iff.1 hzb).2] at hws
   obtain⟨m,hm⟩: ∃m,m=addr+q:=⟨_,rfl⟩
   rw [<-hm] at w1 hput hws
   obtain⟨HPUT,HWS⟩:=h_2 hput hws
   clear ho hcs haq hz y3 y4 hlen hput hzb hws y2 hm
   go_wp2_with fail
   refine HPUT.out.mono ?_
   rintro e W5 ⟨rfl,hr5,hE5⟩
   have HR5:=hi_ hr5
   clear hr5
   have hE':=hE.trans hE5
   clear hE5 w1
   go_wp2_with fail
   go_roundw
   case rel=> exact⟨q+1,by omega,by go_num,hE',by rw [HWS.out,<-List.append_assoc];exact HR5⟩
   case measure=> simp [intOf];omega
  ·obtain rfl:q=n:=by omega
   have z1: ¬((q:Int) < (q:Int)):=by omega
   go_wp2
   go_ret
   refine⟨rfl,zb, ?_, ?_, ?_,(ExtT.of0 hE03).trans hE⟩
   ·rw [HZB.out];exact HLY.out
   ·intro z hz
    rw [HZB.out] at hz
    obtain⟨x,hx,rfl⟩:=List.mem_map.1 hz
    exact(HC3.out x hx).2.1
   ·have h:=HRQ.out
    rw [List.take_of_length_le (by rw [HZB.out,List.length_map,<-HN.out];exact Nat.le_refl _)] at h
    exact h
abbrev Slc:=Option Addr×Nat×Nat
abbrev Kno:=Int×List UInt8×Slc
def EK:Enc Kno where
 k:=3
 hk:=by decide
 enc x:= [.int .i64 x.1,.string ⟨x.2.1.toArray⟩,.slice x.2.2.1 x.2.2.2.1 x.2.2.2.2]
 len _:=rfl
 one _ v hv:=by simp at hv;rcases hv with rfl | rfl | rfl <;> rfl
theorem tiK:Ti Tryz.prog EK 175 48 (0,[],(none,0,0)):=Ti.mk' (z:= .agg #[.int .i64 0,.string ⟨#[]⟩,.slice none 0 0]) (by kernel_rfl) rfl
abbrev K0:Kno:=(0,[],(none,0,0))
theorem fo_ {g o n cap:Nat} {s:List Kno} (h:EK.Rd w (.slice (some ⟨g,o,none⟩) n cap) s) (i:Nat) (hi:i < s.length):
  w.cell? ⟨g,o+i*3,none⟩=some (.int .i64 (s.getD i K0).1)/\w.cell? ⟨g,o+i*3+1,none⟩=some (.string ⟨(s.getD i K0).2.1.toArray⟩)/\w.cell? ⟨g,o+i*3+2,none⟩=some (.slice (s.getD i K0).2.2.1 (s.getD i K0).2.2.2.1 (s.getD i K0).2.2.2.2):=by
 have e:s.getD i K0=s[i]:=by simp [List.getD,hi]
 rw [e]
 exact⟨h.cells i 0 hi (by decide),h.cells i 1 hi (by decide),h.cells i 2 hi (by decide)⟩
theorem set3 (A B:List Value) (x y z a b c:Value):(((A++(x::y::z::B)).set A.length a).set (A.length+1) b).set (A.length+2) c=A++(a::b::c::B):=by
 rw [List.set_append_right _ _ (Nat.le_refl _),Nat.sub_self,List.set_cons_zero,List.set_append_right _ _ (by omega),show A.length+1 - A.length=1 by omega,List.set_append_right _ _ (by omega),show A.length+2 - A.length=2 by omega]
 rfl
theorem flatK_set (L:List Kno) (k:Nat) (hk:k < L.length) (x:Kno):(((EK.flat L).set (k*3) (.int .i64 x.1)).set (k*3+1) (.string ⟨x.2.1.toArray⟩)).set (k*3+2) (.slice x.2.2.1 x.2.2.2.1 x.2.2.2.2)=EK.flat (L.set k x):=by
 have e:L=L.take k++L[k]::L.drop (k+1):=by rw [<-List.drop_eq_getElem_cons hk,List.take_append_drop]
 have hl:(EK.flat (L.take k)).length=k*3:=by rw [EK.length_flat,List.length_take,Nat.min_eq_left (by omega)];rfl
 have e2:EK.flat L=EK.flat (L.take k)++(.int .i64 L[k].1:: .string ⟨L[k].2.1.toArray⟩:: .slice L[k].2.2.1 L[k].2.2.2.1 L[k].2.2.2.2::EK.flat (L.drop (k+1))):=by
  conv=> lhs;rw [e]
  rw [EK.flat_append,EK.flat_cons];rfl
 rw [e2,<-hl,set3,List.set_eq_take_append_cons_drop,if_pos hk,EK.flat_append,EK.flat_cons]
 rfl
theorem eF_ {L:List Kno} (hg:w.heap[g]? =some (.cells (EK.flat L).toArray T (0,0))) (k:Nat) (hk:k < L.length) (x:Kno):
  (((w.setCell ⟨g,k*3,none⟩ (.int .i64 x.1)).setCell ⟨g,k*3+1,none⟩ (.string ⟨x.2.1.toArray⟩)).setCell ⟨g,k*3+2,none⟩ (.slice x.2.2.1 x.2.2.2.1 x.2.2.2.2)).heap[g]? =some (.cells (EK.flat (L.set k x)).toArray T (0,0)):=by
 rw [heap_setCell_same _ g _ _ _ _ (heap_setCell_same _ g _ _ _ _ (heap_setCell_same w g _ _ _ _ hg))]
 congr 2
 apply Array.ext'
 rw [<-flatK_set L k hk x]
 simp
def wr64 (x:Int):Int:=IntKind.i64.wrap x
theorem cq_ (a:Addr) (s:Int) (w:World) (hc:w.cell? a=some (.int .i64 s)) (hz:w.frozen? a=false):
  Calls Tryz.prog 107 #[.pointer (some a),.int .i64 1] w fun e w'=> e= .returned (.int .i64 (wr64 (s+1)))/\w'=w.setCell a (.int .i64 (wr64 (s+1))):=by
 have hadd:=run_call_add (P:=Tryz.prog) Tryz.func146 (by kernel_rfl) (by kernel_rfl) (by kernel_rfl) .i64 (by kernel_rfl) (y:=1) (s:=wr64 (s+1)) hc hz (by simp [go_sem,wr64])
 go_enter Tryz.func107,Tryz.ntmps107
 go_wp2
 go_ret
 exact⟨rfl,rfl⟩
theorem gg_ (x:Kno) (pc:Nat) (a:Int) (w:World) (hc:w.cell? ⟨pc,0,none⟩=some (.int .i64 a)):
  Calls Tryz.prog 91 #[.agg #[.int .i64 x.1,.string ⟨x.2.1.toArray⟩,.slice x.2.2.1 x.2.2.2.1 x.2.2.2.2],.pointer (some ⟨pc,0,none⟩)] w fun e w'=> e= .returned (.bool (x.1==a))/\Ext [] w w':=by
 have hc1:=((Ext.refl [] w).alloc (.cells #[.int .i64 x.1,.string ⟨x.2.1.toArray⟩,.slice x.2.2.1 x.2.2.2.1 x.2.2.2.2] 175)).cell hc (by simp)
 go_enter Tryz.func91,Tryz.ntmps91
 go_wp2
 go_ret
 exact⟨rfl,(Ext.refl _ _).alloc _⟩
def IdxPost (xs:List Kno) (a:Int) (w:World) (e:Ending) (w':World):Prop:=
 Ext [] w w'/\((e= .returned (.int .i64 (-1))/\ ∀x∈xs,x.1≠a)\/ ∃k:Nat,k < xs.length/\e= .returned (.int .i64 k)/\(xs.getD k K0).1=a/\ ∀x∈xs.take k,x.1≠a)
theorem idxf_c (v:Value) (xs:List Kno) (pc:Nat) (a:Int) (w:World) (hv:EK.Rd w v xs) (hl:xs.length<=1000000) (hc:w.cell? ⟨pc,0,none⟩=some (.int .i64 a)):
  Calls Tryz.prog 116 #[v,.func (.func 91) #[] #[.pointer (some ⟨pc,0,none⟩)]] w (IdxPost xs a w):=by
 obtain⟨p,cap,rfl,_⟩:=hv.len_eq
 obtain⟨HV,HC⟩:=h_2 hv hc
 obtain⟨n,hn⟩: ∃n,n=xs.length:=⟨_,rfl⟩
 rw [<-hn] at HV hl ⊢
 have HN:=hi_ hn
 clear hv hc hn
 go_enter Tryz.func116,Tryz.ntmps116
 go_wp2_with fail
 go_loopw [4,5,8] (fun _ _ iv wr=> ∃i:Nat,i<=n/\iv= .int .i64 i/\Ext [] w wr/\Hid (∀x∈xs.take i,x.1≠a)) (fun _ _ iv _=> n - (intOf iv).toNat)
 case atStart=> exact⟨0,Nat.zero_le _,rfl,Ext.refl _ _,hi_ (by simp)⟩
 case round=>
  obtain⟨i,hi,rfl,hE,HI⟩:=hrel
  by_cases hlt:i < n
  ·have z1:(i:Int) < (n:Int):=by omega
   obtain⟨g,o,rfl⟩: ∃g o,p=some ⟨g,o,none⟩:=by
    rcases HV.out with ⟨_,h⟩ | ⟨g,o,c,h,_⟩
    ·have:=HN.out;rw [h] at this;simp at this;omega
    ·simp only [Value.slice.injEq] at h;exact⟨g,o,h.1⟩
   obtain⟨m1,m2,m3⟩:=fo_ (HV.out.ext0 hE) i (by rw [<-HN.out];exact hlt)
   have HT:=hi_ (List.take_succ_eq_append_getElem (by rw [<-HN.out];exact hlt:i < xs.length))
   have hx:xs.getD i K0=xs[i]'(by rw [<-HN.out];exact hlt):=by simp [List.getD,show i < xs.length by rw [<-HN.out];exact hlt]
   have HX:=hi_ hx
   clear hx
   obtain⟨x,hx⟩: ∃x,x=xs.getD i K0:=⟨_,rfl⟩
   rw [<-hx] at m1 m2 m3 HX
   have HXX:=hi_ hx
   clear hx
   by_cases hxa:x.1=a
   all_goals
    have HXA:=hi_ hxa
    clear hxa
    go_wp2_with fail
    refine(gg_ x pc a _ (hE.cell HC.out (by simp))).mono ?_
    rintro e W1 ⟨rfl,hE1⟩
    have hE01:=hE.trans hE1
    clear m1 m2 m3 hE1 hE
   ·have hb:(x.1==a)=true:=by simp [HXA.out]
    rw [hb]
    clear hb
    go_wp2_with fail
    go_ret
    exact⟨hE01,.inr ⟨i,by rw [<-HN.out];exact hlt,rfl,by rw [<-HXX.out];exact HXA.out,HI.out⟩⟩
   ·have hb:(x.1==a)=false:=by simpa using HXA.out
    rw [hb]
    clear hb
    go_wp2_with fail
    go_roundw
    case rel=>
     refine⟨i+1,by omega,by go_num,hE01,hi_ ?_⟩
     rw [HT.out,<-HX.out]
     intro y hy
     rcases List.mem_append.1 hy with h | h
     ·exact HI.out y h
     ·simp at h;subst h;exact HXA.out
    case measure=> simp [intOf];omega
  ·obtain rfl:i=n:=by omega
   have z1: ¬((i:Int) < (i:Int)):=by omega
   go_wp2
   go_ret
   refine⟨hE,.inl ⟨rfl, ?_⟩⟩
   have h:=HI.out
   rw [List.take_of_length_le (by rw [<-HN.out];exact Nat.le_refl _)] at h
   exact h
theorem ea_ {f:Nat×Nat} {L:List Kno} (hg:w.heap[g]? =some (.cells (EK.flat L).toArray T f)) (k:Nat) (hk:k < L.length):
  w.cell? ⟨g,k*3,none⟩=some (.int .i64 (L.getD k K0).1)/\w.cell? ⟨g,k*3+1,none⟩=some (.string ⟨(L.getD k K0).2.1.toArray⟩)/\w.cell? ⟨g,k*3+2,none⟩=some (.slice (L.getD k K0).2.2.1 (L.getD k K0).2.2.2.1 (L.getD k K0).2.2.2.2):=by
 have hr:EK.Rd w (.slice (some ⟨g,0,none⟩) L.length L.length) L:= .inr ⟨g,0,L.length,rfl,Nat.le_refl _,g_ hg,fun j u hj=> by rw [cell_of_row _ g _ _ _ _ hg];simp at hj ⊢;exact hj⟩
 have h:=fo_ hr k hk
 simpa using h
theorem win_put (L:List Kno) (q i:Nat) (x:Kno) (h:q+i < L.length):((L.set (q+i) x).drop q).take (i+1)=(L.drop q).take i++ [x]:=by
 rw [List.take_succ_eq_append_getElem (by simp;omega)]
 congr 1
 ·apply List.ext_getElem?
  intro t
  simp only [List.getElem?_take,List.getElem?_drop,List.getElem?_set]
  by_cases ht:t < i
  ·rw [if_pos ht,if_pos ht,if_neg (by omega)]
  ·rw [if_neg ht,if_neg ht]
 ·simp
structure Sift (l L xs:List Kno) (q i j:Nat) (a:Int):Prop where
 len:L.length=l.length
 same: ∀t,t < q\/q+j<=t->L[t]? =l[t]?
 win:(L.drop q).take i=(xs.take j).filter (fun x=> !(x.1==a))
theorem Sift.skip {l L xs:List Kno} {q i j:Nat} {a:Int} (h:Sift l L xs q i j a) (hj:j < xs.length) (hx:(xs.getD j K0).1=a):Sift l L xs q i (j+1) a:=by
 refine⟨h.len,fun t ht=> h.same t (by omega), ?_⟩
 rw [h.win,List.take_succ_eq_append_getElem hj,List.filter_append]
 have e:xs.getD j K0=xs[j]:=by simp [List.getD,hj]
 rw [e] at hx
 simp [hx]
theorem Sift.keep {l L xs:List Kno} {q i j:Nat} {a:Int} (h:Sift l L xs q i j a) (hj:j < xs.length) (hq:q+xs.length<=l.length) (hij:i < j) (hx: ¬(xs.getD j K0).1=a):Sift l (L.set (q+i) (xs.getD j K0)) xs q (i+1) (j+1) a:=by
 have e:xs.getD j K0=xs[j]:=by simp [List.getD,hj]
 refine⟨by rw [List.length_set];exact h.len,fun t ht=> ?_, ?_⟩
 ·rw [List.getElem?_set_ne (by omega)]
  exact h.same t (by omega)
 ·rw [win_put _ _ _ _ (by rw [h.len];omega),h.win,List.take_succ_eq_append_getElem hj,List.filter_append]
  rw [e] at hx ⊢
  simp [hx]
def DelPost (v:Value) (xs:List Kno) (a:Int) (w:World) (e:Ending) (w':World):Prop:=
 ∃v',e= .returned v'/\EK.Ow 175 w' v' (xs.filter (fun x=> !(x.1==a)))/\Ext (blkL v) w w'/\ ∀g∈blkL v',g∈blkL v
theorem delf_c (v:Value) (xs:List Kno) (pc:Nat) (a:Int) (w:World) (hv:EK.Ow 175 w v xs) (hl:xs.length<=1000000) (hc:w.cell? ⟨pc,0,none⟩=some (.int .i64 a)) (hp: ∀g∈blkL v,g≠pc):
  Calls Tryz.prog 90 #[v,.func (.func 91) #[] #[.pointer (some ⟨pc,0,none⟩)]] w (DelPost v xs a w):=by
 have HV:=hi_ hv
 have hidx:=idxf_c v xs pc a w hv.rd hl hc
 rcases hv with ⟨rfl,rfl⟩ | ⟨g,q,cap,l,rfl,hg,h1,h2,h3⟩
 ·go_enter Tryz.func90,Tryz.ntmps90
  go_wp2_with fail
  refine hidx.mono ?_
  rintro e W1 ⟨hE,⟨rfl, -⟩ | ⟨k,h,_⟩⟩
  ·go_wp2
   go_ret
   exact⟨_,rfl,.inl ⟨rfl,rfl⟩,hE.nil,fun g h=> h⟩
  ·simp at h
 ·have HI:=hi_ hidx
  have HC:=hi_ hc
  have hpg:g≠pc:=hp g (by simp [blkL])
  obtain⟨HG,H3⟩:=h_2 hg h3
  obtain⟨n,hn⟩: ∃n,n=xs.length:=⟨_,rfl⟩
  have HN:=hi_ hn
  rw [<-hn] at hl h1 ⊢
  have hgl:=g_ hg
  clear hidx hc hp hg h3 hn
  have e3:EK.k=3:=rfl
  rw [e3]
  go_enter Tryz.func90,Tryz.ntmps90
  go_wp2_with fail
  have hidx:=HI.out
  rw [<-HN.out,e3] at hidx
  refine hidx.mono ?_
  clear hidx e3
  rintro e W1 ⟨hE1,⟨rfl,hno⟩ | ⟨k,hk,rfl,hka,hno⟩⟩
  ·have HNo:=hi_ hno
   clear hno
   go_wp2
   go_ret
   refine⟨_,rfl, ?_,hE1.nil,fun g h=> h⟩
   rw [List.filter_eq_self.2 (fun x hx=> by simpa using HNo.out x hx)]
   have h:=HV.out.ext0 hE1
   rw [<-HN.out] at h
   exact h
  ·rw [<-HN.out] at hk
   obtain⟨HNo,HKA⟩:=h_2 hno hka
   have z0: ¬((k:Int)= -1):=by omega
   have z1:((k:Int)== -1)=false:=beq_eq_false_iff_ne.2 (by omega)
   have hg1:=hE1.blk HG.out (by simp)
   have HG1:=hi_ hg1
   have hS:Sift l l xs q k (k+1) a:=by
    refine⟨rfl,fun _ _=> rfl, ?_⟩
    have hkx:k < xs.length:=by rw [<-HN.out];exact hk
    rw [List.take_succ_eq_append_getElem hkx,List.filter_append,List.filter_eq_self.2 (fun x hx=> by simpa using HNo.out x hx)]
    have e:xs.getD k K0=xs[k]:=by simp [List.getD,hkx]
    have hka:=HKA.out
    rw [e] at hka
    have h4:=congrArg (List.take k) H3.out
    rw [List.take_take,Nat.min_eq_left (by omega)] at h4
    simp [hka,h4]
   have HS:=hi_ hS
   clear hno hka hg1 hS
   go_wp2_with fail
   go_loopw [5,6,7] (fun iv jv _ wr=> ∃(i j:Nat) (L:List Kno),j<=n/\i < j/\iv= .int .i64 i/\jv= .int .i64 j/\Ext [g] W1 wr/\Hid (wr.heap[g]? =some (.cells (EK.flat L).toArray 175 (0,0)))/\Hid (Sift l L xs q i j a)) (fun _ jv _ _=> n - (intOf jv).toNat)
   case atStart=> exact⟨k,k+1,l,by omega,by omega,rfl,by go_num,Ext.refl _ _,HG1,HS⟩
   case round=>
    obtain⟨i,j,L,hj,hij,rfl,rfl,hE,HL,HSf⟩:=hrel
    have hll:L.length=l.length:=HSf.out.len
    by_cases hlt:j < n
    ·have z2:(j:Int) < (n:Int):=by omega
     obtain⟨m1,m2,m3⟩:=ea_ HL.out (q+j) (by omega)
     have hx:L.getD (q+j) K0=xs.getD j K0:=by
      rw [List.getD_eq_getElem?_getD,List.getD_eq_getElem?_getD,HSf.out.same _ (by omega)]
      have h4:=congrArg (fun z:List Kno=> z[j]?) H3.out
      simp only [List.getElem?_take,List.getElem?_drop] at h4
      rw [<-HN.out,if_pos hlt] at h4
      rw [h4]
     rw [hx,Nat.add_mul] at m1 m2 m3
     clear hx
     obtain⟨x,hx⟩: ∃x,x=xs.getD j K0:=⟨_,rfl⟩
     have HX:=hi_ hx
     rw [<-hx] at m1 m2 m3
     clear hx
     have z3: ¬cap=j:=by omega
     have z4: ¬cap=i:=by omega
     have hpl:wr.cell? ⟨pc,0,none⟩=some (.int .i64 a):=(hE1.nil.trans hE).cell HC.out (by simpa using fun h=> hpg h.symm)
     have HP:=hi_ hpl
     clear hpl
     by_cases hxa:x.1=a
     all_goals
      have HXA:=hi_ hxa
      clear hxa
      go_wp2_with fail
      have hEb:Ext [] wr (wr.alloc (.cells #[.int .i64 x.1,.string ⟨x.2.1.toArray⟩,.slice x.2.2.1 x.2.2.2.1 x.2.2.2.2] 175)):=(Ext.refl [] _).alloc _
      refine(gg_ x pc a _ (hEb.cell HP.out (by simp))).mono ?_
      rintro e W2 ⟨rfl,hE2⟩
      have hEb2:=hEb.trans hE2
      have hE02:Ext [g] W1 W2:=hE.trans (hEb2.nil)
      have hgb:=heap_alloc_new wr (.cells #[.int .i64 x.1,.string ⟨x.2.1.toArray⟩,.slice x.2.2.1 x.2.2.2.1 x.2.2.2.2] 175)
      have hb2:=hE2.blk hgb (by simp)
      have k1:W2.cell? ⟨wr.heap.size,0,none⟩=some (.int .i64 x.1):=by rw [cell_of_row W2 _ 0 _ _ _ hb2];rfl
      have k2:W2.cell? ⟨wr.heap.size,1,none⟩=some (.string ⟨x.2.1.toArray⟩):=by rw [cell_of_row W2 _ 1 _ _ _ hb2];rfl
      have k3:W2.cell? ⟨wr.heap.size,2,none⟩=some (.slice x.2.2.1 x.2.2.2.1 x.2.2.2.2):=by rw [cell_of_row W2 _ 2 _ _ _ hb2];rfl
      have hg2:=hEb2.blk HL.out (by simp)
      have HG2:=hi_ hg2
      clear m1 m2 m3 hE2 hEb hEb2 hE hgb hb2 hg2
     ·have hb:(x.1==a)=true:=by simp [HXA.out]
      rw [hb]
      clear hb
      go_wp2_with fail
      go_roundw
      case rel=> exact⟨i,j+1,L,by omega,by omega,rfl,by go_num,hE02,HG2,hi_ (HSf.out.skip (by rw [<-HN.out];exact hlt) (by rw [<-HX.out];exact HXA.out))⟩
      case measure=> simp [intOf];omega
     ·have hb:(x.1==a)=false:=by simpa using HXA.out
      rw [hb]
      clear hb
      obtain⟨o1,o2,o3⟩:=ea_ HG2.out (q+i) (by omega)
      rw [Nat.add_mul] at o1 o2 o3
      have hfz: ∀j,W2.frozen? ⟨g,j,none⟩=false:=fun j=> frozen_of_row _ _ _ _ _ HG2.out
      have hne: ¬(g=wr.heap.size):=by have:=g_ HL.out;omega
      go_wp2_with fail
      go_roundw
      case rel=>
       have hs3:=eF_ HG2.out (q+i) (by omega) x
       rw [Nat.add_mul] at hs3
       exact⟨i+1,j+1,_,by omega,by omega,by go_num,by go_num,((hE02.setCell (.inl (by simp)) _).setCell (.inl (by simp)) _).setCell (.inl (by simp)) _,hi_ hs3,hi_ (by
        have h:=HSf.out.keep (by rw [<-HN.out];exact hlt) (by rw [<-HN.out];omega) hij (by rw [<-HX.out];exact HXA.out)
        rw [<-HX.out] at h
        exact h)⟩
      case measure=> simp [intOf];omega
    ·obtain rfl:j=n:=by omega
     have z2: ¬((j:Int) < (j:Int)):=by omega
     have z4: ¬cap=i:=by omega
     have z5:(i:Int)<=(j:Int):=by omega
     have z6:(i:Int)<=(cap:Int):=by omega
     go_wp2_with (with_reducible refine P_ ?_)
     refine k_ rfl fun K hK=> Z_ (E:=EK) (T:=175) (zero:=K0) (bytes:=48) (g:=g) (q:=q+i) (l:=L) tiK Tryz.underlying110 rfl rfl HL.out ?_ (by omega) ?_
     ·intro hpos
      simp [Nat.add_mul,EK]
     intro w3 hb3 hext3
     have hE3:=hE.trans hext3
     have HB3:=hi_ hb3
     clear hb3 hext3
     refine hK _ _ ?_
     clear hK
     go_wp2
     go_ret
     have hlen:(xs.filter (fun x=> !(x.1==a))).length=i:=by
      have h:=HSf.out.win
      rw [List.take_of_length_le (l:=xs) (by rw [<-HN.out];exact Nat.le_refl _)] at h
      rw [<-h]
      simp
      omega
     refine⟨_,rfl,.inr ⟨g,q,cap,_,by rw [hlen];rfl,HB3.out,by omega,by rw [length_splice _ _ _ (by simp;omega)];omega, ?_⟩,hE1.nil.trans hE3,fun x hx=> by simpa [blkL] using hx⟩
     rw [hlen]
     have h:=HSf.out.win
     rw [List.take_of_length_le (l:=xs) (by rw [<-HN.out];exact Nat.le_refl _)] at h
     rw [<-h]
     apply List.ext_getElem?
     intro t
     simp only [List.getElem?_take,List.getElem?_drop]
     by_cases ht:t < i
     ·rw [if_pos ht,if_pos ht,splice,List.getElem?_append_left (by simp;omega),List.getElem?_take,if_pos (by omega)]
     ·rw [if_neg ht,if_neg ht]
structure Sto where
 txg:Int
 mem:List (Int×List UInt8×List UInt8)
 gets:Int
 hits:Int
 reads:Int
 heals:Int
 puts:Int
def fH_ (a sp:Nat) (mv:Value) (s:Sto):Array Value:=#[.pointer (some ⟨a,0,none⟩),.pointer (some ⟨sp,0,none⟩),.int .i64 s.txg,mv,.int .i64 s.gets,.int .i64 s.hits,.int .i64 s.reads,.int .i64 s.heals,.int .i64 s.puts]
def MemR (w:World) (mv:Value) (ks:List (Int×List UInt8×List UInt8)):Prop:= ∃zs:List (Kno×List UInt8),EK.Ow 175 w mv (zs.map (·.1))/\
 (∀z∈zs,EB.Ow 5 w (.slice z.1.2.2.1 z.1.2.2.2.1 z.1.2.2.2.2) z.2)/\ks=zs.map (fun z=> (z.1.1,z.1.2.1,z.2))
def StoRm (w:World) (b a sp:Nat) (mv:Value) (s:Sto):Prop:=w.heap[b]? =some (.cells (fH_ a sp mv s) 117 (0,0))/\MemR w mv s.mem/\ ∀y∈blkL mv,b<=y
def StoR (w:World) (b a sp:Nat) (s:Sto):Prop:= ∃mv,StoRm w b a sp mv s
theorem MemR.extT {mv:Value} {ks:List (Int×List UInt8×List UInt8)} (h:MemR w mv ks) (he:ExtT bs Ts w w') (ht: ∀y∈bs,r_ w y≠some 175/\r_ w y≠some 5) (h1:175∉Ts) (h2:5∉Ts):MemR w' mv ks:=by
 obtain⟨zs,a1,a2,a3⟩:=h
 refine⟨zs,a1.extT he (fun y hy hy2=> ?_) h1,fun z hz=> (a2 z hz).extT he (fun y hy hy2=> ?_) h2,a3⟩
 ·obtain⟨c,hc⟩:=a1.tag y hy
  exact(ht y hy2).1 (d_ hc)
 ·obtain⟨c,hc⟩:=(a2 z hz).tag y hy
  exact(ht y hy2).2 (d_ hc)
theorem MemR.ext0 {mv:Value} {ks:List (Int×List UInt8×List UInt8)} (h:MemR w mv ks) (he:Ext [] w w'):MemR w' mv ks:=
 h.extT (bs:= []) (Ts:= []) (.of0 he) (by simp) (by simp) (by simp)
theorem StoR.extT {b a sp:Nat} {s:Sto} (h:StoR w b a sp s) (he:ExtT bs Ts w w') (hb:b∉bs) (ht: ∀y∈bs,r_ w y≠some 175/\r_ w y≠some 5) (h1:175∉Ts) (h2:5∉Ts) (h3:117∉Ts):StoR w' b a sp s:=by
 obtain⟨mv,a1,a2,a3⟩:=h
 exact⟨mv,he.blk a1 hb h3,a2.extT he ht h1 h2,a3⟩
theorem StoR.ext0 {b a sp:Nat} {s:Sto} (h:StoR w b a sp s) (he:Ext [] w w'):StoR w' b a sp s:=h.extT (bs:= []) (Ts:= []) (.of0 he) (by simp) (by simp) (by simp) (by simp) (by simp)
theorem StoR.tag {b a sp:Nat} {s:Sto} (h:StoR w b a sp s):r_ w b=some 117:=by obtain⟨mv,a1,_⟩:=h;exact d_ a1
def aW_ (m:List (Int×List UInt8×List UInt8)) (x:Int):List (Int×List UInt8×List UInt8):=m.filter (fun k=> !(k.1==x))
theorem hG_ (b a sp:Nat) (mv:Value) (s:Sto) (x:Int) (w:World) (h:StoRm w b a sp mv s) (hl:s.mem.length<=1000000):
  Calls Tryz.prog 60 #[.pointer (some ⟨b,0,none⟩),.int .i64 x] w fun e w'=> e= .returned (.tuple #[])/\ ∃mv',StoRm w' b a sp mv' {s with mem:=aW_ s.mem x}/\Ext (b::blkL mv) w w'/\ ∀y∈blkL mv',y∈blkL mv:=by
 obtain⟨hb,⟨zs,a1,a2,a3⟩,hlow⟩:=h
 have HLOW:=hi_ hlow
 clear hlow
 have c3:w.cell? ⟨b,3,none⟩=some mv:=by rw [cell_of_row w b 3 _ _ _ hb];rfl
 obtain⟨HB,H1,H2,H3⟩:=h_4 hb a1 a2 a3
 have hbl:=g_ hb
 have hzl:(zs.map (·.1)).length<=1000000:=by rw [a3] at hl;simpa using hl
 have HZ:=hi_ hzl
 clear hb a1 a2 a3 hl hzl
 have c3':=((Ext.refl [] w).alloc (.cells #[.int .i64 x] 3)).cell c3 (by simp)
 have hEb:=(Ext.refl [] w).alloc (.cells #[.int .i64 x] 3)
 go_enter Tryz.func60,Tryz.ntmps60
 go_wp2_with fail
 refine(delf_c mv _ w.heap.size x _ (H1.out.ext0 hEb) HZ.out (by rw [cell_of_row _ _ 0 _ _ _ (heap_alloc_new w _)];rfl) (fun g hg=> by have:=H1.out.lt g hg;omega)).mono ?_
 rintro e W1 ⟨v',rfl,how,hE1,hsub⟩
 have hE01:Ext (blkL mv) w W1:=hEb.nil.trans hE1
 have hbn: ∀y∈blkL mv,y≠b:=H1.out.ne HB.out (by decide)
 have hb1:=hE01.blk HB.out (fun h=> hbn b h rfl)
 have hfz: ∀j,W1.frozen? ⟨b,j,none⟩=false:=fun j=> frozen_of_row _ _ _ _ _ hb1
 have c31:=hE01.cell c3 (fun h=> hbn b h rfl)
 have HB1:=hi_ hb1
 obtain⟨p',c',rfl,_⟩:=how.rd.len_eq
 obtain⟨n',hn'⟩: ∃n,n=((zs.map (·.1)).filter (fun x_1=> !(x_1.1==x))).length:=⟨_,rfl⟩
 rw [<-hn'] at how hsub ⊢
 have HO:=hi_ how
 clear hb1 how hn' c3 c3' hEb hE1
 go_wp2
 go_end0
 have hE2:Ext [b] W1 (W1.setCell ⟨b,3,none⟩ (.slice p' n' c')):=(Ext.refl [b] W1).setCell (.inl (by simp)) _
 have hb2:=heap_setCell_same W1 b 3 _ _ (.slice p' n' c') HB1.out
 refine⟨rfl,_,⟨hb2,⟨zs.filter (fun z=> !(z.1.1==x)), ?_, ?_, ?_⟩,fun y hy=> HLOW.out y (hsub y hy)⟩,(hE01.mono (fun y hy=> .inl (by simp [hy]))).trans (hE2.mono (by simp)),hsub⟩
 ·have h:=HO.out
  rw [List.filter_map] at h
  exact h.ext hE2 (fun y hy=> by simpa using h.ne HB1.out (by decide) y hy)
 ·intro z hz
  have h:=H2.out z (List.mem_filter.1 hz).1
  refine(h.ext hE01 (fun y hy hy2=> ?_)).ext hE2 (fun y hy=> ?_)
  ·obtain⟨c,hc⟩:=h.tag y hy
   obtain⟨c',hc'⟩:=H1.out.tag y hy2
   rw [hc] at hc'
   simp only [Option.some.injEq,Obj.cells.injEq] at hc'
   exact absurd hc'.2.1 (by decide)
  ·simpa using h.ne HB.out (by decide) y hy
 ·show aW_ s.mem x=_
  rw [H3.out,aW_,List.filter_map]
  rfl
theorem StoRm.frame {b a sp:Nat} {mv:Value} {s:Sto} (h:StoRm w b a sp mv s) (he:Ext (b::blkL mv) w w'):ExtT [b] [175] w w':=by
 obtain⟨_,⟨zs,a1,_⟩,hlow⟩:=h
 refine ExtT.of he (fun y hy=> ?_)
 rcases List.mem_cons.1 hy with h | h
 ·exact .inl (by simp [h])
 ·obtain⟨c,hc⟩:=a1.tag y h
  exact .inr (.inl ⟨_,by simp,d_ hc,b,by simp,hlow y h⟩)
theorem forget_c (b a sp:Nat) (s:Sto) (x:Int) (w:World) (h:StoR w b a sp s) (hl:s.mem.length<=1000000):
  Calls Tryz.prog 60 #[.pointer (some ⟨b,0,none⟩),.int .i64 x] w fun e w'=> e= .returned (.tuple #[])/\StoR w' b a sp {s with mem:=aW_ s.mem x}/\ExtT [b] [175] w w':=by
 obtain⟨mv,h⟩:=h
 refine(hG_ b a sp mv s x w h hl).mono ?_
 rintro e w' ⟨rfl,mv',h1,h2,_⟩
 exact⟨rfl,⟨mv',h1⟩,h.frame h2⟩
theorem StoRm.ext0 {b a sp:Nat} {mv:Value} {s:Sto} (h:StoRm w b a sp mv s) (he:Ext [] w w'):StoRm w' b a sp mv s:=⟨he.blk h.1 (by simp),h.2.1.ext0 he,h.2.2⟩
theorem StoRm.lt {b a sp:Nat} {mv:Value} {s:Sto} (h:StoRm w b a sp mv s):b < w.heap.size/\ ∀y∈blkL mv,y < w.heap.size:=by
 obtain⟨a1,⟨zs,a2,_⟩,_⟩:=h
 exact⟨g_ a1,a2.lt⟩
abbrev Mno:=Int×List UInt8×List UInt8
def hitB (a size:Int) (sum:List UInt8) (k:Mno):Bool:=k.1==a && (k.2.1==sum && ((k.2.2.length:Int)==size))
def kagg (x:Kno):Value:= .agg #[.int .i64 x.1,.string ⟨x.2.1.toArray⟩,.slice x.2.2.1 x.2.2.2.1 x.2.2.2.2]
def RecPost (m:List Mno) (a size:Int) (sum:List UInt8) (w:World) (e:Ending) (w':World):Prop:=
 Ext [] w w'/\((m.find? (hitB a size sum)=none/\e= .returned (.tuple #[.agg #[.int .i64 0,.string ⟨#[]⟩,.slice none 0 0],.bool false]))\/
  ∃(x:Kno) (bs:List UInt8),m.find? (hitB a size sum)=some (x.1,x.2.1,bs)/\EB.Ow 5 w (.slice x.2.2.1 x.2.2.2.1 x.2.2.2.2) bs/\e= .returned (.tuple #[kagg x,.bool true]))
theorem hs_ (b a sp:Nat) (s:Sto) (pa size birth:Int) (sum:List UInt8) (w:World) (h:StoR w b a sp s) (hl:s.mem.length<=1000000):
  Calls Tryz.prog 117 #[.pointer (some ⟨b,0,none⟩),.agg #[.int .i64 pa,.int .i64 size,.int .i64 birth,.string ⟨sum.toArray⟩]] w (RecPost s.mem pa size sum w):=by
 obtain⟨mv,hb,⟨zs,a1,a2,a3⟩,_⟩:=h
 obtain⟨p,cap,rfl,_⟩:=a1.rd.len_eq
 have c3:w.cell? ⟨b,3,none⟩=some (.slice p (zs.map (·.1)).length cap):=by rw [cell_of_row w b 3 _ _ _ hb];rfl
 obtain⟨n,hn⟩: ∃n,n=(zs.map (·.1)).length:=⟨_,rfl⟩
 have HN:=hi_ hn
 have hl2:n<=1000000:=by rw [hn];rw [a3] at hl;simpa using hl
 rw [<-hn] at c3 a1
 obtain⟨H1,H2,H3⟩:=h_3 a1 a2 a3
 have hEa:Ext [] w ((w.alloc (.cells #[.int .i64 pa,.int .i64 size,.int .i64 birth,.string ⟨sum.toArray⟩] 34)).alloc (.cells #[.int .i64 0,.string ⟨#[]⟩,.slice none 0 0] 175)):=((Ext.refl [] w).alloc _).alloc _
 have c31:=hEa.cell c3 (by simp)
 clear hb a1 a2 a3 hl hn c3
 go_enter Tryz.func117,Tryz.ntmps117
 go_wp2_with fail
 have hg3:=heap_alloc_new w (.cells #[.int .i64 pa,.int .i64 size,.int .i64 birth,.string ⟨sum.toArray⟩] 34)
 have hg4:=heap_alloc_new (w.alloc (.cells #[.int .i64 pa,.int .i64 size,.int .i64 birth,.string ⟨sum.toArray⟩] 34)) (.cells #[.int .i64 0,.string ⟨#[]⟩,.slice none 0 0] 175)
 have hg3':=((Ext.refl [] (w.alloc (.cells #[.int .i64 pa,.int .i64 size,.int .i64 birth,.string ⟨sum.toArray⟩] 34))).alloc (.cells #[.int .i64 0,.string ⟨#[]⟩,.slice none 0 0] 175)).blk hg3 (by simp)
 have e4:(w.alloc (.cells #[.int .i64 pa,.int .i64 size,.int .i64 birth,.string ⟨sum.toArray⟩] 34)).heap.size=w.heap.size+1:=by simp
 rw [e4] at hg4
 clear e4
 revert hEa hg4 hg3'
 generalize World.alloc (World.alloc _ _) _=W1
 intro hEa hg4 hg3'
 have l1:=g_ hg4
 obtain⟨p3,hp3⟩: ∃p,p=w.heap.size:=⟨_,rfl⟩
 obtain⟨HG3,HG4⟩:=h_2 hg3' hg4
 rw [<-hp3] at HG3 HG4 l1
 simp only [<-hp3]
 have lp3:w.heap.size<=p3+1:=by omega
 clear hg3 hg3' hg4 c31 hp3
 go_loopw [5,7,13] (fun _ _ iv wr=> ∃i:Nat,i<=n/\iv= .int .i64 i/\Ext [] W1 wr/\Hid ((zs.take i).find? (fun z=> hitB pa size sum (z.1.1,z.1.2.1,z.2))=none)) (fun _ _ iv _=> n - (intOf iv).toNat)
 case atStart=> exact⟨0,Nat.zero_le _,rfl,Ext.refl _ _,hi_ (by simp)⟩
 case round=>
  obtain⟨i,hi,rfl,hE,HI⟩:=hrel
  by_cases hlt:i < n
  ·have z1:(i:Int) < (n:Int):=by omega
   obtain⟨g,o,rfl⟩: ∃g o,p=some ⟨g,o,none⟩:=by
    rcases H1.out.rd with ⟨_,h⟩ | ⟨g,o,c,h,_⟩
    ·have:=HN.out;rw [h] at this;simp at this;omega
    ·simp only [Value.slice.injEq] at h;exact⟨g,o,h.1⟩
   have hE0:=hEa.trans hE
   have hil:i < zs.length:=by have:=HN.out;simp at this;omega
   obtain⟨m1,m2,m3⟩:=fo_ (H1.out.rd.ext0 hE0) i (by rw [<-HN.out];exact hlt)
   obtain⟨z,hz⟩: ∃z,z=zs[i]:=⟨_,rfl⟩
   have hx:(zs.map (·.1)).getD i K0=z.1:=by simp [List.getD,hil,hz]
   rw [hx] at m1 m2 m3
   have h2:=H2.out z (by rw [hz];exact List.getElem_mem _)
   obtain⟨pz,cz,ez,_⟩:=h2.rd.len_eq
   have HT:=hi_ (List.take_succ_eq_append_getElem hil)
   obtain⟨HZ,HZ2⟩:=h_2 hz h2
   clear hx h2 hz
   obtain⟨⟨za,zsum,zp,zn,zc⟩,zb⟩:=z
   simp only [Value.slice.injEq] at ez m1 m2 m3
   obtain⟨rfl,rfl,rfl⟩:=ez
   have q0:=hE.cell (show W1.cell? ⟨p3,0,none⟩=some (.int .i64 pa) by rw [cell_of_row W1 p3 0 _ _ _ HG3.out];rfl) (by simp)
   have q1:=hE.cell (show W1.cell? ⟨p3,1,none⟩=some (.int .i64 size) by rw [cell_of_row W1 p3 1 _ _ _ HG3.out];rfl) (by simp)
   have q3:=hE.cell (show W1.cell? ⟨p3,3,none⟩=some (.string ⟨sum.toArray⟩) by rw [cell_of_row W1 p3 3 _ _ _ HG3.out];rfl) (by simp)
   have hEb:=(Ext.refl [] wr).alloc (.cells #[.int .i64 za,.string ⟨zsum.toArray⟩,.slice zp zb.length zc] 175)
   have q01:=hEb.cell q0 (by simp)
   have q11:=hEb.cell q1 (by simp)
   have q31:=hEb.cell q3 (by simp)
   clear q0 q1 q3
   have HL4:=hi_ (hE.blk HG4.out (by simp))
   have hstep:hitB pa size sum (za,zsum,zb)=false->Hid ((zs.take (i+1)).find? (fun z=> hitB pa size sum (z.1.1,z.1.2.1,z.2))=none):=fun h=> by
    refine hi_ ?_
    rw [HT.out,List.find?_append,HI.out,<-HZ.out]
    simp [h]
   have HST:=hi_ hstep
   have hEE:=hE.alloc (.cells #[.int .i64 za,.string ⟨zsum.toArray⟩,.slice zp zb.length zc] 175)
   clear hstep hEb hE hE0
   by_cases h1:za=pa
   ·have hb1:(za==pa)=true:=by simp [h1]
    have Hh1:=hi_ h1
    clear h1
    by_cases h2:zsum=sum
    ·subst h2
     by_cases h3:(zb.length:Int)=size
     ·have hb3:((zb.length:Int)==size)=true:=by simp [h3]
      have Hh3:=hi_ h3
      clear h3
      have hnb: ¬(p3+1=wr.heap.size):=by have:=g_ HL4.out;omega
      have hE4:=(Ext.refl [] wr).alloc (.cells #[.int .i64 za,.string ⟨zsum.toArray⟩,.slice zp zb.length zc] 175)
      have hb4:=hE4.blk HL4.out (by simp)
      have hfz: ∀j,(wr.alloc (.cells #[.int .i64 za,.string ⟨zsum.toArray⟩,.slice zp zb.length zc] 175)).frozen? ⟨p3+1,j,none⟩=false:=fun j=> frozen_of_row _ _ _ _ _ hb4
      have v0:(wr.alloc (.cells #[.int .i64 za,.string ⟨zsum.toArray⟩,.slice zp zb.length zc] 175)).cell? ⟨p3+1,0,none⟩=some (.int .i64 0):=by rw [cell_of_row _ _ 0 _ _ _ hb4];rfl
      have v1:(wr.alloc (.cells #[.int .i64 za,.string ⟨zsum.toArray⟩,.slice zp zb.length zc] 175)).cell? ⟨p3+1,1,none⟩=some (.string ⟨#[]⟩):=by rw [cell_of_row _ _ 1 _ _ _ hb4];rfl
      have v2:(wr.alloc (.cells #[.int .i64 za,.string ⟨zsum.toArray⟩,.slice zp zb.length zc] 175)).cell? ⟨p3+1,2,none⟩=some (.slice none 0 0):=by rw [cell_of_row _ _ 2 _ _ _ hb4];rfl
      obtain⟨HB4,HE4⟩:=h_2 hb4 hE4
      have h0:=hEa.trans hEE
      have HE0:=hi_ h0
      clear hE4 hb4 h0
      go_wp2_with fail
      have hs:=eF_ (L:= [K0]) HB4.out 0 (by decide) (za,zsum,zp,zb.length,zc)
      simp only [Nat.zero_mul,Nat.zero_add] at hs
      have hE9:=((HE0.out.setCell (p:=⟨p3+1,0,none⟩) (.inr lp3) (.int .i64 za)).setCell (p:=⟨p3+1,1,none⟩) (.inr lp3) (.string ⟨zsum.toArray⟩)).setCell (p:=⟨p3+1,2,none⟩) (.inr lp3) (.slice zp zb.length zc)
      have r0:=cell_of_row _ _ 0 _ _ _ hs
      have r1:=cell_of_row _ _ 1 _ _ _ hs
      have r2:=cell_of_row _ _ 2 _ _ _ hs
      simp only [EK,Enc.flat] at r0 r1 r2
      refine bodyPost_ret (v:= .tuple #[kagg (za,zsum,zp,zb.length,zc),.bool true]) (by simp [results,Tryz.results117,go_sem,r0,r1,r2,kagg]) rfl ?_
      refine⟨hE9,.inr ⟨(za,zsum,zp,zb.length,zc),zb, ?_,HZ2.out,rfl⟩⟩
      have h6:zs.find? (fun z=> hitB pa size zsum (z.1.1,z.1.2.1,z.2))=some ((za,zsum,zp,zb.length,zc),zb):=by
       refine List.find?_eq_some_iff_append.2 ⟨?_,zs.take i,zs.drop (i+1), ?_,fun a ha=> ?_⟩
       ·simp [hitB,Hh1.out,Hh3.out]
       ·rw [HZ.out,<-List.drop_eq_getElem_cons hil,List.take_append_drop]
       ·have h:=List.find?_eq_none.1 HI.out a ha
        simpa using h
      rw [H3.out,List.find?_map]
      have h5:(hitB pa size zsum ∘ fun z:Kno×List UInt8=> (z.1.1,z.1.2.1,z.2))=fun z=> hitB pa size zsum (z.1.1,z.1.2.1,z.2):=rfl
      rw [h5,h6]
      rfl
     ·have hb3:((zb.length:Int)==size)=false:=by simpa using h3
      have HM:=HST.out (by simp [hitB,hb1,hb3])
      clear h3
      go_wp2_with fail
      go_roundw
      case rel=> exact⟨i+1,by omega,by go_num,hEE,HM⟩
      case measure=> simp [intOf];omega
    ·have HM:=HST.out (by simp [hitB,h2])
     go_wp2_with fail
     go_roundw
     case rel=> exact⟨i+1,by omega,by go_num,hEE,HM⟩
     case measure=> simp [intOf];omega
   ·have hb1:(za==pa)=false:=by simpa using h1
    have HM:=HST.out (by simp [hitB,hb1])
    clear h1
    go_wp2_with fail
    go_roundw
    case rel=> exact⟨i+1,by omega,by go_num,hEE,HM⟩
    case measure=> simp [intOf];omega
  ·obtain rfl:i=n:=by omega
   have z1: ¬((i:Int) < (i:Int)):=by omega
   have hb4:=hE.blk HG4.out (by simp)
   have hfz: ∀j,wr.frozen? ⟨p3+1,j,none⟩=false:=fun j=> frozen_of_row _ _ _ _ _ hb4
   have v0:wr.cell? ⟨p3+1,0,none⟩=some (.int .i64 0):=by rw [cell_of_row _ _ 0 _ _ _ hb4];rfl
   have v1:wr.cell? ⟨p3+1,1,none⟩=some (.string ⟨#[]⟩):=by rw [cell_of_row _ _ 1 _ _ _ hb4];rfl
   have v2:wr.cell? ⟨p3+1,2,none⟩=some (.slice none 0 0):=by rw [cell_of_row _ _ 2 _ _ _ hb4];rfl
   have HB4:=hi_ hb4
   clear hb4
   have h0:=hEa.trans hE
   have HE0:=hi_ h0
   clear h0
   go_wp2
   have hs:=eF_ (L:= [K0]) HB4.out 0 (by decide) K0
   simp only [Nat.zero_mul,Nat.zero_add] at hs
   have hE9:=((HE0.out.setCell (p:=⟨p3+1,0,none⟩) (.inr lp3) (.int .i64 0)).setCell (p:=⟨p3+1,1,none⟩) (.inr lp3) (.string ⟨#[]⟩)).setCell (p:=⟨p3+1,2,none⟩) (.inr lp3) (.slice none 0 0)
   have r0:=cell_of_row _ _ 0 _ _ _ hs
   have r1:=cell_of_row _ _ 1 _ _ _ hs
   have r2:=cell_of_row _ _ 2 _ _ _ hs
   simp only [EK,Enc.flat] at r0 r1 r2
   refine bodyPost_ret (v:= .tuple #[.agg #[.int .i64 0,.string ⟨#[]⟩,.slice none 0 0],.bool false]) (by simp [results,Tryz.results117,go_sem,r0,r1,r2]) rfl ?_
   refine⟨hE9,.inl ⟨?_,rfl⟩⟩
   have h:=HI.out
   rw [List.take_of_length_le (by have:=HN.out;simp at this;omega)] at h
   rw [H3.out,List.find?_map]
   have h5:(hitB pa size sum ∘ fun z:Kno×List UInt8=> (z.1.1,z.1.2.1,z.2))=fun z=> hitB pa size sum (z.1.1,z.1.2.1,z.2):=rfl
   rw [h5,h]
   rfl
theorem delk_c (g q cap:Nat) (l xs:List Kno) (w:World) (hg:w.heap[g]? =some (.cells (EK.flat l).toArray 175 (0,0))) (hcap:xs.length<=cap) (hq:q+cap<=l.length) (hxs:(l.drop q).take xs.length=xs) (h2:2<=xs.length) (hl:xs.length<=1000000):
  Calls Tryz.prog 151 #[.slice (some ⟨g,q*3,none⟩) xs.length cap,.int .i64 0,.int .i64 1] w fun e w'=> ∃v',e= .returned v'/\EK.Ow 175 w' v' (xs.drop 1)/\Ext [g] w w'/\ ∀x∈blkL v',x=g:=by
 obtain⟨HG,HX⟩:=h_2 hg hxs
 have ekk:(xs.drop 1).length=xs.length - 1:=by simp
 obtain⟨n,hn⟩: ∃n,n=xs.length:=⟨_,rfl⟩
 have HN:=hi_ hn
 rw [<-hn] at hcap h2 hl ekk ⊢
 clear hg hxs hn
 have z0: ¬cap=1:=by omega
 have z1: ¬cap=0:=by omega
 have z2:(1:Int)<=(n:Int):=by omega
 have z3:(1:Int)<=(cap:Int):=by omega
 have z4:(0:Int)<=(cap:Int):=by omega
 have z5:1<=n:=by omega
 have z6:1<=cap:=by omega
 have hL1:(splice l (q+0) (xs.drop 1)).length=l.length:=length_splice _ _ _ (by omega)
 have hsrc: ∀W:World,W.heap[g]? =some (.cells (EK.flat l).toArray 175 (0,0))->EK.Rd W (.slice (some ⟨g,q*3+3,none⟩) (n - 1) (cap - 1)) (xs.drop 1):=by
  intro W hW
  refine .inr ⟨g,_,cap - 1,by rw [ekk],by rw [ekk];omega,g_ hW,fun j u hj=> ?_⟩
  rw [cell_of_row W g _ _ _ _ hW]
  have hj2:j < (n - 1)*3:=by have:=(List.getElem?_eq_some_iff.1 hj).1;rw [EK.length_flat,ekk] at this;exact this
  have e:EK.flat (xs.drop 1)=(EK.flat xs).drop 3:=EK.flat_drop xs 1
  have e2:EK.flat xs=((EK.flat l).drop (q*3)).take (n*3):=by
   have h:=congrArg EK.flat HX.out
   rw [EK.flat_take,EK.flat_drop,<-HN.out] at h
   exact h.symm
  rw [e,e2,List.getElem?_drop,List.getElem?_take,if_pos (by omega),List.getElem?_drop] at hj
  rw [<-hj]
  simp only [List.getElem?_toArray]
  congr 1;omega
 have HSRC:=hi_ hsrc
 clear hsrc
 have e3:EK.k=3:=rfl
 go_enter Tryz.func151,Tryz.ntmps151
 go_wp2_with fail
 go_region_law ((try simp only [Act.put,zA,zB,zC,List.setIfInBounds_toArray,zD,zE]);refine iw rfl ?_;refine(H_ (s:= .tmp 22) (x:= .tmp 25) (E:=EK) (T:=175) (zero:=K0) (bytes:=48) (g:=g) (q:=q) (n:=0) (l:=l) (ys:=xs.drop 1) tiK Tryz.underlying110 Tryz.underlying110 (by rfl) (by rfl) (by rfl) (by exact HG.out) (by exact HSRC.out _ HG.out) (by rw [ekk];omega) hq ?_);intro w2 hb2 hext2)
 have hE2:Ext [g] w w2:=(Ext.refl [g] w).drew.trans hext2
 have HB2:=hi_ hb2
 clear hb2 hext2
 have ek2:xs.length - 1=n - 1:=by rw [<-HN.out]
 simp only [ek2]
 go_wp2_with (with_reducible refine P_ ?_)
 refine k_ rfl fun K hK=> Z_ (E:=EK) (T:=175) (zero:=K0) (bytes:=48) (g:=g) (q:=q+(n - 1)) tiK Tryz.underlying110 rfl rfl HB2.out ?_ (by rw [hL1];omega) ?_
 ·intro hpos
  simp [Nat.add_mul,e3]
 intro w3 hb3 hext3
 have hE:Ext [g] w w3:=hE2.trans hext3
 have HB3:=hi_ hb3
 clear hb3 hext3
 refine hK _ _ ?_
 clear hK
 go_wp2
 go_ret
 refine⟨_,rfl,.inr ⟨g,q,cap,_,by rw [ekk];rfl,HB3.out,by rw [ekk];omega,by rw [length_splice _ _ _ (by rw [hL1];simp;omega),hL1];exact hq, ?_⟩,hE,fun x hx=> by simpa [blkL] using hx⟩
 rw [ekk]
 show win _ _ _=_
 apply List.ext_getElem?
 intro k
 have hx:=congrArg (fun(z:List Kno)=> z[1+k]?) HX.out
 simp only [List.getElem?_take,List.getElem?_drop] at hx
 rw [<-HN.out] at hx
 rw [v_,m_ _ _ _ _ (by rw [hL1];omega),m_ _ _ _ _ (by omega),List.getElem?_drop]
 rw [ekk]
 by_cases hk:k < n - 1
 ·rw [if_pos hk,if_pos (by omega),if_neg (by omega),if_pos (by omega),List.getElem?_drop]
  congr 1;omega
 ·rw [if_neg hk,List.getElem?_eq_none (by rw [ekk];omega)]
def remL (m:List Mno) (k:Mno):List Mno:=(aW_ m k.1++ [k]).drop ((aW_ m k.1++ [k]).length - 64)
theorem remL_big (m:List Mno) (k:Mno) (h:m.length<=64):remL m k=if 64 < (aW_ m k.1++ [k]).length then (aW_ m k.1++ [k]).drop 1 else aW_ m k.1++ [k]:=by
 have h1:(aW_ m k.1).length<=m.length:=List.length_filter_le _ _
 rw [remL]
 by_cases h2:64 < (aW_ m k.1++ [k]).length
 ·rw [if_pos h2]
  simp only [List.length_append,List.length_singleton] at h2 ⊢
  rw [show (aW_ m k.1).length+1 - 64=1 by omega]
 ·rw [if_neg h2,show (aW_ m k.1++ [k]).length - 64=0 by omega]
  rfl
theorem cj_ (m:List Mno) (k:Mno):(remL m k).length<=64:=by rw [remL,List.length_drop];omega
theorem one_rdK (W0:World) (x:Kno):EK.Rd (W0.alloc (.cells #[.int .i64 x.1,.string ⟨x.2.1.toArray⟩,.slice x.2.2.1 x.2.2.2.1 x.2.2.2.2] T)) (.slice (some ⟨W0.heap.size,0,none⟩) 1 1) [x]:=by
 refine .inr ⟨W0.heap.size,0,1,rfl,Nat.le_refl _,by simp,fun j u hj=> ?_⟩
 rw [cell_of_row _ W0.heap.size _ _ _ _ (heap_alloc_new _ _)]
 match j,hj with
 | 0,hj=> exact hj
 | 1,hj=> exact hj
 | 2,hj=> exact hj
 | j+3,hj=> simp [EK,Enc.flat] at hj
theorem ec_ (b a sp:Nat) (mv:Value) (s:Sto) (x:Kno) (bs:List UInt8) (w:World) (h:StoRm w b a sp mv s) (hl:s.mem.length<=64) (hx:EB.Ow 5 w (.slice x.2.2.1 x.2.2.2.1 x.2.2.2.2) bs):
  Calls Tryz.prog 109 #[.pointer (some ⟨b,0,none⟩),kagg x] w fun e w'=> e= .returned (.tuple #[])/\ ∃mv',StoRm w' b a sp mv' {s with mem:=remL s.mem (x.1,x.2.1,bs)}/\Ext (b::blkL mv) w w'/\ ∀y∈blkL mv',y∈blkL mv\/w.heap.size<=y:=by
 have HX:=hi_ hx
 have hEb:=(Ext.refl [] w).alloc (.cells #[.int .i64 x.1,.string ⟨x.2.1.toArray⟩,.slice x.2.2.1 x.2.2.2.1 x.2.2.2.2] 175)
 have hf:=hG_ b a sp mv s x.1 _ (h.ext0 hEb) (by omega)
 have HF:=hi_ hf
 obtain⟨hbl,hml⟩:=h.lt
 have hbx:=heap_alloc_new w (.cells #[.int .i64 x.1,.string ⟨x.2.1.toArray⟩,.slice x.2.2.1 x.2.2.2.1 x.2.2.2.2] 175)
 obtain⟨HH,HML⟩:=h_2 h hml
 clear h hx hf hml
 rw [kagg]
 go_enter Tryz.func109,Tryz.ntmps109
 go_wp2_with fail
 refine HF.out.mono ?_
 rintro e W1 ⟨rfl,mv1,hs1,hE1,hsub⟩
 have hx1:=hE1.blk hbx (fun h=> by
  rcases List.mem_cons.1 h with h | h
  ·omega
  ·have:=HML.out _ h;omega)
 have hE01:Ext (b::blkL mv) w W1:=hEb.nil.trans hE1
 obtain⟨hb1,⟨zs,a1,a2,a3⟩,hlow⟩:=hs1
 clear hlow
 obtain⟨p1,c1,rfl,_⟩:=a1.rd.len_eq
 obtain⟨n1,hn1⟩: ∃n,n=(zs.map (·.1)).length:=⟨_,rfl⟩
 have hn64:n1<=64:=by
  have h1:(aW_ s.mem x.1).length<=s.mem.length:=List.length_filter_le _ _
  have h2:=congrArg List.length a3
  simp at h2 hn1
  omega
 have HN:=hi_ hn1
 rw [<-hn1] at hb1 a1 hsub
 obtain⟨HB1,H1,H2,H3,HXB,HE01,HSUB⟩:=h_7 hb1 a1 a2 a3 hx1 hE01 hsub
 have k3:W1.cell? ⟨b,3,none⟩=some (.slice p1 n1 c1):=by rw [cell_of_row W1 b 3 _ _ _ hb1];rfl
 obtain⟨bx,hbxe⟩: ∃y,y=w.heap.size:=⟨_,rfl⟩
 rw [<-hbxe] at HXB
 simp only [<-hbxe]
 have j0:W1.cell? ⟨bx,0,none⟩=some (.int .i64 x.1):=by rw [cell_of_row W1 bx 0 _ _ _ HXB.out];rfl
 have j1:W1.cell? ⟨bx,1,none⟩=some (.string ⟨x.2.1.toArray⟩):=by rw [cell_of_row W1 bx 1 _ _ _ HXB.out];rfl
 have j2:W1.cell? ⟨bx,2,none⟩=some (.slice x.2.2.1 x.2.2.2.1 x.2.2.2.2):=by rw [cell_of_row W1 bx 2 _ _ _ HXB.out];rfl
 clear hb1 a1 a2 a3 hx1 hE01 hE1 hsub hbx hEb hn1 hbxe
 go_wp2_with fail
 have hD:=(Ext.refl [] W1).drew
 refine e_ (fun W=> W.cell? ⟨b,3,none⟩=some (.slice p1 n1 c1)/\W.cell? ⟨bx,0,none⟩=some (.int .i64 x.1)/\W.cell? ⟨bx,1,none⟩=some (.string ⟨x.2.1.toArray⟩)/\W.cell? ⟨bx,2,none⟩=some (.slice x.2.2.1 x.2.2.2.1 x.2.2.2.2)) (fun i=> decide (i < 7) && !(i==0)) (by kernel_rfl) ⟨hD.cell k3 (by simp),hD.cell j0 (by simp),hD.cell j1 (by simp),hD.cell j2 (by simp)⟩ (fun hS=> ?_)
 refine PUq 0 ?_;(try go_frame)
 refine ta 1 ?_;(try go_frame)
 refine ta 2 ?_;(try go_frame)
 refine ta 3 ?_;(try go_frame)
 refine ta 4 ?_;(try go_frame)
 refine ta 5 ?_;(try go_frame)
 refine a_ (i:=6) (by kernel_rfl) rfl (fun K hK=> ?_)
 (try simp only [Act.put,zA,zB,zC,List.setIfInBounds_toArray,zD,zE]);refine iw rfl ?_
 go_simp
 have hEa:Ext [] W1 ((W1.alloc (.cells #[.int .i64 x.1,.string ⟨x.2.1.toArray⟩,.slice x.2.2.1 x.2.2.2.1 x.2.2.2.2] 175)).drew):=((Ext.refl [] W1).alloc _).drew
 have hrd6:=(one_rdK (T:=175) W1 x).ext0 (Ext.refl [] _).drew
 obtain⟨HR6,HEA⟩:=h_2 hrd6 hEa
 have hxb:EB.Ow 5 ((W1.alloc (.cells #[.int .i64 x.1,.string ⟨x.2.1.toArray⟩,.slice x.2.2.1 x.2.2.2.1 x.2.2.2.2] 175)).drew) (.slice x.2.2.1 x.2.2.2.1 x.2.2.2.2) bs:=by
  refine(HX.out.ext HE01.out (fun y hy hy2=> ?_)).ext0 hEa
  obtain⟨c,hc⟩:=HX.out.tag y hy
  rcases List.mem_cons.1 hy2 with h | h
  ·subst h
   rw [HH.out.1] at hc
   simp only [Option.some.injEq,Obj.cells.injEq] at hc
   exact absurd hc.2.1 (by decide)
  ·obtain⟨_,⟨zs',b2,_⟩,_⟩:=HH.out
   obtain⟨c',hc'⟩:=b2.tag y h
   rw [hc] at hc'
   simp only [Option.some.injEq,Obj.cells.injEq] at hc'
   exact absurd hc'.2.1 (by decide)
 have hbE:=hEa.blk HB1.out (by simp)
 obtain⟨HXE,HBE⟩:=h_2 hxb hbE
 have h1E:=H1.out.ext0 hEa
 have h2E: ∀z∈zs,EB.Ow 5 ((W1.alloc (.cells #[.int .i64 x.1,.string ⟨x.2.1.toArray⟩,.slice x.2.2.1 x.2.2.2.1 x.2.2.2.2] 175)).drew) (.slice z.1.2.2.1 z.1.2.2.2.1 z.1.2.2.2.2) z.2:=fun z hz=> (H2.out z hz).ext0 hEa
 obtain⟨H1E,H2E⟩:=h_2 h1E h2E
 refine hK _ _ (fun _=> ⟨hEa.cell k3 (by simp),hEa.cell j0 (by simp),hEa.cell j1 (by simp),hEa.cell j2 (by simp)⟩) (fun _=> ?_)
 clear hK hEa hrd6 hxb hbE h1E h2E k3 j0 j1 j2 hD hS
 revert HR6 HEA HXE HBE H1E H2E
 generalize World.drew (World.alloc _ _)=W6
 intro HR6 HEA HXE HBE H1E H2E
 refine a_ (i:=7) (by kernel_rfl) rfl (fun K hK=> ?_)
 (try simp only [Act.put,zA,zB,zC,List.setIfInBounds_toArray,zD,zE]);refine iw rfl ?_
 refine b_ (s:= .tmp 12) (x:= .tmp 14) (E:=EK) (T:=175) (zero:=K0) (bytes:=48) (v:= .slice p1 n1 c1) (xs:=zs.map (·.1)) (ys:= [x]) tiK Tryz.underlying110 Tryz.underlying110 rfl rfl rfl H1E.out HR6.out (by rw [<-HN.out];simp;omega) (by rw [<-HN.out];simp;omega) ?_
 intro v7 W7 how7 hE7 hnear7 _
 have hbn: ∀y∈blkL (.slice p1 n1 c1),y≠b:=H1E.out.ne HBE.out (by decide)
 have hsz:=HE01.out.size
 have hsz2:=HEA.out.size
 have hb7:=hE7.blk HBE.out (fun h=> hbn b h rfl)
 have hfz: ∀j,W7.frozen? ⟨b,j,none⟩=false:=fun j=> frozen_of_row _ _ _ _ _ hb7
 have hx7:EB.Ow 5 W7 (.slice x.2.2.1 x.2.2.2.1 x.2.2.2.2) bs:=HXE.out.ext hE7 (fun y hy hy2=> by
  obtain⟨c,hc⟩:=HXE.out.tag y hy
  obtain⟨c',hc'⟩:=H1E.out.tag y hy2
  rw [hc] at hc'
  simp only [Option.some.injEq,Obj.cells.injEq] at hc'
  exact absurd hc'.2.1 (by decide))
 have h27: ∀z∈zs,EB.Ow 5 W7 (.slice z.1.2.2.1 z.1.2.2.2.1 z.1.2.2.2.2) z.2:=fun z hz=> (H2E.out z hz).ext hE7 (fun y hy hy2=> by
  obtain⟨c,hc⟩:=(H2E.out z hz).tag y hy
  obtain⟨c',hc'⟩:=H1E.out.tag y hy2
  rw [hc] at hc'
  simp only [Option.some.injEq,Obj.cells.injEq] at hc'
  exact absurd hc'.2.1 (by decide))
 have hE07:Ext (b::blkL mv) w W7:=(HE01.out.andThen HEA.out).trans (hE7.mono (fun y hy=> .inl (by simp [HSUB.out y hy])))
 have hn7: ∀y∈blkL v7,y∈blkL mv\/w.heap.size<=y:=fun y hy=> by
  rcases hnear7 y hy with h | h
  ·exact .inl (HSUB.out y h)
  ·exact .inr (by omega)
 obtain⟨p7,c7,rfl,hc7⟩:=how7.rd.len_eq
 obtain⟨n7,hn7e⟩: ∃n,n=(zs.map (·.1)++ [x]).length:=⟨_,rfl⟩
 have hn71:n7<=65:=by rw [hn7e];simp at HN hn7e ⊢;have:=HN.out;omega
 have s7:W7.cell? ⟨b,3,none⟩=some (.slice p1 n1 c1):=by rw [cell_of_row W7 b 3 _ _ _ hb7];rfl
 rw [<-hn7e] at how7 hn7 hc7 ⊢
 obtain⟨HN7,HB7,HX7,H27,HO7,HE07,HNW⟩:=h_7 hn7e hb7 hx7 h27 how7 hE07 hn7
 have HNE:=hi_ (how7.ne hb7 (by decide))
 refine hK _ _ (fun h=> by cases h) (fun _=> ?_)
 clear hK hb7 hx7 h27 how7 hE07 hn7 hE7 hnear7 hbn hn7e
 refine PUq 8 ?_;(try go_frame)
 simp only [zA,zB,zC,zD,zE]
 refine PUq 9 ?_;(try go_frame)
 simp only [zA,zB,zC,zD,zE]
 refine a_ (i:=10) (by kernel_rfl) rfl (fun K hK=> ?_)
 refine iw rfl ?_
 go_simp
 refine hK _ _ (fun h=> by cases h) (fun _=> ?_)
 refine c_ (by kernel_rfl) ?_ _
 clear hK hfz s7
 have hE8:Ext [b] W7 (W7.setCell ⟨b,3,none⟩ (.slice p7 n7 c7)):=(Ext.refl [b] W7).setCell (.inl (by simp)) _
 have hb8:=heap_setCell_same W7 b 3 _ _ (.slice p7 n7 c7) HB7.out
 have hE08:=HE07.out.trans (hE8.mono (by simp))
 have ho8:=HO7.out.ext hE8 (fun y hy=> by simpa using HNE.out y hy)
 have hx8:=HX7.out.ext hE8 (fun y hy=> by simpa using HX7.out.ne HB7.out (by decide) y hy)
 have h28: ∀z∈zs,EB.Ow 5 (W7.setCell ⟨b,3,none⟩ (.slice p7 n7 c7)) (.slice z.1.2.2.1 z.1.2.2.2.1 z.1.2.2.2.2) z.2:=fun z hz=> (H27.out z hz).ext hE8 (fun y hy=> by simpa using (H27.out z hz).ne HB7.out (by decide) y hy)
 obtain⟨HE08,HB8,HO8,HX8,H28⟩:=h_5 hE08 hb8 ho8 hx8 h28
 clear hE8 hb8 hE08 ho8 hx8 h28
 revert HE08 HB8 HO8 HX8 H28
 generalize World.setCell _ _ _=W8
 intro HE08 HB8 HO8 HX8 H28
 have k3:W8.cell? ⟨b,3,none⟩=some (.slice p7 n7 c7):=by rw [cell_of_row W8 b 3 _ _ _ HB8.out];rfl
 have hmem:(zs++ [(x,bs)]).map (fun z=> (z.1.1,z.1.2.1,z.2))=aW_ s.mem x.1++ [(x.1,x.2.1,bs)]:=by
  have h:aW_ s.mem x.1=_:=H3.out
  rw [List.map_append,h]
  rfl
 have HM:=hi_ hmem
 have hml:n7=(aW_ s.mem x.1++ [(x.1,x.2.1,bs)]).length:=by rw [<-hmem,HN7.out];simp
 have HML2:=hi_ hml
 have hrl:=remL_big s.mem (x.1,x.2.1,bs) hl
 rw [<-hml] at hrl
 have HRL:=hi_ hrl
 have hall: ∀z∈zs++ [(x,bs)],EB.Ow 5 W8 (.slice z.1.2.2.1 z.1.2.2.2.1 z.1.2.2.2.2) z.2:=fun z hz=> by
  rcases List.mem_append.1 hz with h | h
  ·exact H28.out z h
  ·simp at h;subst h;exact HX8.out
 have HALL:=hi_ hall
 have hzz:zs.map (·.1)++ [x]=(zs++ [(x,bs)]).map (·.1):=by simp
 rw [hzz] at HO8
 clear hmem hml hrl hall hzz
 by_cases hbig:64 < n7
 ·have z1:(64:Int) < (n7:Int):=by omega
  have hlen:((zs++ [(x,bs)]).map (·.1)).length=n7:=by rw [HN7.out];simp
  rcases HO8.out with ⟨h,_⟩ | ⟨g,i,cap,L,h,hg,h1,h2,h3⟩
  ·simp only [Value.slice.injEq] at h;omega
  rw [hlen] at h h1 h3
  simp only [Value.slice.injEq,true_and] at h
  obtain⟨rfl,rfl⟩:=h
  have hdk:=fun W (hW:W.heap[g]? =some (.cells (EK.flat L).toArray 175 (0,0)))=> delk_c g i c7 L ((zs++ [(x,bs)]).map (·.1)) W hW (by rw [hlen];exact h1) h2 (by rw [hlen];exact h3) (by rw [hlen];omega) (by rw [hlen];omega)
  rw [hlen] at hdk
  obtain⟨HDK,HG⟩:=h_2 hdk hg
  clear hdk hg h1 h2 h3 hlen
  have e3:EK.k=3:=rfl
  rw [e3] at k3 HO8 HNW ⊢
  clear e3
  go_wp2_with fail
  refine(HDK.out _ HG.out).mono ?_
  rintro e W9 ⟨v9,rfl,how9,hE9,hs9⟩
  have hgt:g≠b:=HNE.out g (by simp [blkL])
  have hb9:=hE9.blk HB8.out (by simpa using fun h=> hgt h.symm)
  have hfz: ∀j,W9.frozen? ⟨b,j,none⟩=false:=fun j=> frozen_of_row _ _ _ _ _ hb9
  have k39:W9.cell? ⟨b,3,none⟩=some (.slice (some ⟨g,i*3,none⟩) n7 c7):=by rw [cell_of_row W9 b 3 _ _ _ hb9];rfl
  obtain⟨p9,c9,rfl,_⟩:=how9.rd.len_eq
  obtain⟨n9,hn9⟩: ∃n,n=(((zs++ [(x,bs)]).map (·.1)).drop 1).length:=⟨_,rfl⟩
  rw [<-hn9] at how9 hs9 ⊢
  obtain⟨HB9,HO9,HE9,HS9⟩:=h_4 hb9 how9 hE9 hs9
  clear hb9 how9 hE9 hs9 hn9 k3
  go_wp2
  go_end0
  have hEa:Ext [b] W9 (W9.setCell ⟨b,3,none⟩ (.slice p9 n9 c9)):=(Ext.refl [b] W9).setCell (.inl (by simp)) _
  have hba:=heap_setCell_same W9 b 3 _ _ (.slice p9 n9 c9) HB9.out
  have hgw:g∈blkL mv\/w.heap.size<=g:=HNW.out g (by simp [blkL])
  refine⟨rfl,_,⟨hba,⟨(zs++ [(x,bs)]).drop 1, ?_,fun z hz=> ?_, ?_⟩,fun y hy=> ?_⟩,(HE08.out.trans' HE9.out (fun y h=> .inl h) (fun y hy=> ?_)).trans (hEa.mono (by simp)),fun y hy=> ?_⟩
  ·rw [List.map_drop]
   exact HO9.out.ext hEa (fun y hy=> by simpa using HO9.out.ne HB9.out (by decide) y hy)
  ·have h:=HALL.out z (List.mem_of_mem_drop hz)
   have h9:=h.ext HE9.out (fun y hy hy2=> by
    obtain⟨c,hc⟩:=h.tag y hy
    simp at hy2
    subst hy2
    rw [HG.out] at hc
    simp only [Option.some.injEq,Obj.cells.injEq] at hc
    exact absurd hc.2.1 (by decide))
   exact h9.ext hEa (fun y hy=> by simpa using h9.ne HB9.out (by decide) y hy)
  ·show remL s.mem (x.1,x.2.1,bs)=_
   rw [HRL.out,if_pos hbig,List.map_drop,HM.out]
  ·rw [HS9.out y hy]
   rcases hgw with h | h
   ·exact HH.out.2.2 _ h
   ·have:=HH.out.lt.1;omega
  ·simp at hy
   subst hy
   rcases hgw with h | h
   ·exact .inl (by simp [h])
   ·exact .inr h
  ·rw [HS9.out y hy]
   exact hgw
 ·have z1: ¬(64:Int) < (n7:Int):=by omega
  go_wp2
  go_end0
  refine⟨rfl,_,⟨HB8.out,⟨zs++ [(x,bs)],HO8.out,HALL.out, ?_⟩,fun y hy=> ?_⟩,HE08.out,HNW.out⟩
  rotate_left
  ·rcases HNW.out y hy with h | h
   ·exact HH.out.2.2 _ h
   ·have:=HH.out.lt.1;omega
  show remL s.mem (x.1,x.2.1,bs)=_
  rw [HRL.out,if_neg hbig,HM.out]
theorem ed_ (b a sp:Nat) (s:Sto) (x:Kno) (bs:List UInt8) (w:World) (h:StoR w b a sp s) (hl:s.mem.length<=64) (hx:EB.Ow 5 w (.slice x.2.2.1 x.2.2.2.1 x.2.2.2.2) bs):
  Calls Tryz.prog 109 #[.pointer (some ⟨b,0,none⟩),kagg x] w fun e w'=> e= .returned (.tuple #[])/\StoR w' b a sp {s with mem:=remL s.mem (x.1,x.2.1,bs)}/\ExtT [b] [175] w w':=by
 obtain⟨mv,h⟩:=h
 refine(ec_ b a sp mv s x bs w h hl hx).mono ?_
 rintro e w' ⟨rfl,mv',h1,h2,_⟩
 exact⟨rfl,⟨mv',h1⟩,h.frame h2⟩
theorem ag_ {x y:Nat} {T T':TypeId} (h:r_ w x=some T) (h':r_ w y=some T') (hT:T≠T'):x≠y:=by
 rintro rfl
 rw [h] at h'
 cases h'
 exact hT rfl
theorem SpR.extT {s:Spc} (h:SpR w b s) (he:ExtT bs Ts w w') (hb:b∉bs) (ht: ∀y∈bs,r_ w y≠some 165) (h1:165∉Ts) (h2:168∉Ts):SpR w' b s:=by
 obtain⟨pf,nf,cf,pu,nu,cu,pl,nl,cl,hb0,a1,a2,a3⟩:=h
 refine⟨pf,nf,cf,pu,nu,cu,pl,nl,cl,he.blk hb0 hb h2,a1.extT he (fun y hy hy2=> ?_) h1,a2.extT he (fun y hy hy2=> ?_) h1,a3.extT he (fun y hy hy2=> ?_) h1⟩
 ·obtain⟨c,hc⟩:=a1.tag y hy
  exact ht y hy2 (d_ hc)
 ·obtain⟨c,hc⟩:=a2.tag y hy
  exact ht y hy2 (d_ hc)
 ·obtain⟨c,hc⟩:=a3.tag y hy
  exact ht y hy2 (d_ hc)
theorem SpR.tag {s:Spc} (h:SpR w b s):r_ w b=some 168:=by obtain⟨c,hc⟩:=h.blk;exact d_ hc
theorem ArrR.tag {a r D F:Nat} (h:ArrR w a r D F):r_ w a=some 127:=d_ h
structure Sy where
 b:Nat
 a:Nat
 r:Nat
 gg:Nat
 sp:Nat
 k:Nat
 S:Nat
 F:Nat
structure Sv where
 st:Sto
 ws:List (Nat×Nat×List UInt8)
 spc:Spc
structure SyR (w:World) (y:Sy) (v:Sv):Prop where
 st:StoR w y.b y.a y.sp v.st
 ar:ArrR w y.a y.r (y.k+4) y.F
 rk:RackR w y.r y.gg (y.k+4) y.S v.ws
 sp:SpR w y.sp v.spc
 spi:SpI v.spc
 k1:1<=y.k
 k8:y.k<=8
 S2:y.S<=2000
 FS:y.F<=y.S
 cells:v.spc.cells=(((y.k+4)*(y.S - y.F):Nat):Int)
 mem:v.st.mem.length<=64
abbrev SyT:List TypeId:= [339,175]
def SyF (y:Sy) (w w':World):Prop:=ExtT [y.b,y.r,y.sp] SyT w w'
theorem SyF.trans {y:Sy} {a b c:World} (h:SyF y a b) (k:SyF y b c):SyF y a c:=ExtT.trans h k
theorem SyF.of0 {y:Sy} {a b:World} (h:Ext [] a b):SyF y a b:=ExtT.of0 h
theorem SyF.st {y:Sy} {a b:World} (h:ExtT [y.b] [175] a b):SyF y a b:=h.mono (by simp) (by simp)
theorem SyF.rk {y:Sy} {a b:World} (h:ExtT [y.r] [339] a b):SyF y a b:=h.mono (by simp) (by simp)
theorem SyF.sp {y:Sy} {a b:World} (h:Ext [y.sp] a b):SyF y a b:=ExtT.of h (by simp)
theorem SyR.ext0 {y:Sy} {v:Sv} (h:SyR w y v) (he:Ext [] w w'):SyR w' y v:=
 ⟨h.st.ext0 he,h.ar.ext0 he,h.rk.ext0 he,h.sp.ext0 he,h.spi,h.k1,h.k8,h.S2,h.FS,h.cells,h.mem⟩
theorem SyR.onSt {y:Sy} {v:Sv} {s:Sto} (h:SyR w y v) (he:ExtT [y.b] [175] w w') (hs:StoR w' y.b y.a y.sp s) (hm:s.mem.length<=64):SyR w' y {v with st:=s}:=by
 have tb:=h.st.tag
 refine⟨hs,h.ar.extT he ?_ (by decide),h.rk.extT he ?_ ?_ ?_ (by decide),h.sp.extT he ?_ ?_ (by decide) (by decide),h.spi,h.k1,h.k8,h.S2,h.FS,h.cells,hm⟩
 ·simpa using ag_ h.ar.tag tb (by decide)
 ·simpa using ag_ h.rk.tag.1 tb (by decide)
 ·simpa using ag_ h.rk.tag.2 tb (by decide)
 ·simp only [List.mem_singleton,forall_eq,tb];decide
 ·simpa using ag_ h.sp.tag tb (by decide)
 ·simp only [List.mem_singleton,forall_eq,tb];decide
theorem SyR.onRk {y:Sy} {v:Sv} (h:SyR w y v) (he:ExtT [y.r] [339] w w') (hs:RackR w' y.r y.gg (y.k+4) y.S ws):SyR w' y {v with ws:=ws}:=by
 have tb:=h.rk.tag.1
 refine⟨h.st.extT he ?_ ?_ (by decide) (by decide) (by decide),h.ar.extT he ?_ (by decide),hs,h.sp.extT he ?_ ?_ (by decide) (by decide),h.spi,h.k1,h.k8,h.S2,h.FS,h.cells,h.mem⟩
 ·simpa using ag_ h.st.tag tb (by decide)
 ·simp only [List.mem_singleton,forall_eq,tb];decide
 ·simpa using ag_ h.ar.tag tb (by decide)
 ·simpa using ag_ h.sp.tag tb (by decide)
 ·simp only [List.mem_singleton,forall_eq,tb];decide
theorem SyR.onSp {y:Sy} {v:Sv} {s:Spc} (h:SyR w y v) (he:Ext [y.sp] w w') (hs:SpR w' y.sp s) (hi:SpI s) (hc:s.cells=v.spc.cells):SyR w' y {v with spc:=s}:=by
 have tb:=h.sp.tag
 have he':ExtT [y.sp] [] w w':=ExtT.of he (by simp)
 refine⟨h.st.extT he' ?_ ?_ (by decide) (by decide) (by decide),h.ar.extT he' ?_ (by decide),h.rk.extT he' ?_ ?_ ?_ (by decide),hs,hi,h.k1,h.k8,h.S2,h.FS,hc.trans h.cells,h.mem⟩
 ·simpa using ag_ h.st.tag tb (by decide)
 ·simp only [List.mem_singleton,forall_eq,tb];decide
 ·simpa using ag_ h.ar.tag tb (by decide)
 ·simpa using ag_ h.rk.tag.1 tb (by decide)
 ·simpa using ag_ h.rk.tag.2 tb (by decide)
 ·simp only [List.mem_singleton,forall_eq,tb];decide
theorem SyF.blk {y:Sy} {v:Sv} (hy:SyR w y v) (h:SyF y w w') {c:Array Value} {x:Nat×Nat} (hg:w.heap[g]? =some (.cells c T x)) (hT:T∉ [117,143,168,339,175]):w'.heap[g]? =some (.cells c T x):=by
 have ht:=d_ hg
 simp only [List.mem_cons,List.not_mem_nil,or_false,not_or] at hT
 refine ExtT.blk h hg ?_ (by simp [hT])
 simp only [List.mem_cons,List.not_mem_nil,or_false,not_or]
 exact⟨ag_ ht hy.st.tag hT.1,ag_ ht hy.rk.tag.1 hT.2.1,ag_ ht hy.sp.tag hT.2.2.1⟩
theorem StoR.cells {b a sp:Nat} {s:Sto} (h:StoR w b a sp s):w.cell? ⟨b,0,none⟩=some (.pointer (some ⟨a,0,none⟩))/\w.cell? ⟨b,1,none⟩=some (.pointer (some ⟨sp,0,none⟩))/\w.cell? ⟨b,2,none⟩=some (.int .i64 s.txg)/\
  w.cell? ⟨b,4,none⟩=some (.int .i64 s.gets)/\w.cell? ⟨b,5,none⟩=some (.int .i64 s.hits)/\w.cell? ⟨b,6,none⟩=some (.int .i64 s.reads)/\w.cell? ⟨b,7,none⟩=some (.int .i64 s.heals)/\w.cell? ⟨b,8,none⟩=some (.int .i64 s.puts)/\ ∀j,w.frozen? ⟨b,j,none⟩=false:=by
 obtain⟨mv,h1,_⟩:=h
 refine⟨?_, ?_, ?_, ?_, ?_, ?_, ?_, ?_,fun j=> frozen_of_row _ _ _ _ _ h1⟩ <;> (rw [cell_of_row w b _ _ _ _ h1];rfl)
theorem StoR.setAt {b a sp:Nat} {s s':Sto} (h:StoR w b a sp s) (j:Nat) (u:Value) (hm:s'.mem=s.mem) (hr: ∀mv,(fH_ a sp mv s).setIfInBounds j u=fH_ a sp mv s'):StoR (w.setCell ⟨b,j,none⟩ u) b a sp s'/\ExtT [b] [175] w (w.setCell ⟨b,j,none⟩ u):=by
 obtain⟨mv,h1,h2,h3⟩:=h
 have hb:=heap_setCell_same w b j _ _ u h1
 have hE:Ext [b] w (w.setCell ⟨b,j,none⟩ u):=(Ext.refl [b] w).setCell (.inl (by simp)) _
 rw [hr] at hb
 have hE':ExtT [b] [175] w (w.setCell ⟨b,j,none⟩ u):=ExtT.of hE (by simp)
 refine⟨⟨mv,hb, ?_,h3⟩,hE'⟩
 rw [hm]
 have hE2:ExtT [b] [] w (w.setCell ⟨b,j,none⟩ u):=ExtT.of hE (by simp)
 refine h2.extT hE2 ?_ (by decide) (by decide)
 simp only [List.mem_singleton,forall_eq,d_ h1]
 decide
def pagg (a size birth:Int) (sum:List UInt8):Value:= .agg #[.int .i64 a,.int .i64 size,.int .i64 birth,.string ⟨sum.toArray⟩]
structure PutRel (y:Sy) (v v':Sv) (bs:List UInt8) (a:Nat):Prop where
 take:TakeRel v.spc (B_ y.k bs.length) v'.spc a 0
 ws: ∃zs,LayOf y.k (padB bs) ((bs.length+127) / 128) zs/\v'.ws=v.ws++wsOf (y.k+4) y.F a zs
 st:v'.st={v.st with puts:=wr64 (v.st.puts+1),mem:=remL v.st.mem (a,shaF bs,bs)}
 sec: ∃zs,LayOf y.k (padB bs) ((bs.length+127) / 128) zs/\(∀z∈zs,z.length=128)/\v'.ws=v.ws++wsOf (y.k+4) y.F a zs
def PutPost (y:Sy) (v:Sv) (bs:List UInt8) (w:World) (e:Ending) (w':World):Prop:=
 (e= .returned (.tuple #[pagg 0 0 0 [],.int .i64 5])/\SyR w' y v/\SyF y w w'/\(cntL v.spc.free - v.spc.back < B_ y.k bs.length\/v.spc.free.find? (cG_ (B_ y.k bs.length))=none))\/
 ∃(a:Nat) (v':Sv),e= .returned (.tuple #[pagg a bs.length v.st.txg (shaF bs),.int .i64 0])/\SyR w' y v'/\SyF y w w'/\PutRel y v v' bs a
theorem Took.bound {s s':Spc} {a n:Int} (h:SpI s) (t:Took s s' a n) (hn:1<=n):a+n<=s.cells:=by
 have h1:=t.at1 (a+n - 1) (by omega)
 have h2:=(h.all (a+n - 1)).2 (.inl h1)
 omega
theorem Enc.Rd.tagExt {α:Type} {E:Enc α} {v:Value} {xs:List α} (h:E.Rd w v xs) (ht: ∀g∈blkL v,r_ w g=some T) (he:ExtT bs Ts w w') (hb: ∀y∈bs,r_ w y≠some T) (hT:T∉Ts):E.Rd w' v xs/\ ∀g∈blkL v,r_ w' g=some T:=by
 obtain⟨S,hS,hs⟩:=he
 have hn: ∀g∈blkL v,g∉S:=fun g hg hg2=> by
  rcases hs g hg2 with h1 | ⟨T',h1,h2,_⟩
  ·exact hb g h1 (ht g hg)
  ·rw [ht g hg] at h2
   cases h2
   exact hT h1
 exact⟨h.ext hS hn,fun g hg=> aG_ (ht g hg) hS (hn g hg)⟩
theorem SyR.other {y:Sy} {v:Sv} (h:SyR w y v) {c:Array Value} {x:Nat×Nat} (hg:w.heap[g]? =some (.cells c T x)) (he:Ext [g] w w') (hT:T∉ [117,127,143,4,339,5,175,168,165]):SyR w' y v:=by
 have tg:=d_ hg
 simp only [List.mem_cons,List.not_mem_nil,or_false,not_or] at hT
 obtain⟨t1,t2,t3,t4,t5,t6,t7,t8,t9⟩:=hT
 have he':ExtT [g] [] w w':=ExtT.of he (by simp)
 refine⟨h.st.extT he' ?_ ?_ (by decide) (by decide) (by decide),h.ar.extT he' ?_ (by decide),h.rk.extT he' ?_ ?_ ?_ (by decide),h.sp.extT he' ?_ ?_ (by decide) (by decide),h.spi,h.k1,h.k8,h.S2,h.FS,h.cells,h.mem⟩
 ·simpa using ag_ h.st.tag tg (Ne.symm t1)
 ·simp only [List.mem_singleton,forall_eq,tg,ne_eq,Option.some.injEq];exact⟨t7,t6⟩
 ·simpa using ag_ h.ar.tag tg (Ne.symm t2)
 ·simpa using ag_ h.rk.tag.1 tg (Ne.symm t3)
 ·simpa using ag_ h.rk.tag.2 tg (Ne.symm t4)
 ·simp only [List.mem_singleton,forall_eq,tg,ne_eq,Option.some.injEq];exact⟨t5,t6⟩
 ·simpa using ag_ h.sp.tag tg (Ne.symm t8)
 ·simp only [List.mem_singleton,forall_eq,tg,ne_eq,Option.some.injEq];exact t9
theorem SyF.new {y:Sy} {a b c:World} (h:SyF y a b) (he:Ext [g] b c) (hg:a.heap.size<=g):SyF y a c:=
 ExtT.trans' h (ExtT.of he (by simp):ExtT [g] [] b c) (fun _ h=> .inl h) (fun x hx=> .inr (by simp at hx;omega)) (fun _ h=> h) (by simp)
theorem set4 {a0 a1 a2 a3:Value} (h:W.heap[g]? =some (.cells #[a0,a1,a2,a3] T (0,0))) (b0 b1 b2 b3:Value):
  ((((W.setCell ⟨g,0,none⟩ b0).setCell ⟨g,1,none⟩ b1).setCell ⟨g,2,none⟩ b2).setCell ⟨g,3,none⟩ b3).heap[g]? =some (.cells #[b0,b1,b2,b3] T (0,0))/\Ext [g] W ((((W.setCell ⟨g,0,none⟩ b0).setCell ⟨g,1,none⟩ b1).setCell ⟨g,2,none⟩ b2).setCell ⟨g,3,none⟩ b3):=
 ⟨heap_setCell_same _ _ 3 _ _ _ (heap_setCell_same _ _ 2 _ _ _ (heap_setCell_same _ _ 1 _ _ _ (heap_setCell_same W g 0 _ _ _ h))),
  ((((Ext.refl [g] W).setCell (.inl (by simp)) _).setCell (.inl (by simp)) _).setCell (.inl (by simp)) _).setCell (.inl (by simp)) _⟩
theorem M_ {a0 a1 a2 a3:Value} (h:W.heap[g]? =some (.cells #[a0,a1,a2,a3] T (0,0))):W.cell? ⟨g,0,none⟩=some a0/\W.cell? ⟨g,1,none⟩=some a1/\W.cell? ⟨g,2,none⟩=some a2/\W.cell? ⟨g,3,none⟩=some a3/\ ∀j,W.frozen? ⟨g,j,none⟩=false:=
 ⟨by rw [cell_of_row _ _ 0 _ _ _ h];rfl,by rw [cell_of_row _ _ 1 _ _ _ h];rfl,by rw [cell_of_row _ _ 2 _ _ _ h];rfl,by rw [cell_of_row _ _ 3 _ _ _ h];rfl,fun j=> frozen_of_row _ _ _ _ _ h⟩
theorem an_ {P:Program} {ops:Array Oper} {Q:Exit->Act->World->Prop} {md:Region.Mode} {S:World->Prop} {nd:Nat->Bool} {i j:Nat} {oi oj:Oper} {listed:Array Bool} {a:Act} (hr:Region.ready md ops listed= [i,j]) (ho:ops[i]? =some oi) (hj:ops[j]? =some oj)
  (h: ∀K:Act->World->Prop,Hid (∀a' w',(nd i=true->S w')->((nd i=true->S w')->ab_ P md ops Q S nd n (listed.setIfInBounds i true) a' w')->K a' w')->if Region.wanted oi (yielded ops a.tmps)=true then Oper.wp P oi a w K Q else K (a.put oi.dst undef) w)
  (h': ∀K:Act->World->Prop,Hid (∀a' w',(nd j=true->S w')->((nd j=true->S w')->ab_ P md ops Q S nd n (listed.setIfInBounds j true) a' w')->K a' w')->if Region.wanted oj (yielded ops a.tmps)=true then Oper.wp P oj a w K Q else K (a.put oj.dst undef) w):
  ab_ P md ops Q S nd (n+1) listed a w:=by
 refine⟨(fun h0=> by rw [hr] at h0;cases h0),fun k hk=> ?_⟩
 rw [hr] at hk
 rcases List.mem_cons.1 hk with rfl | hk
 ·exact wpOp_step ho (fun K hK=> h K (fun a w hS hW=> hK a w ⟨hS,hW hS⟩))
 ·obtain rfl:k=j:=by simpa using hk
  exact wpOp_step hj (fun K hK=> h' K (fun a w hS hW=> hK a w ⟨hS,hW hS⟩))
theorem stput_c (y:Sy) (v:Sv) (val:Value) (bs:List UInt8) (w:World) (h:SyR w y v) (hv:EB.Rd w val bs) (hvt: ∀g∈blkL val,r_ w g=some 5) (h1:1<=bs.length) (h2:bs.length<=1024) (hwl:v.ws.length<=900000):
  Calls Tryz.prog 81 #[.pointer (some ⟨y.b,0,none⟩),val] w (PutPost y v bs w):=by
 obtain⟨p,c,rfl,_⟩:=hv.len_eq
 have hEa:Ext [] w (w.alloc (.cells #[.int .i64 0,.int .i64 0,.int .i64 0,.string ⟨#[]⟩] 34)):=(Ext.refl [] w).alloc _
 have hb4:=heap_alloc_new w (.cells #[.int .i64 0,.int .i64 0,.int .i64 0,.string ⟨#[]⟩] 34)
 obtain⟨c0,c1,_⟩:=(h.st.ext0 hEa).cells
 have HS:=hi_ (h.ext0 hEa)
 have HV:=hi_ (hv.ext0 hEa)
 have HVT:=hi_ (fun g hg=> aG_ (hvt g hg) hEa (by simp): ∀g∈blkL (.slice p bs.length c),r_ (w.alloc (.cells #[.int .i64 0,.int .i64 0,.int .i64 0,.string ⟨#[]⟩] 34)) g=some 5)
 have HB4:=hi_ hb4
 have hcb:=aP_ y.k bs.length h1 h2
 have hsz:w.heap.size+1<=(w.alloc (.cells #[.int .i64 0,.int .i64 0,.int .i64 0,.string ⟨#[]⟩] 34)).heap.size:=by simp
 obtain⟨size,hsz'⟩: ∃n,n=bs.length:=⟨_,rfl⟩
 have HSZ:=hi_ hsz'
 rw [<-hsz'] at HV HVT hcb h1 h2 ⊢
 clear h hv hvt hb4 hsz'
 go_enter Tryz.func81,Tryz.ntmps81
 go_wp2_with fail
 revert hEa c0 c1 HS HB4 hsz HVT HV
 generalize World.alloc _ _=W0
 intro hEa c0 c1 HS HB4 hsz HVT HV
 refine(fh_ y.a y.r y.k y.F size _ HS.out.ar (by have:=HS.out.k8;omega) h1 h2).mono ?_
 rintro e W1 ⟨rfl,hE1⟩
 have HS1:=hi_ (HS.out.ext0 hE1)
 have HV1:=hi_ (HV.out.ext0 hE1)
 have HVT1:=hi_ (fun g hg=> aG_ (HVT.out g hg) hE1 (by simp): ∀g∈blkL (.slice p size c),r_ W1 g=some 5)
 have HB41:=hi_ (hE1.blk HB4.out (by simp))
 have c11:=hE1.cell c1 (by simp)
 have c01:=hE1.cell c0 (by simp)
 have hE01:=hEa.trans hE1
 clear HS HV HVT HB4 c0 c1 hEa hE1
 obtain⟨C,hC⟩: ∃C,C=B_ y.k size:=⟨_,rfl⟩
 rw [<-hC] at hcb ⊢
 have HC:=hi_ hC
 clear hC
 go_wp2_with fail
 refine(take_c y.sp v.spc (C:Int) _ HS1.out.sp HS1.out.spi (by omega) (by omega)).mono ?_
 rintro e W2 ⟨s',a,err,rfl,hr2,hi2,hE2,hrel⟩
 rcases hrel with ⟨h,_⟩ | ⟨_,hno,rfl,rfl,rfl⟩ | ⟨_,hle,hfi,rfl,htk⟩
 ·omega
 ·have hs2:=HS1.out.onSp hE2 hr2 hi2 rfl
  have hF2:SyF y w W2:=(SyF.of0 hE01).trans (SyF.sp hE2)
  have hb42:=SyF.blk HS1.out (SyF.sp hE2) HB41.out (by decide)
  obtain⟨HS2,HF2,HB42,HNO⟩:=h_4 hs2 hF2 hb42 hno
  obtain⟨v0,v1,v2,v3,hfz⟩:=M_ hb42
  clear hs2 hF2 hb42 hno hr2 hi2 hE2 hE01 c01 c11
  go_wp2
  obtain⟨hs,hE9⟩:=set4 HB42.out (.int .i64 0) (.int .i64 0) (.int .i64 0) (.string ⟨#[]⟩)
  obtain⟨r0,r1,r2,r3,_⟩:=M_ hs
  refine bodyPost_ret (v:= .tuple #[pagg 0 0 0 [],.int .i64 5]) (by simp [results,Tryz.results81,go_sem,r0,r1,r2,r3,pagg]) rfl ?_
  refine .inl ⟨rfl,HS2.out.other HB42.out hE9 (by decide),HF2.out.new hE9 (Nat.le_refl _), ?_⟩
  rw [<-HSZ.out,<-HC.out]
  exact HNO.out
 ·have ha0:=htk.at0
  have hab:=htk.bound HS1.out.spi (by omega)
  obtain⟨A,rfl⟩: ∃A:Nat,a=A:=⟨a.toNat,by omega⟩
  have hcl:=HS1.out.cells
  have had:A+B_ y.k bs.length<=(y.k+4)*(y.S - y.F):=by rw [<-HSZ.out,<-HC.out];omega
  have hs2:=HS1.out.onSp hE2 hr2 hi2 htk.cells
  have hF2:SyF y w W2:=(SyF.of0 hE01).trans (SyF.sp hE2)
  have hb42:=SyF.blk HS1.out (SyF.sp hE2) HB41.out (by decide)
  have hv2:=HV1.out.tagExt HVT1.out (ExtT.of hE2 (by simp):ExtT [y.sp] [] W1 W2) (by simp only [List.mem_singleton,forall_eq,HS1.out.sp.tag];decide) (by simp)
  have hTR:TakeRel v.spc (B_ y.k size) s' A 0:= .inr (.inr ⟨by rw [<-HC.out];omega,by rw [<-HC.out];exact hle,by rw [<-HC.out];exact hfi,rfl,by rw [<-HC.out];exact htk⟩)
  obtain⟨c02,c12,c22,_⟩:=hs2.st.cells
  simp only at c02 c12 c22
  obtain⟨HS2,HF2,HB42,HV2,HTR,HAD⟩:=h_6 hs2 hF2 hb42 hv2 hTR had
  clear hs2 hF2 hb42 hv2 hTR had hr2 hi2 hE2 hE01 c01 c11 hle hfi htk ha0 hab hcl
  go_wp2_with fail
  have hw:=arwrite_c y.a y.r y.gg y.k y.S y.F A v.ws (.slice p size c) bs W2 HS2.out.rk HS2.out.ar HS2.out.k1 HS2.out.k8 HS2.out.S2 HS2.out.FS HV2.out.1 (by rw [<-HSZ.out];exact h1) (by rw [<-HSZ.out];exact h2) HAD.out hwl
  refine hw.mono ?_
  clear hw
  rintro e W3 ⟨rfl,zs,hlay,hz128,hr3,hE3⟩
  have HZ128:=hi_ hz128
  clear hz128
  have hs3:=HS2.out.onRk hE3 hr3
  have hF3:=HF2.out.trans (SyF.rk hE3)
  have hb43:=SyF.blk HS2.out (SyF.rk hE3) HB42.out (by decide)
  have hv3:=HV2.out.1.tagExt HV2.out.2 hE3 (by simp only [List.mem_singleton,forall_eq,HS2.out.rk.tag.1];decide) (by decide)
  obtain⟨_,_,_,_,_,_,_,c83,hfz3⟩:=hs3.st.cells
  simp only at c83
  have hst4:=hs3.st.setAt (s':={v.st with puts:=wr64 (v.st.puts+1)}) 8 (.int .i64 (wr64 (v.st.puts+1))) rfl (fun mv=> rfl)
  obtain⟨HS3,HF3,HB43,HV3,HST4,HLAY⟩:=h_6 hs3 hF3 hb43 hv3 hst4 hlay
  clear hs3 hF3 hb43 hv3 hst4 hlay hr3 hE3 c02 c12 c22
  go_wp2_with fail
  refine(cq_ ⟨y.b,8,none⟩ v.st.puts _ c83 (hfz3 8)).mono ?_
  rintro e W4 ⟨rfl,rfl⟩
  have hst4:=HST4.out
  have hb44:=SyF.blk HS3.out (SyF.st hst4.2) HB43.out (by decide)
  have hv4:=HV3.out.1.tagExt HV3.out.2 hst4.2 (by simp only [List.mem_singleton,forall_eq,HS3.out.st.tag];decide) (by decide)
  have hs4:=HS3.out.onSt hst4.2 hst4.1 HS3.out.mem
  have hF4:=HF3.out.trans (SyF.st hst4.2)
  obtain⟨HS4,HF4,HB44,HV4⟩:=h_4 hs4 hF4 hb44 hv4
  clear hst4 hb44 hv4 hs4 hF4 HST4 hfz3 c83 HV3 HF3 HS3 HB43 HV2 HF2 HS2 HB42 HV1 HVT1 HS1 HB41
  revert HS4 HF4 HB44 HV4
  generalize World.setCell _ _ _=W4
  intro HS4 HF4 HB44 HV4
  obtain⟨_,_,c2,_⟩:=HS4.out.st.cells
  simp only at c2
  go_upto_region 14 with fail
  go_cut [10] (fun pv W=> ∃g:Nat,pv= .pointer (some ⟨g,0,none⟩)/\Ext [] W4 W/\W4.heap.size<=g/\W.heap[g]? =some (.cells #[.int .i64 A,.int .i64 size,.int .i64 v.st.txg,.string ⟨(shaF bs).toArray⟩] 34 (0,0)))
  case first=>
   have hD:=(Ext.refl [] W4).drew
   refine e_ (fun W=> W.cell? ⟨y.b,2,none⟩=some (.int .i64 v.st.txg)) (fun i=> i==6 || i==8 || i==10) (by kernel_rfl) (hD.cell c2 (by simp)) (fun hS=> ?_)
   refine PUq 0 ?_;(try go_frame)
   refine PUq 1 ?_;(try go_frame)
   refine PUq 2 ?_;(try go_frame)
   refine PUq 3 ?_;(try go_frame)
   refine PUq 4 ?_;(try go_frame)
   refine PUq 5 ?_;(try go_frame)
   refine PUq 7 ?_;(try go_frame)
   refine ta 6 ?_;(try go_frame)
   refine an_ (i:=8) (j:=10) (by kernel_rfl) rfl rfl (fun K hK=> ?_) (fun K hK=> ?_)
   ·(try simp only [Act.put,zA,zB,zC,List.setIfInBounds_toArray,zD,zE]);refine iw rfl ?_
    go_simp
    have hv4:EB.Rd W4.drew (.slice p size c) bs:=HV4.out.1.ext0 hD
    refine(sum_c _ bs _ hv4 (by rw [<-HSZ.out];omega)).mono ?_
    rintro e W5 ⟨rfl,hE5⟩
    have s5:=hE5.cell hS (by simp)
    have hE05:=hD.trans hE5
    refine hK.out _ _ (fun _=> s5) (fun _=> ?_)
    clear hK hv4 hS
    refine PUq 9 ?_;(try go_frame)
    refine a_ (i:=10) (by kernel_rfl) rfl (fun K hK=> ?_)
    refine iw rfl ?_
    go_simp
    refine hK.out _ _ (fun _=> ((Ext.refl [] W5).alloc _).cell s5 (by simp)) (fun _=> ?_)
    clear hK
    refine a_ (i:=11) (by kernel_rfl) rfl (fun K hK=> ?_)
    refine iw rfl ?_
    go_simp
    refine nk hK ?_
    refine c_ (by kernel_rfl) ?_ _
    go_wp2_with fail
    go_meet
    case rel=> exact⟨W5.heap.size,rfl,hE05.alloc _,hE05.size,heap_alloc_new W5 _⟩
   ·(try simp only [Act.put,zA,zB,zC,List.setIfInBounds_toArray,zD,zE]);refine iw rfl ?_
    go_simp
    have hEb:=hD.alloc (.cells #[.int .i64 0,.int .i64 0,.int .i64 0,.string ⟨#[]⟩] 34)
    have hbb:(W4.drew.alloc (.cells #[.int .i64 0,.int .i64 0,.int .i64 0,.string ⟨#[]⟩] 34)).heap[W4.heap.size]? =_:=heap_alloc_new W4.drew (.cells #[.int .i64 0,.int .i64 0,.int .i64 0,.string ⟨#[]⟩] 34)
    have s4:=hEb.cell c2 (by simp)
    refine hK.out _ _ (fun _=> s4) (fun _=> ?_)
    clear hK
    refine a_ (i:=8) (by kernel_rfl) rfl (fun K hK=> ?_)
    (try simp only [Act.put,zA,zB,zC,List.setIfInBounds_toArray,zD,zE]);refine iw rfl ?_
    go_simp
    have hv4:=HV4.out.1.ext0 hEb
    refine(sum_c _ bs _ hv4 (by rw [<-HSZ.out];omega)).mono ?_
    rintro e W5 ⟨rfl,hE5⟩
    have s5:=hE5.cell s4 (by simp)
    have hE05:=hEb.trans hE5
    have hb5:=hE5.blk hbb (by simp)
    have HB5:=hi_ hb5
    obtain⟨v0,v1,v2,v3,hfz⟩:=M_ HB5.out
    refine hK.out _ _ (fun _=> s5) (fun _=> ?_)
    clear hK hv4 hb5 hbb s4
    refine PUq 9 ?_;(try go_frame)
    refine a_ (i:=11) (by kernel_rfl) rfl (fun K hK=> ?_)
    refine iw rfl ?_
    go_simp
    refine nk hK ?_
    refine c_ (by kernel_rfl) ?_ _
    go_wp2_with fail
    go_meet
    case rel=>
     obtain⟨hs,hE9⟩:=set4 HB5.out (.int .i64 A) (.int .i64 size) (.int .i64 v.st.txg) (.string ⟨(shaF bs).toArray⟩)
     exact⟨W4.heap.size,rfl,hE05.trans' hE9 (by simp) (by simp),Nat.le_refl _,hs⟩
  case rest=>
   obtain⟨g,rfl,hE5,hg5,hb5⟩:=hcut
   have hs5:=HS4.out.ext0 hE5
   have hv5:=HV4.out.1.ext0 hE5
   have hF5:=HF4.out.trans (SyF.of0 hE5)
   have hb45:=hE5.blk HB44.out (by simp)
   obtain⟨HS5,HV5,HF5,HB45,HB5⟩:=h_5 hs5 hv5 hF5 hb45 hb5
   have hgw:w.heap.size < g:=by have:=g_ HB44.out;omega
   obtain⟨_,_,_,q3,_⟩:=M_ HB5.out
   clear hs5 hv5 hF5 hb45 hb5 hE5 HS4 HV4 HF4 HB44 c2 hg5
   go_wp2_with fail
   have hD:=(Ext.refl [] wc).drew
   refine e_ (fun W=> W.cell? ⟨g,3,none⟩=some (.string ⟨(shaF bs).toArray⟩)) (fun i=> i==3 || i==5) (by kernel_rfl) (hD.cell q3 (by simp)) (fun hS=> ?_)
   refine PUq 0 ?_;(try go_frame)
   refine PUq 1 ?_;(try go_frame)
   refine PUq 2 ?_;(try go_frame)
   refine PUq 4 ?_;(try go_frame)
   refine ta 3 ?_;(try go_frame)
   refine a_ (i:=5) (by kernel_rfl) rfl (fun K hK=> ?_)
   (try simp only [Act.put,zA,zB,zC,List.setIfInBounds_toArray,zD,zE]);refine iw rfl ?_
   go_simp
   refine(cx_ _ bs _ (by rw [<-HSZ.out];omega) (HV5.out.ext0 hD)).mono ?_
   rintro e W6 ⟨v6,rfl,how6,hE6,hnew6, -⟩
   have s6:=hE6.cell hS (by simp)
   have hE06:=hD.trans hE6
   obtain⟨p6,c6,rfl,_⟩:=how6.rd.len_eq
   rw [<-HSZ.out] at how6
   simp only [<-HSZ.out]
   refine hK.out _ _ (fun _=> s6) (fun _=> ?_)
   clear hK hS
   refine PUq 6 ?_;(try go_frame)
   refine a_ (i:=7) (by kernel_rfl) rfl (fun K hK=> ?_)
   (try simp only [Act.put,zA,zB,zC,List.setIfInBounds_toArray,zD,zE]);refine iw rfl ?_
   go_simp
   have hs6:=HS5.out.ext0 hE06
   have hF6:=HF5.out.trans (SyF.of0 hE06)
   have hb46:=hE06.blk HB45.out (by simp)
   have hb6:=hE06.blk HB5.out (by simp)
   obtain⟨HS6,HF6,HB46,HB6⟩:=h_4 hs6 hF6 hb46 hb6
   clear hs6 hF6 hb46 hb6 hE06 hE6 hnew6 s6
   refine(ed_ y.b y.a y.sp {v.st with puts:=wr64 (v.st.puts+1)} (A,shaF bs,p6,size,c6) bs W6 HS6.out.st HS6.out.mem how6).mono ?_
   rintro e W7 ⟨rfl,hst7,hE7⟩
   have hs7:=HS6.out.onSt hE7 hst7 (cj_ _ _)
   have hF7:=HF6.out.trans (SyF.st hE7)
   have hb47:=SyF.blk HS6.out (SyF.st hE7) HB46.out (by decide)
   have hb7:=SyF.blk HS6.out (SyF.st hE7) HB6.out (by decide)
   obtain⟨HS7,HF7,HB47,HB7⟩:=h_4 hs7 hF7 hb47 hb7
   refine nk hK ?_
   refine c_ (by kernel_rfl) ?_ _
   clear hK hst7 hE7 hs7 hF7 hb47 hb7 how6 hD q3
   obtain⟨v0,v1,v2,v3,hfz⟩:=M_ HB47.out
   obtain⟨q0,q1,q2,q3,_⟩:=M_ HB7.out
   go_wp2_with fail
   obtain⟨hs,hE9⟩:=set4 HB47.out (.int .i64 A) (.int .i64 size) (.int .i64 v.st.txg) (.string ⟨(shaF bs).toArray⟩)
   obtain⟨r0,r1,r2,r3,_⟩:=M_ hs
   refine bodyPost_ret (v:= .tuple #[pagg A size v.st.txg (shaF bs),.int .i64 0]) (by simp [results,Tryz.results81,go_sem,r0,r1,r2,r3,pagg]) rfl ?_
   refine .inr ⟨A,⟨{{v.st with puts:=wr64 (v.st.puts+1)} with mem:=remL v.st.mem (A,shaF bs,bs)},v.ws++wsOf (y.k+4) y.F A zs,s'⟩,by rw [<-HSZ.out],HS7.out.other HB47.out hE9 (by decide),HF7.out.new hE9 (Nat.le_refl _), ?_⟩
   exact⟨by rw [<-HSZ.out];exact HTR.out,⟨zs,by rw [<-HSZ.out];rw [<-HSZ.out] at HLAY;exact HLAY.out,rfl⟩,rfl,⟨zs,by rw [<-HSZ.out];rw [<-HSZ.out] at HLAY;exact HLAY.out,HZ128.out,rfl⟩⟩
end Go.Proofs.YtkpgjkekmdecbaaGreat
