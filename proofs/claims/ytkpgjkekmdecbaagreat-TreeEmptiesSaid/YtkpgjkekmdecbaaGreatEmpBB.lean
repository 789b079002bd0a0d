/- Lemmas for the claim. No conditions beside those that each states. -/
import Derived.Test.YtkpgjkekmdecbaaGreatEmpBA
import Derived.Test.YtkpgjkekmdecbaaGreatEmpAH
import Derived.Test.YtkpgjkekmdecbaaGreatEmpAZ
import Derived.Test.YtkpgjkekmdecbaaGreatEmpAP
set_option maxRecDepth 100000
set_option maxHeartbeats 8000000
set_option linter.all false

namespace Go.Proofs.YtkpgjkekmdecbaaGreat
open Go.RowKit
variable {w w' W W' w1 w2:World} {T:TypeId} {gv:Value} {n i g tb mb k:Nat} {S bs:List Nat} {err:Int} {key:Ky} {q:Ptr4} {l:List Pr} {yv:Rfm} {ms gs:List Ptr4} {f:List Pr -> Except Int (List Pr)} {y:Sy} {v v':Sv} {L L':List Blk} {s:TS} {r:Root}
def sto0:Sto:=⟨1,[],0,0,0,0,0⟩
structure NewSy (y:Sy) (v:Sv):Prop where
 st:v.st=sto0
 free:v.spc.free= [(0,v.spc.cells)]
 used:v.spc.used= []
 leaving:v.spc.leaving= []
 back:v.spc.back=0
theorem Fresh.none {s:Spc} {C:Int} (h:Fresh s C [] 0) (hi:SpI s) (hC:1<=C) (hC2:C<=40000):s.free= [(0,C)]/\s.used= []:=by
 have hu:s.used= []:=Ok.ext hi.okU ⟨List.Pairwise.nil,by simp⟩ (fun c=> by rw [h.used];rfl)
 refine⟨Ok.ext hi.okF ⟨by simp,by simp;omega⟩ (fun c=> ?_),hu⟩
 have h1:=hi.all c
 rw [h.cells,hu,h.leaving] at h1
 have h2: ¬Mem [] c:=by rintro⟨x,hx,_⟩;cases hx
 constructor
 ·intro h3
  have h4:=h1.2 (.inl h3)
  exact⟨(0,C),by simp,h4⟩
 ·rintro⟨x,hx,h4⟩
  simp at hx
  subst hx
  rcases h1.1 h4 with h5 | h5 | h5
  ·exact h5
  ·exact(h2 h5).elim
  ·exact(h2 h5).elim
theorem stnew_c (a r gg k S F:Nat) (ws:List (Nat×Nat×List UInt8)) (w:World) (hr:RackR w r gg (k+4) S ws) (ha:ArrR w a r (k+4) F) (hk1:1<=k) (hk:k<=8) (hS2:S<=2000) (hF:F < S):
  Calls Tryz.prog 27 #[.pointer (some ⟨a,0,none⟩),.slice none 0 0,.int .i64 1] w fun e w'=> ∃b sp v,e= .returned (.tuple #[.pointer (some ⟨b,0,none⟩),.int .i64 0])/\SyR w' ⟨b,a,r,gg,sp,k,S,F⟩ v/\v.ws=ws/\NewSy ⟨b,a,r,gg,sp,k,S,F⟩ v/\w.heap.size<=b/\w.heap.size<=sp/\Ext [] w w':=by
 obtain⟨HR,HA⟩:=h_2 hr ha
 have hm:(k+4)*(S - F)<=12*2000:=Nat.mul_le_mul (by omega) (by omega)
 have hm2:5*1<=(k+4)*(S - F):=Nat.mul_le_mul (by omega) (by omega)
 clear hr ha
 go_enter Tryz.func27,Tryz.ntmps27
 go_wp2_with fail
 refine(dO_ a r gg (k+4) S F ws _ HR.out HA.out (by omega) hS2 (by omega)).mono ?_
 rintro e W1 ⟨rfl,hE1⟩
 obtain⟨C,hC⟩: ∃C,C=(k+4)*(S - F):=⟨_,rfl⟩
 rw [<-hC] at hm hm2 ⊢
 have HC:=hi_ hC
 clear hC
 go_wp2_with fail
 refine(new_c (C:Int) (.slice none 0 0) [] _ (.inl ⟨rfl,rfl⟩) (by omega) (by omega) (by simp)).mono ?_
 rintro e W2 ⟨p,err,rfl,hE2,hrel⟩
 rcases hrel with ⟨h,_⟩ | ⟨_,_,h,_⟩ | ⟨_,_,_,h,_⟩ | ⟨_,_,_,_,rfl,b,s,rfl,hb,hsr,hsi,hfr⟩
 ·omega
 ·simp at h
 ·exact(h (fun i hi=> by simp at hi)).elim
 ·have HSR:=hi_ hsr
  obtain⟨HSI,HFR⟩:=h_2 hsi hfr
  have hE02:=hE1.trans hE2
  have lb:=hE1.size
  have lb2:=hE2.size
  clear hsr hsi hfr hE1 hE2
  go_wp2
  go_ret2
  have hbl:=heap_alloc_new W2 (.cells (fP_ a b (.slice none 0 0) sto0) 117)
  have hEa:=(Ext.refl [] W2).alloc (.cells (fP_ a b (.slice none 0 0) sto0) 117)
  have hf:=HFR.out.none HSI.out (by omega) (by omega)
  refine⟨W2.heap.size,b,⟨sto0,ws,s⟩,rfl,⟨⟨_,hbl,⟨[],.inl ⟨rfl,rfl⟩,by simp,rfl⟩,by simp [blkL]⟩,(HA.out.ext0 hE02).ext0 hEa,(HR.out.ext0 hE02).ext0 hEa,HSR.out.ext0 hEa,HSI.out,hk1,hk,hS2,Nat.le_of_lt hF, ?_,by simp [sto0]⟩,rfl,⟨rfl, ?_,hf.2,HFR.out.leaving,HFR.out.back⟩,by omega,by omega,hE02.trans hEa⟩
  ·show s.cells=_
   rw [HFR.out.cells,HC.out]
  ·show s.free=_
   rw [hf.1,HFR.out.cells]
theorem gp_ (S:Nat) (w:World) (hS1:2<=S) (hS:S<=2000):
  Calls Tryz.prog 12 #[.int .i64 S] w fun e w'=> ∃y v,e= .returned (.tuple #[.pointer (some ⟨y.r,0,none⟩),.pointer (some ⟨y.a,0,none⟩),.pointer (some ⟨y.b,0,none⟩),.bool true])/\SyR w' y v/\y.k=1/\y.S=S/\y.F=1/\v.ws= []/\NewSy y v/\(∀b∈ [y.b,y.r,y.sp],w.heap.size<=b)/\Ext [] w w':=by
 go_enter Tryz.func12,Tryz.ntmps12
 go_wp2_with fail
 refine(rknew_c (1+4) S _ (by omega) (by omega) (by omega) hS).mono ?_
 rintro e W1 ⟨r,gg,rfl,hr,lr, -,hE1⟩
 have HR1:=hi_ hr
 clear hr
 go_wp2_with fail
 refine(arnew_c r gg (1+4) S 1 [] _ HR1.out (by omega) (by omega)).mono ?_
 rintro e W3 ⟨a,rfl,ha, -,hE3⟩
 have HR3:=hi_ (HR1.out.ext0 hE3)
 have HA3:=hi_ ha
 have hE03:=hE1.trans hE3
 clear ha hE1 hE3 HR1
 go_wp2_with fail
 refine(stnew_c a r gg 1 S 1 [] _ HR3.out HA3.out (by omega) (by omega) hS (by omega)).mono ?_
 rintro e W5 ⟨b,sp,v,rfl,hsy,hws,hnew,lb,lsp,hE5⟩
 have l03:=hE03.size
 have HSY:=hi_ hsy
 have hE05:=hE03.trans hE5
 obtain⟨HWS,HNEW⟩:=h_2 hws hnew
 clear hsy hE03 hE5 hws hnew HR3 HA3
 go_wp2_with fail
 refine bodyPost_ret (v:= .tuple #[.pointer (some ⟨r,0,none⟩),.pointer (some ⟨a,0,none⟩),.pointer (some ⟨b,0,none⟩),.bool true]) (by simp [results,Tryz.results12,go_sem]) rfl ?_
 exact⟨⟨b,a,r,gg,sp,1,S,1⟩,v,rfl,HSY.out,rfl,rfl,rfl,HWS.out,HNEW.out,fun z hz=> by
   simp at hz
   rcases hz with rfl | rfl | rfl <;> omega,hE05⟩
def MapR (w:World) (mb:Nat) (l:List Pr):Prop:= ∃lv,w.heap[mb]? =some (.cells #[lv] 48 (0,0))/\EPr.Ow 36 w lv l
theorem MapR.ext (h:MapR w mb l) (he:Ext S w w') (hS: ∀k∈S,∀T∈([48,36]:List TypeId),p_ w k≠some T):MapR w' mb l:=by
 obtain⟨lv,h1,h2⟩:=h
 exact⟨lv,he.blk h1 (fun hm=> hS mb hm _ (by simp) (d_ h1)),h2.ext he (fun g hg hm=> hS g hm _ (by simp) (h2.tagOf g hg))⟩
theorem MapR.ext0 (h:MapR w mb l) (he:Ext [] w w'):MapR w' mb l:=h.ext he (by simp)
theorem MapR.cell (h:MapR w mb l): ∃p c,w.cell? ⟨mb,0,none⟩=some (.slice p l.length c)/\l.length<=c/\EPr.Ow 36 w (.slice p l.length c) l/\w.heap[mb]? =some (.cells #[.slice p l.length c] 48 (0,0)):=by
 obtain⟨lv,h1,h2⟩:=h
 obtain⟨p,c,rfl,hc⟩:=h2.rd.len_eq
 exact⟨p,c,by rw [cell_of_row _ mb 0 _ _ _ h1];rfl,hc,h2,h1⟩
theorem at_stop (hs:SrtK l) (hi:i<=l.length) (h1: ∀j,j < i->(l.getD j ([],[])).1 < key) (h2:i < l.length-> ¬(l.getD i ([],[])).1 < key):atF l key=i:=by
 refine atF_of hi h1 (fun j hj hl=> ?_)
 by_cases e:i=j
 ·subst e;exact h2 hl
 ·intro hlt
  exact h2 (by omega) (P_ (hs.at (by omega) hl) hlt)
theorem place_c (mb:Nat) (l:List Pr) (key:Ky) (w:World) (h:MapR w mb l) (hs:SrtK l) (hl:l.length<=100000):
  Calls Tryz.prog 53 #[.pointer (some ⟨mb,0,none⟩),.string ⟨key.toArray⟩] w fun e w'=> e= .returned (.tuple #[.int .i64 (atF l key),.bool (F_ l key)])/\Ext [] w w':=by
 obtain⟨p,c,c0,hc,how, -⟩:=h.cell
 obtain⟨N,hN⟩: ∃N,N=l.length:=⟨_,rfl⟩
 rw [<-hN] at c0 hc how hl
 obtain⟨HN,HOW,HS⟩:=h_3 hN how hs
 obtain⟨A,hA⟩: ∃A,A=atF l key:=⟨_,rfl⟩
 obtain⟨B,hB⟩: ∃B,B=F_ l key:=⟨_,rfl⟩
 rw [<-hA,<-hB]
 obtain⟨HA,HB⟩:=h_2 hA hB
 have HC0:Hid (∀W,Ext [] w W->W.cell? ⟨mb,0,none⟩=some (.slice p N c)):=hi_ (fun W hE=> hE.cell c0 (by simp))
 clear hN how hs h hA hB c0
 go_enter Tryz.func53,Tryz.ntmps53
 go_wp2_with fail
 go_loopw [6] (fun iv wr=> ∃i:Nat,iv= .int .i64 i/\i<=N/\Hid (∀j,j < i->(l.getD j ([],[])).1 < key)/\Hid (Ext [] w wr)) (fun iv _=> N - (intOf iv).toNat)
 case atStart=> exact⟨0,rfl,Nat.zero_le _,hi_ (fun j hj=> by omega),hi_ (Ext.refl _ _)⟩
 case round=>
  obtain⟨i,rfl,hi,HJ,HE⟩:=hrel
  have c0:=HC0.out _ HE.out
  by_cases hlt:i < N
  ·have z1:(i:Int) < (N:Int):=by omega
   obtain⟨g,o,rfl⟩: ∃g o,p=some ⟨g,o,none⟩:=by
    rcases HOW.out with ⟨h,_⟩ | ⟨g,o,c,_,h,_⟩
    ·simp only [Value.slice.injEq] at h;omega
    ·simp only [Value.slice.injEq] at h;exact⟨g,_,h.1⟩
   have hil:i < l.length:=by rw [<-HN.out];exact hlt
   obtain⟨m1, -⟩:=ag_ (HOW.out.rd.ext0 HE.out) i hil
   obtain⟨x,hx⟩: ∃x,x=l.getD i ([],[]):=⟨_,rfl⟩
   rw [<-hx] at m1
   have zi:((i:Int)).toNat=i:=by omega
   by_cases hk:x.1 < key
   ·have hbl:Op.bytesLess x.1 key=true:=by rw [ay_];simpa using hk
    have HJ2:Hid (∀j,j < i+1->(l.getD j ([],[])).1 < key):=hi_ (fun j hj=> by
     by_cases e:j=i
     ·subst e;rw [<-hx];exact hk
     ·exact HJ.out j (by omega))
    clear hk hx hil
    go_wp2_with fail
    go_roundw
    case rel=> exact⟨i+1,by go_num,by omega,HJ2,HE⟩
    case measure=> simp [intOf];omega
   ·have hbl:Op.bytesLess x.1 key=false:=by rw [ay_];simpa using hk
    have hai:A=i:=by
     rw [HA.out]
     exact at_stop HS.out (by rw [<-HN.out];exact hi) HJ.out (fun _=> by rw [<-hx];exact hk)
    have hth:B=(x.1==key):=by
     have h1:l[i]? =some x:=by rw [hx];simp [List.getD,hil]
     rw [HB.out,F_,<-HA.out,hai,h1]
     simp only [Option.map_some,Option.some.injEq]
     by_cases e:x.1=key <;> simp [e]
    obtain⟨HAI,HTH⟩:=h_2 hai hth
    have hd:decide ((i:Int) < (N:Int))=true:=by simpa using z1
    clear hk hx hil hai hth HJ
    go_wp2_with fail
    go_big_quiet (fail)
    go_wp2_with fail
    go_ret2
    exact⟨by simp only [HAI.out,HTH.out];rfl,HE.out.drewN nq⟩
  ·have z1: ¬((i:Int) < (N:Int)):=by omega
   have hiN:i=N:=by omega
   have hai:A=i:=by
    rw [HA.out]
    exact at_stop HS.out (by rw [<-HN.out];exact hi) HJ.out (fun h=> by rw [<-HN.out] at h;omega)
   have hth:B=false:=by
    rw [HB.out,F_,<-HA.out,hai,List.getElem?_eq_none (by rw [<-HN.out];omega)]
    rfl
   obtain⟨HAI,HTH⟩:=h_2 hai hth
   have hd:decide ((i:Int) < (N:Int))=false:=by simpa using z1
   clear hai hth HJ hiN
   go_wp2_with fail
   go_big_quiet (fail)
   go_wp2_with fail
   go_ret2
   exact⟨by simp only [HAI.out,HTH.out];rfl,HE.out.drewN nq⟩
theorem same_c (va vb:Value) (la lb:List Pr) (w:World) (ha:EPr.Rd w va la) (hb:EPr.Rd w vb lb) (hl:la.length<=1000000) (hl2:lb.length<=1000000):
  Calls Tryz.prog 17 #[va,vb] w fun e w'=> e= .returned (.bool (decide (la=lb)))/\Ext [] w w':=by
 obtain⟨p,c,rfl,hc⟩:=ha.len_eq
 obtain⟨p2,c2,rfl,hc2⟩:=hb.len_eq
 obtain⟨N,hN⟩: ∃N,N=la.length:=⟨_,rfl⟩
 obtain⟨N2,hN2⟩: ∃N,N=lb.length:=⟨_,rfl⟩
 rw [<-hN] at ha hl hc ⊢
 rw [<-hN2] at hb hl2 hc2 ⊢
 obtain⟨HN,HN2,HA,HB⟩:=h_4 hN hN2 ha hb
 obtain⟨D,hD⟩: ∃D,D=decide (la=lb):=⟨_,rfl⟩
 rw [<-hD]
 have HD:=hi_ hD
 clear ha hb hN hN2 hD
 by_cases hne:N=N2
 ·subst hne
  go_enter Tryz.func17,Tryz.ntmps17
  go_wp2_with fail
  go_loopw [5] (fun iv wr=> ∃i:Nat,iv= .int .i64 i/\i<=N/\Hid (la.take i=lb.take i)/\Hid (Ext [] w wr)) (fun iv _=> N - (intOf iv).toNat)
  case atStart=> exact⟨0,rfl,Nat.zero_le _,hi_ (by simp),hi_ (Ext.refl _ _)⟩
  case round=>
   obtain⟨i,rfl,hi,HT,HE⟩:=hrel
   by_cases hlt:i < N
   ·have z1:(i:Int) < (N:Int):=by omega
    obtain⟨g,o,rfl⟩: ∃g o,p=some ⟨g,o,none⟩:=by
     rcases HA.out with ⟨h,h0⟩ | ⟨g,o,c,h,_⟩
     ·have:=HN.out;rw [h0] at this;simp at this;omega
     ·simp only [Value.slice.injEq] at h;exact⟨g,_,h.1⟩
    obtain⟨g2,o2,rfl⟩: ∃g o,p2=some ⟨g,o,none⟩:=by
     rcases HB.out with ⟨h,h0⟩ | ⟨g,o,c,h,_⟩
     ·have:=HN2.out;rw [h0] at this;simp at this;omega
     ·simp only [Value.slice.injEq] at h;exact⟨g,_,h.1⟩
    have hil:i < la.length:=by rw [<-HN.out];exact hlt
    have hil2:i < lb.length:=by rw [<-HN2.out];exact hlt
    obtain⟨m1,m2⟩:=ag_ (HA.out.ext0 HE.out) i hil
    obtain⟨k1,k2⟩:=ag_ (HB.out.ext0 HE.out) i hil2
    obtain⟨x,hx⟩: ∃x,x=la.getD i ([],[]):=⟨_,rfl⟩
    obtain⟨y,hy⟩: ∃y,y=lb.getD i ([],[]):=⟨_,rfl⟩
    rw [<-hx] at m1 m2
    rw [<-hy] at k1 k2
    have hx':la[i]? =some x:=by rw [hx];simp [List.getD,hil]
    have hy':lb[i]? =some y:=by rw [hy];simp [List.getD,hil2]
    obtain⟨HX,HY⟩:=h_2 hx' hy'
    clear hx hy hil hil2 hx' hy'
    by_cases he:x=y
    ·subst he
     have HT2:Hid (la.take (i+1)=lb.take (i+1)):=hi_ (by rw [List.take_add_one,List.take_add_one,HT.out,HX.out,HY.out])
     go_wp2_with fail
     go_big_quiet (fail)
     go_wp2_with fail
     go_roundw
     case rel=> exact⟨i+1,by go_num,by omega,HT2,hi_ (HE.out.drewN nq)⟩
     case measure=> simp [intOf];omega
    ·have hdf:D=false:=by
      rw [HD.out,decide_eq_false_iff_not]
      intro e
      have h1:=HX.out
      rw [e,HY.out] at h1
      exact he (Option.some.inj h1).symm
     have HDF:=hi_ hdf
     clear hdf
     by_cases e1:x.1=y.1
     ·have e2:(x.2==y.2)=false:=by
       have h2: ¬x.2=y.2:=fun h2=> he (Prod.ext e1 h2)
       simpa using h2
      rw [<-e1] at k1
      clear he e1
      go_wp2_with fail
      go_big_quiet (fail)
      go_wp2_with fail
      go_ret
      exact⟨by rw [HDF.out];rfl,HE.out.drewN nq⟩
     ·have e2:(x.1==y.1)=false:=by simpa using e1
      clear he e1
      go_wp2_with fail
      go_big_quiet (fail)
      go_wp2_with fail
      go_ret
      exact⟨by rw [HDF.out];rfl,HE.out.drewN nq⟩
   ·have z1: ¬((i:Int) < (N:Int)):=by omega
    have hd:D=true:=by
     have h1:=HT.out
     rw [List.take_of_length_le (by rw [<-HN.out];omega),List.take_of_length_le (by rw [<-HN2.out];omega)] at h1
     rw [HD.out]
     simpa using h1
    have HDD:=hi_ hd
    clear hd
    go_wp2_with fail
    go_ret
    exact⟨by rw [HDD.out];rfl,HE.out⟩
 ·have hd:D=false:=by
   rw [HD.out,decide_eq_false_iff_not]
   intro e
   exact hne (by rw [HN.out,HN2.out,e])
  have HDD:=hi_ hd
  have z1:((N:Int) !=(N2:Int))=true:=bne_iff_ne.2 (by omega)
  clear hd hne
  go_enter Tryz.func17,Tryz.ntmps17
  go_wp2_with fail
  go_ret
  exact⟨by rw [HDD.out];rfl,Ext.refl _ _⟩
theorem bX_ (W:World) (h:n=W.heap.size):EPr.Ow 36 (W.alloc (.cells #[] 36)) (.slice (some ⟨n,0,none⟩) 0 0) []:=by
 subst h
 exact .inr ⟨W.heap.size,0,0,[],rfl,heap_alloc_new W _,by simp,by simp,by simp⟩
theorem rd_cut {p:Option Addr} {N c i:Nat} (h:EPr.Rd w (.slice p N c) l) (hi:i<=l.length):EPr.Rd w (.slice p i c) (l.take i):=by
 cases p with
 | none=>
  rcases h with ⟨h,h0⟩ | ⟨g,o,c',h,_⟩
  ·subst h0
   simp only [Value.slice.injEq,true_and] at h
   have h9:i=0:=by simpa using hi
   subst h9
   exact .inl ⟨by rw [h.2],by simp⟩
  ·simp at h
 | some a=> exact h.takeS hi
theorem rd_none {p:Option Addr} {N c:Nat} (h:EPr.Rd w (.slice p N c) l):EPr.Rd w (.slice p 0 0) []:=by
 rcases h with ⟨h,h0⟩ | ⟨g,o,c',h,_,h2,_⟩
 ·simp only [Value.slice.injEq] at h
  rw [h.1]
  exact .inl ⟨rfl,rfl⟩
 ·simp only [Value.slice.injEq] at h
  rw [h.1]
  exact .inr ⟨g,o,0,rfl,Nat.le_refl _,h2,fun j u hj=> by simp [Enc.flat] at hj⟩
theorem mput_c (mb:Nat) (l:List Pr) (key val:Ky) (w:World) (h:MapR w mb l) (hs:SrtK l) (hl:l.length<=100000) (hb: ¬cD_ key val):
  Calls Tryz.prog 24 #[.pointer (some ⟨mb,0,none⟩),.string ⟨key.toArray⟩,.string ⟨val.toArray⟩] w fun e w'=> e= .returned (.int .i64 0)/\MapR w' mb (l.take (atF l key)++ [(key,val)]++l.drop (atF l key+(if F_ l key then 1 else 0)))/\Ext [mb] w w':=by
 have z1:(key== [])=false:=by
  have h1: ¬key= []:=fun e=> hb (.inl e)
  simpa using h1
 have z2: ¬24 < key.length:=fun e=> hb (.inr (.inl e))
 have z3: ¬300 < val.length:=fun e=> hb (.inr (.inr e))
 have hpl:=place_c mb l key w h hs hl
 obtain⟨i,hi⟩: ∃i,i=atF l key:=⟨_,rfl⟩
 obtain⟨th,hth⟩: ∃b,b=F_ l key:=⟨_,rfl⟩
 have hil:i<=l.length:=by rw [hi];exact dN_ l key
 have hit:th=true->i < l.length:=fun h=> by rw [hi];exact bH_ (by rw [<-hth];exact h)
 rw [<-hi,<-hth] at hpl ⊢
 obtain⟨d,hd⟩: ∃d:Nat,d=if th=true then 1 else 0:=⟨_,rfl⟩
 rw [<-hd]
 obtain⟨rest,hrest⟩: ∃r,r=l.drop (i+d):=⟨_,rfl⟩
 rw [<-hrest]
 obtain⟨HD,HRE,HPL,HM⟩:=h_4 hd hrest hpl h
 obtain⟨N,hN⟩: ∃N,N=l.length:=⟨_,rfl⟩
 have HN:=hi_ hN
 have HRL:Hid (rest.length<=N):=hi_ (by rw [hrest,List.length_drop,hN];omega)
 clear hpl h hs hb hi hth hd hrest
 go_enter Tryz.func24,Tryz.ntmps24
 go_wp2_with fail
 refine HPL.out.mono ?_
 rintro e W1 ⟨rfl,hE1⟩
 obtain⟨p,c,c0,hc,how,hblk⟩:=(HM.out.ext0 hE1).cell
 have HTK:=hi_ (rd_cut how.rd hil)
 have HTL:Hid ((l.take i).length=i):=hi_ (by rw [List.length_take];omega)
 rw [<-hN] at c0 hc hil hit hl how hblk
 obtain⟨HOW,HBK,HE1⟩:=h_3 how hblk hE1
 clear how hblk hE1 hN HPL
 have HSEP:Hid (∀g∈blkL (.slice p N c),∀x,W1.heap.size<=x->g≠x):=hi_ (fun g hg x hx e=> by have:=HOW.out.lt g hg;omega)
 cases th with
 | true=>
  have hit:=hit rfl
  have HDD:Hid (d=1):=hi_ HD.out
  obtain⟨g,o,rfl⟩: ∃g o,p=some ⟨g,o,none⟩:=by
   rcases HOW.out with ⟨h,_⟩ | ⟨g,o,c,_,h,_⟩
   ·simp only [Value.slice.injEq] at h;omega
   ·simp only [Value.slice.injEq] at h;exact⟨g,_,h.1⟩
  by_cases hci:c=i+1
  ·subst hci
   have hnil:rest= []:=by rw [HRE.out,HDD.out];exact List.drop_eq_nil_of_le (by rw [<-HN.out];omega)
   have HRR:Hid (EPr.Rd W1 (.slice (some ⟨g,o,none⟩) 0 0) rest):=hi_ (by rw [hnil];exact rd_none HOW.out.rd)
   clear hnil
   -- the rest is known; three appends and the store
   have hEa:=(Ext.refl [] W1).alloc (.cells #[] 36)
   have ca:=hEa.cell c0 (by simp)
   go_wp2_with (with_reducible refine e_ (d:=50) ?_)
   refine k_ rfl fun K hK=> b_ (s:= .tmp 43) (x:= .tmp 49) (E:=EPr) (T:=36) (zero:=([],[])) (bytes:=32) (v:= .slice (some ⟨W1.heap.size,0,none⟩) 0 0) (u:=(.slice (some ⟨g,o,none⟩) i (i+1))) (xs:= []) (ys:=l.take i) tiPr Tryz.underlying22 Tryz.underlying22 rfl rfl rfl (bX_ W1 rfl) (HTK.out.ext0 hEa) (by rw [HTL.out];simp;omega) (by rw [HTL.out];simp;omega) ?_
   intro v2 W2 how2 hext2 hnear2 _
   obtain⟨hE2,hf2⟩:=s_ hEa (by simp [blkL]) hext2 hnear2
   simp only [List.nil_append] at how2
   obtain⟨p2,c2,rfl,_⟩:=how2.rd.len_eq
   rw [HTL.out] at how2 hf2 ⊢
   obtain⟨HO2,HE2,HF2⟩:=h_3 how2 hE2 hf2
   have HR2:=hi_ ((HRR.out).ext0 hE2)
   have cm:=hE2.cell c0 (by simp)
   refine hK _ _ ?_
   clear hK how2 hext2 hnear2 hE2 hf2 hEa ca
   go_wp2_with (with_reducible refine e_ (d:=55) ?_)
   have hEb:=(Ext.refl [] W2).alloc (.cells #[.string ⟨key.toArray⟩,.string ⟨val.toArray⟩] 36)
   refine k_ rfl fun K hK=> b_ (s:= .tmp 50) (x:= .tmp 54) (E:=EPr) (T:=36) (zero:=([],[])) (bytes:=32) (v:= .slice p2 i c2) (u:= .slice (some ⟨W2.heap.size,0,none⟩) 1 1) (xs:=l.take i) (ys:= [(key,val)]) tiPr Tryz.underlying22 Tryz.underlying22 rfl rfl rfl (HO2.out.ext0 hEb) (bf_ W2 (key,val)).rd (by rw [HTL.out];simp;omega) (by rw [HTL.out];simp;omega) ?_
   intro v3 W3 how3 hext3 hnear3 _
   obtain⟨hE3,hf3⟩:=s_ (HE2.out.trans hEb) HF2.out hext3 hnear3
   have hr3:=(HR2.out.ext0 hEb).ext hext3 (fun g hg hm=> HSEP.out g hg _ (HF2.out g hm) rfl)
   have cm3:=hE3.cell c0 (by simp)
   obtain⟨p3,c3,rfl,_⟩:=how3.rd.len_eq
   have hl3:(l.take i++ [(key,val)]).length=i+1:=by rw [List.length_append,HTL.out];rfl
   rw [hl3] at how3 hf3 ⊢
   obtain⟨HO3,HE3,HF3,HR3,HL3⟩:=h_5 how3 hE3 hf3 hr3 hl3
   refine hK _ _ ?_
   clear hK how3 hext3 hnear3 hE3 hf3 hEb hr3 hl3 cm
   go_wp2_with (with_reducible refine e_ (d:=57) ?_)
   refine k_ rfl fun K hK=> b_ (s:= .tmp 55) (x:= .tmp 56) (E:=EPr) (T:=36) (zero:=([],[])) (bytes:=32) (v:= .slice p3 (i+1) c3) (u:=(.slice (some ⟨g,o,none⟩) 0 0)) (xs:=l.take i++ [(key,val)]) (ys:=rest) tiPr Tryz.underlying22 Tryz.underlying22 rfl rfl rfl HO3.out HR3.out (by rw [HL3.out];have:=HRL.out;omega) (by rw [HL3.out];have:=HRL.out;omega) ?_
   intro v4 W4 how4 hext4 hnear4 _
   obtain⟨p4,c4,rfl,_⟩:=how4.rd.len_eq
   obtain⟨M4,hM4⟩: ∃M,M=(l.take i++ [(key,val)]++rest).length:=⟨_,rfl⟩
   rw [<-hM4] at how4 ⊢
   clear hM4
   obtain⟨hE4, -⟩:=s_ HE3.out HF3.out hext4 hnear4
   have hb4:=hE4.blk HBK.out (by simp)
   have cm4:=hE4.cell c0 (by simp)
   have hfz: ∀j,W4.frozen? ⟨mb,j,none⟩=false:=fun j=> frozen_of_row _ _ _ _ _ hb4
   have hb5:=heap_setCell_same W4 mb 0 _ _ (.slice p4 M4 c4) hb4
   have hE5:Ext [mb] W4 (W4.setCell ⟨mb,0,none⟩ (.slice p4 M4 c4)):=(Ext.refl [mb] W4).setCell (.inl (by simp)) _
   have HX:=hi_ (⟨⟨_,hb5,how4.ext hE5 (by simpa using how4.ne hb4 (by decide))⟩,((HE1.out.nil (S:= [mb])).trans (hE4.nil)).trans hE5⟩:MapR (W4.setCell ⟨mb,0,none⟩ (.slice p4 M4 c4)) mb (l.take i++ [(key,val)]++rest)/\Ext [mb] w (W4.setCell ⟨mb,0,none⟩ (.slice p4 M4 c4)))
   refine hK _ _ ?_
   clear hK how4 hext4 hnear4 hE4 hb4 hb5 hE5 cm3 c0 HO3 HE3 HF3 HR3 HO2 HE2 HF2 HR2
   go_wp2
   go_ret
   exact⟨rfl,HX.out⟩
  ·have HRR:Hid (EPr.Rd W1 (.slice (some ⟨g,o+(i+1)*2,none⟩) (N - (i+1)) (c - (i+1))) rest):=hi_ (by rw [HRE.out,HDD.out];exact HOW.out.rd.dropS)
   -- the rest is known; three appends and the store
   have hEa:=(Ext.refl [] W1).alloc (.cells #[] 36)
   have ca:=hEa.cell c0 (by simp)
   go_wp2_with (with_reducible refine e_ (d:=50) ?_)
   refine k_ rfl fun K hK=> b_ (s:= .tmp 43) (x:= .tmp 49) (E:=EPr) (T:=36) (zero:=([],[])) (bytes:=32) (v:= .slice (some ⟨W1.heap.size,0,none⟩) 0 0) (u:=(.slice (some ⟨g,o,none⟩) i c)) (xs:= []) (ys:=l.take i) tiPr Tryz.underlying22 Tryz.underlying22 rfl rfl rfl (bX_ W1 rfl) (HTK.out.ext0 hEa) (by rw [HTL.out];simp;omega) (by rw [HTL.out];simp;omega) ?_
   intro v2 W2 how2 hext2 hnear2 _
   obtain⟨hE2,hf2⟩:=s_ hEa (by simp [blkL]) hext2 hnear2
   simp only [List.nil_append] at how2
   obtain⟨p2,c2,rfl,_⟩:=how2.rd.len_eq
   rw [HTL.out] at how2 hf2 ⊢
   obtain⟨HO2,HE2,HF2⟩:=h_3 how2 hE2 hf2
   have HR2:=hi_ ((HRR.out).ext0 hE2)
   have cm:=hE2.cell c0 (by simp)
   refine hK _ _ ?_
   clear hK how2 hext2 hnear2 hE2 hf2 hEa ca
   go_wp2_with (with_reducible refine e_ (d:=55) ?_)
   have hEb:=(Ext.refl [] W2).alloc (.cells #[.string ⟨key.toArray⟩,.string ⟨val.toArray⟩] 36)
   refine k_ rfl fun K hK=> b_ (s:= .tmp 50) (x:= .tmp 54) (E:=EPr) (T:=36) (zero:=([],[])) (bytes:=32) (v:= .slice p2 i c2) (u:= .slice (some ⟨W2.heap.size,0,none⟩) 1 1) (xs:=l.take i) (ys:= [(key,val)]) tiPr Tryz.underlying22 Tryz.underlying22 rfl rfl rfl (HO2.out.ext0 hEb) (bf_ W2 (key,val)).rd (by rw [HTL.out];simp;omega) (by rw [HTL.out];simp;omega) ?_
   intro v3 W3 how3 hext3 hnear3 _
   obtain⟨hE3,hf3⟩:=s_ (HE2.out.trans hEb) HF2.out hext3 hnear3
   have hr3:=(HR2.out.ext0 hEb).ext hext3 (fun g hg hm=> HSEP.out g hg _ (HF2.out g hm) rfl)
   have cm3:=hE3.cell c0 (by simp)
   obtain⟨p3,c3,rfl,_⟩:=how3.rd.len_eq
   have hl3:(l.take i++ [(key,val)]).length=i+1:=by rw [List.length_append,HTL.out];rfl
   rw [hl3] at how3 hf3 ⊢
   obtain⟨HO3,HE3,HF3,HR3,HL3⟩:=h_5 how3 hE3 hf3 hr3 hl3
   refine hK _ _ ?_
   clear hK how3 hext3 hnear3 hE3 hf3 hEb hr3 hl3 cm
   go_wp2_with (with_reducible refine e_ (d:=57) ?_)
   refine k_ rfl fun K hK=> b_ (s:= .tmp 55) (x:= .tmp 56) (E:=EPr) (T:=36) (zero:=([],[])) (bytes:=32) (v:= .slice p3 (i+1) c3) (u:=(.slice (some ⟨g,o+(i+1)*2,none⟩) (N - (i+1)) (c - (i+1)))) (xs:=l.take i++ [(key,val)]) (ys:=rest) tiPr Tryz.underlying22 Tryz.underlying22 rfl rfl rfl HO3.out HR3.out (by rw [HL3.out];have:=HRL.out;omega) (by rw [HL3.out];have:=HRL.out;omega) ?_
   intro v4 W4 how4 hext4 hnear4 _
   obtain⟨p4,c4,rfl,_⟩:=how4.rd.len_eq
   obtain⟨M4,hM4⟩: ∃M,M=(l.take i++ [(key,val)]++rest).length:=⟨_,rfl⟩
   rw [<-hM4] at how4 ⊢
   clear hM4
   obtain⟨hE4, -⟩:=s_ HE3.out HF3.out hext4 hnear4
   have hb4:=hE4.blk HBK.out (by simp)
   have cm4:=hE4.cell c0 (by simp)
   have hfz: ∀j,W4.frozen? ⟨mb,j,none⟩=false:=fun j=> frozen_of_row _ _ _ _ _ hb4
   have hb5:=heap_setCell_same W4 mb 0 _ _ (.slice p4 M4 c4) hb4
   have hE5:Ext [mb] W4 (W4.setCell ⟨mb,0,none⟩ (.slice p4 M4 c4)):=(Ext.refl [mb] W4).setCell (.inl (by simp)) _
   have HX:=hi_ (⟨⟨_,hb5,how4.ext hE5 (by simpa using how4.ne hb4 (by decide))⟩,((HE1.out.nil (S:= [mb])).trans (hE4.nil)).trans hE5⟩:MapR (W4.setCell ⟨mb,0,none⟩ (.slice p4 M4 c4)) mb (l.take i++ [(key,val)]++rest)/\Ext [mb] w (W4.setCell ⟨mb,0,none⟩ (.slice p4 M4 c4)))
   refine hK _ _ ?_
   clear hK how4 hext4 hnear4 hE4 hb4 hb5 hE5 cm3 c0 HO3 HE3 HF3 HR3 HO2 HE2 HF2 HR2
   go_wp2
   go_ret
   exact⟨rfl,HX.out⟩
 | false=>
  have HDD:Hid (d=0):=hi_ HD.out
  clear hit
  by_cases hci:i=c
  ·subst hci
   have hnil:rest= []:=by rw [HRE.out,HDD.out];exact List.drop_eq_nil_of_le (by rw [<-HN.out];omega)
   have HRR:Hid (EPr.Rd W1 (.slice p 0 0) rest):=hi_ (by rw [hnil];exact rd_none HOW.out.rd)
   clear hnil
   have HSEP:Hid (∀g∈blkL (.slice p 0 0),∀x,W1.heap.size<=x->g≠x):=hi_ (fun g hg=> HSEP.out g (by cases p <;> exact hg))
   -- the rest is known; three appends and the store
   have hEa:=(Ext.refl [] W1).alloc (.cells #[] 36)
   have ca:=hEa.cell c0 (by simp)
   go_wp2_with (with_reducible refine e_ (d:=50) ?_)
   refine k_ rfl fun K hK=> b_ (s:= .tmp 43) (x:= .tmp 49) (E:=EPr) (T:=36) (zero:=([],[])) (bytes:=32) (v:= .slice (some ⟨W1.heap.size,0,none⟩) 0 0) (u:=(.slice p i i)) (xs:= []) (ys:=l.take i) tiPr Tryz.underlying22 Tryz.underlying22 rfl rfl rfl (bX_ W1 rfl) (HTK.out.ext0 hEa) (by rw [HTL.out];simp;omega) (by rw [HTL.out];simp;omega) ?_
   intro v2 W2 how2 hext2 hnear2 _
   obtain⟨hE2,hf2⟩:=s_ hEa (by simp [blkL]) hext2 hnear2
   simp only [List.nil_append] at how2
   obtain⟨p2,c2,rfl,_⟩:=how2.rd.len_eq
   rw [HTL.out] at how2 hf2 ⊢
   obtain⟨HO2,HE2,HF2⟩:=h_3 how2 hE2 hf2
   have HR2:=hi_ ((HRR.out).ext0 hE2)
   have cm:=hE2.cell c0 (by simp)
   refine hK _ _ ?_
   clear hK how2 hext2 hnear2 hE2 hf2 hEa ca
   go_wp2_with (with_reducible refine e_ (d:=55) ?_)
   have hEb:=(Ext.refl [] W2).alloc (.cells #[.string ⟨key.toArray⟩,.string ⟨val.toArray⟩] 36)
   refine k_ rfl fun K hK=> b_ (s:= .tmp 50) (x:= .tmp 54) (E:=EPr) (T:=36) (zero:=([],[])) (bytes:=32) (v:= .slice p2 i c2) (u:= .slice (some ⟨W2.heap.size,0,none⟩) 1 1) (xs:=l.take i) (ys:= [(key,val)]) tiPr Tryz.underlying22 Tryz.underlying22 rfl rfl rfl (HO2.out.ext0 hEb) (bf_ W2 (key,val)).rd (by rw [HTL.out];simp;omega) (by rw [HTL.out];simp;omega) ?_
   intro v3 W3 how3 hext3 hnear3 _
   obtain⟨hE3,hf3⟩:=s_ (HE2.out.trans hEb) HF2.out hext3 hnear3
   have hr3:=(HR2.out.ext0 hEb).ext hext3 (fun g hg hm=> HSEP.out g hg _ (HF2.out g hm) rfl)
   have cm3:=hE3.cell c0 (by simp)
   obtain⟨p3,c3,rfl,_⟩:=how3.rd.len_eq
   have hl3:(l.take i++ [(key,val)]).length=i+1:=by rw [List.length_append,HTL.out];rfl
   rw [hl3] at how3 hf3 ⊢
   obtain⟨HO3,HE3,HF3,HR3,HL3⟩:=h_5 how3 hE3 hf3 hr3 hl3
   refine hK _ _ ?_
   clear hK how3 hext3 hnear3 hE3 hf3 hEb hr3 hl3 cm
   go_wp2_with (with_reducible refine e_ (d:=57) ?_)
   refine k_ rfl fun K hK=> b_ (s:= .tmp 55) (x:= .tmp 56) (E:=EPr) (T:=36) (zero:=([],[])) (bytes:=32) (v:= .slice p3 (i+1) c3) (u:=(.slice p 0 0)) (xs:=l.take i++ [(key,val)]) (ys:=rest) tiPr Tryz.underlying22 Tryz.underlying22 rfl rfl rfl HO3.out HR3.out (by rw [HL3.out];have:=HRL.out;omega) (by rw [HL3.out];have:=HRL.out;omega) ?_
   intro v4 W4 how4 hext4 hnear4 _
   obtain⟨p4,c4,rfl,_⟩:=how4.rd.len_eq
   obtain⟨M4,hM4⟩: ∃M,M=(l.take i++ [(key,val)]++rest).length:=⟨_,rfl⟩
   rw [<-hM4] at how4 ⊢
   clear hM4
   obtain⟨hE4, -⟩:=s_ HE3.out HF3.out hext4 hnear4
   have hb4:=hE4.blk HBK.out (by simp)
   have cm4:=hE4.cell c0 (by simp)
   have hfz: ∀j,W4.frozen? ⟨mb,j,none⟩=false:=fun j=> frozen_of_row _ _ _ _ _ hb4
   have hb5:=heap_setCell_same W4 mb 0 _ _ (.slice p4 M4 c4) hb4
   have hE5:Ext [mb] W4 (W4.setCell ⟨mb,0,none⟩ (.slice p4 M4 c4)):=(Ext.refl [mb] W4).setCell (.inl (by simp)) _
   have HX:=hi_ (⟨⟨_,hb5,how4.ext hE5 (by simpa using how4.ne hb4 (by decide))⟩,((HE1.out.nil (S:= [mb])).trans (hE4.nil)).trans hE5⟩:MapR (W4.setCell ⟨mb,0,none⟩ (.slice p4 M4 c4)) mb (l.take i++ [(key,val)]++rest)/\Ext [mb] w (W4.setCell ⟨mb,0,none⟩ (.slice p4 M4 c4)))
   refine hK _ _ ?_
   clear hK how4 hext4 hnear4 hE4 hb4 hb5 hE5 cm3 c0 HO3 HE3 HF3 HR3 HO2 HE2 HF2 HR2
   go_wp2
   go_ret
   exact⟨rfl,HX.out⟩
  ·obtain⟨g,o,rfl⟩: ∃g o,p=some ⟨g,o,none⟩:=by
    rcases HOW.out with ⟨h,_⟩ | ⟨g,o,c,_,h,_⟩
    ·simp only [Value.slice.injEq] at h;omega
    ·simp only [Value.slice.injEq] at h;exact⟨g,_,h.1⟩
   have HRR:Hid (EPr.Rd W1 (.slice (some ⟨g,o+i*2,none⟩) (N - i) (c - i)) rest):=hi_ (by rw [HRE.out,HDD.out];exact HOW.out.rd.dropS)
   -- the rest is known; three appends and the store
   have hEa:=(Ext.refl [] W1).alloc (.cells #[] 36)
   have ca:=hEa.cell c0 (by simp)
   go_wp2_with (with_reducible refine e_ (d:=50) ?_)
   refine k_ rfl fun K hK=> b_ (s:= .tmp 43) (x:= .tmp 49) (E:=EPr) (T:=36) (zero:=([],[])) (bytes:=32) (v:= .slice (some ⟨W1.heap.size,0,none⟩) 0 0) (u:=(.slice (some ⟨g,o,none⟩) i c)) (xs:= []) (ys:=l.take i) tiPr Tryz.underlying22 Tryz.underlying22 rfl rfl rfl (bX_ W1 rfl) (HTK.out.ext0 hEa) (by rw [HTL.out];simp;omega) (by rw [HTL.out];simp;omega) ?_
   intro v2 W2 how2 hext2 hnear2 _
   obtain⟨hE2,hf2⟩:=s_ hEa (by simp [blkL]) hext2 hnear2
   simp only [List.nil_append] at how2
   obtain⟨p2,c2,rfl,_⟩:=how2.rd.len_eq
   rw [HTL.out] at how2 hf2 ⊢
   obtain⟨HO2,HE2,HF2⟩:=h_3 how2 hE2 hf2
   have HR2:=hi_ ((HRR.out).ext0 hE2)
   have cm:=hE2.cell c0 (by simp)
   refine hK _ _ ?_
   clear hK how2 hext2 hnear2 hE2 hf2 hEa ca
   go_wp2_with (with_reducible refine e_ (d:=55) ?_)
   have hEb:=(Ext.refl [] W2).alloc (.cells #[.string ⟨key.toArray⟩,.string ⟨val.toArray⟩] 36)
   refine k_ rfl fun K hK=> b_ (s:= .tmp 50) (x:= .tmp 54) (E:=EPr) (T:=36) (zero:=([],[])) (bytes:=32) (v:= .slice p2 i c2) (u:= .slice (some ⟨W2.heap.size,0,none⟩) 1 1) (xs:=l.take i) (ys:= [(key,val)]) tiPr Tryz.underlying22 Tryz.underlying22 rfl rfl rfl (HO2.out.ext0 hEb) (bf_ W2 (key,val)).rd (by rw [HTL.out];simp;omega) (by rw [HTL.out];simp;omega) ?_
   intro v3 W3 how3 hext3 hnear3 _
   obtain⟨hE3,hf3⟩:=s_ (HE2.out.trans hEb) HF2.out hext3 hnear3
   have hr3:=(HR2.out.ext0 hEb).ext hext3 (fun g hg hm=> HSEP.out g hg _ (HF2.out g hm) rfl)
   have cm3:=hE3.cell c0 (by simp)
   obtain⟨p3,c3,rfl,_⟩:=how3.rd.len_eq
   have hl3:(l.take i++ [(key,val)]).length=i+1:=by rw [List.length_append,HTL.out];rfl
   rw [hl3] at how3 hf3 ⊢
   obtain⟨HO3,HE3,HF3,HR3,HL3⟩:=h_5 how3 hE3 hf3 hr3 hl3
   refine hK _ _ ?_
   clear hK how3 hext3 hnear3 hE3 hf3 hEb hr3 hl3 cm
   go_wp2_with (with_reducible refine e_ (d:=57) ?_)
   refine k_ rfl fun K hK=> b_ (s:= .tmp 55) (x:= .tmp 56) (E:=EPr) (T:=36) (zero:=([],[])) (bytes:=32) (v:= .slice p3 (i+1) c3) (u:=(.slice (some ⟨g,o+i*2,none⟩) (N - i) (c - i))) (xs:=l.take i++ [(key,val)]) (ys:=rest) tiPr Tryz.underlying22 Tryz.underlying22 rfl rfl rfl HO3.out HR3.out (by rw [HL3.out];have:=HRL.out;omega) (by rw [HL3.out];have:=HRL.out;omega) ?_
   intro v4 W4 how4 hext4 hnear4 _
   obtain⟨p4,c4,rfl,_⟩:=how4.rd.len_eq
   obtain⟨M4,hM4⟩: ∃M,M=(l.take i++ [(key,val)]++rest).length:=⟨_,rfl⟩
   rw [<-hM4] at how4 ⊢
   clear hM4
   obtain⟨hE4, -⟩:=s_ HE3.out HF3.out hext4 hnear4
   have hb4:=hE4.blk HBK.out (by simp)
   have cm4:=hE4.cell c0 (by simp)
   have hfz: ∀j,W4.frozen? ⟨mb,j,none⟩=false:=fun j=> frozen_of_row _ _ _ _ _ hb4
   have hb5:=heap_setCell_same W4 mb 0 _ _ (.slice p4 M4 c4) hb4
   have hE5:Ext [mb] W4 (W4.setCell ⟨mb,0,none⟩ (.slice p4 M4 c4)):=(Ext.refl [mb] W4).setCell (.inl (by simp)) _
   have HX:=hi_ (⟨⟨_,hb5,how4.ext hE5 (by simpa using how4.ne hb4 (by decide))⟩,((HE1.out.nil (S:= [mb])).trans (hE4.nil)).trans hE5⟩:MapR (W4.setCell ⟨mb,0,none⟩ (.slice p4 M4 c4)) mb (l.take i++ [(key,val)]++rest)/\Ext [mb] w (W4.setCell ⟨mb,0,none⟩ (.slice p4 M4 c4)))
   refine hK _ _ ?_
   clear hK how4 hext4 hnear4 hE4 hb4 hb5 hE5 cm3 c0 HO3 HE3 HF3 HR3 HO2 HE2 HF2 HR2
   go_wp2
   go_ret
   exact⟨rfl,HX.out⟩
theorem mput_bad (mb:Nat) (key val:Ky) (w:World) (hb:cD_ key val):
  Calls Tryz.prog 24 #[.pointer (some ⟨mb,0,none⟩),.string ⟨key.toArray⟩,.string ⟨val.toArray⟩] w fun e w'=> e= .returned (.int .i64 2)/\Ext [] w w':=by
 rcases hb with hb | hb | hb
 ·subst hb
  go_enter Tryz.func24,Tryz.ntmps24
  go_wp2
  go_ret
  exact⟨rfl,Ext.refl _ _⟩
 ·by_cases z1:(key== [])=true
  ·go_enter Tryz.func24,Tryz.ntmps24
   go_wp2
   go_ret
   exact⟨rfl,Ext.refl _ _⟩
  ·have z1:(key== [])=false:=by simpa using z1
   have z2:24 < key.length:=hb
   go_enter Tryz.func24,Tryz.ntmps24
   go_wp2
   go_ret
   exact⟨rfl,Ext.refl _ _⟩
 ·have z3:300 < val.length:=hb
  by_cases z1:(key== [])=true
  ·go_enter Tryz.func24,Tryz.ntmps24
   go_wp2
   go_ret
   exact⟨rfl,Ext.refl _ _⟩
  ·have z1:(key== [])=false:=by simpa using z1
   by_cases z2:24 < key.length
   ·go_enter Tryz.func24,Tryz.ntmps24
    go_wp2
    go_ret
    exact⟨rfl,Ext.refl _ _⟩
   ·go_enter Tryz.func24,Tryz.ntmps24
    go_wp2
    go_ret
    exact⟨rfl,Ext.refl _ _⟩
def BF (y:Sy) (bs:List Nat) (w w':World):Prop:= ∃S,Ext S w w'/\ ∀k∈S,SyOk y w k\/k∈bs
theorem BF.of (h:SyF y w w'):BF y bs w w':=by
 obtain⟨S,h1,h2⟩:=h
 exact⟨S,h1,fun k hk=> .inl (h2 k hk)⟩
theorem BF.of0 (h:Ext [] w w'):BF y bs w w':=⟨[],h,by simp⟩
theorem BF.df (h:DF y tb w w') (hb:tb∈bs):BF y bs w w':=by
 obtain⟨S,h1,h2⟩:=h
 exact⟨S,h1,fun k hk=> (h2 k hk).imp id (fun e=> by rw [e];exact hb)⟩
theorem BF.own (h:Ext S w w') (hb: ∀k∈S,k∈bs):BF y bs w w':=⟨S,h,fun k hk=> .inr (hb k hk)⟩
theorem BF.trans {bs bs':List Nat} {a b c:World} (h:BF y bs a b) (k:BF y bs' b c) (hb: ∀k∈bs',k∈bs\/a.heap.size<=k):BF y bs a c:=by
 obtain⟨S,h1,h2⟩:=h
 obtain⟨S',k1,k2⟩:=k
 refine⟨S++S'.filter (fun k=> decide (k < a.heap.size/\k∉S)),h1.trans' k1 (fun x hx=> .inl (by simp [hx])) (fun x hx=> ?_),fun x hx=> ?_⟩
 ·by_cases hl:x < a.heap.size
  ·by_cases hs:x∈S
   ·exact .inl (by simp [hs])
   ·exact .inl (by simp [hx,hl,hs])
  ·exact .inr (by omega)
 ·rcases List.mem_append.1 hx with hx | hx
  ·exact h2 x hx
  ·simp only [List.mem_filter,decide_eq_true_eq] at hx
   obtain⟨hx1,hx2,hx3⟩:=hx
   have et:p_ b x=p_ a x:=by rw [p_,p_,h1.block x hx2 hx3]
   rcases k2 x hx1 with h | h
   ·rcases h with h | ⟨T,h3,h4,h5⟩
    ·exact .inl (.inl h)
    ·exact .inl (.inr ⟨T,h3,by rw [<-et];exact h4,h5⟩)
   ·rcases hb x h with h | h
    ·exact .inr h
    ·omega
theorem BF.then {a b c:World} (h:BF y bs a b) (k:BF y bs b c):BF y bs a c:=h.trans k (fun _ h=> .inl h)
theorem BF.tags (hy:SyR w y v) (h:BF y bs w w'): ∃S,Ext S w w'/\ ∀k∈S,k∉bs-> ∀T,T∉ [117,143,168,339,175]->p_ w k≠some T:=by
 obtain⟨S,h1,h2⟩:=h
 refine⟨S,h1,fun k hk hn T hT e=> ?_⟩
 simp only [List.mem_cons,List.not_mem_nil,or_false,not_or] at hT
 rcases h2 k hk with h | h
 ·rcases h with h | ⟨T',h3,h4,_⟩
  ·simp only [List.mem_cons,List.not_mem_nil,or_false] at h
   rcases h with rfl | rfl | rfl
   ·rw [hy.st.tag] at e;cases e;exact hT.1 rfl
   ·rw [hy.rk.tag.1] at e;cases e;exact hT.2.1 rfl
   ·rw [hy.sp.tag] at e;cases e;exact hT.2.2.1 rfl
  ·rw [h4] at e
   cases e
   simp only [List.mem_cons,List.not_mem_nil,or_false] at h3
   rcases h3 with rfl | rfl
   ·exact hT.2.2.2.1 rfl
   ·exact hT.2.2.2.2 rfl
 ·exact hn h
theorem BF.blk (hy:SyR w y v) (h:BF y bs w w') {c:Array Value} {x:Nat×Nat} (hg:w.heap[g]? =some (.cells c T x)) (hn:g∉bs) (hT:T∉ [117,143,168,339,175]):w'.heap[g]? =some (.cells c T x):=by
 obtain⟨S,h1,h2⟩:=h.tags hy
 exact h1.blk hg (fun hm=> h2 g hm hn T hT (d_ hg))
theorem MapR.bf (hm:MapR w mb l) (hy:SyR w y v) (h:BF y bs w w') (hn:mb∉bs) (hp: ∀k∈bs,p_ w k≠some 36):MapR w' mb l:=by
 obtain⟨S,h1,h2⟩:=h.tags hy
 obtain⟨lv,h3,h4⟩:=hm
 refine⟨lv,h1.blk h3 (fun hk=> h2 mb hk hn _ (by decide) (d_ h3)),h4.ext h1 (fun g hg hk=> ?_)⟩
 by_cases hb:g∈bs
 ·exact hp g hb (h4.tagOf g hg)
 ·exact h2 g hk hb _ (by decide) (h4.tagOf g hg)
theorem TreeR.bf {y y':Sy} (ht:TreeR w y' tb yv gv s) (hy:SyR w y v) (h:BF y bs w w') (hn:tb∉bs) (hp: ∀k∈bs,∀T∈(34::aJ_),p_ w k≠some T):TreeR w' y' tb yv gv s:=by
 obtain⟨S,h1,h2⟩:=h.tags hy
 refine⟨h1.blk ht.blk (fun hk=> h2 tb hk hn _ (by decide) (d_ ht.blk)),ht.root.ext h1 (fun k hk T hT=> ?_),ht.gone.ext h1 (fun g hg hk=> ?_)⟩
 ·by_cases hb:k∈bs
  ·exact hp k hb T (List.mem_cons_of_mem _ hT)
  ·exact h2 k hk hb T (by revert T;decide)
 ·by_cases hb:g∈bs
  ·exact hp g hb _ (by simp) (ht.gone.tagOf g hg)
  ·exact h2 g hk hb _ (by decide) (ht.gone.tagOf g hg)
theorem MapR.tag (h:MapR w mb l):p_ w mb=some 48:=by obtain⟨lv,h,_⟩:=h;exact d_ h
theorem TreeR.tag (h:TreeR w y tb yv gv s):p_ w tb=some 91:=d_ h.blk
structure BothR (w:World) (y:Sy) (v:Sv) (L:List Blk) (tb:Nat) (yv:Rfm) (gv:Value) (s:TS) (mb:Nat):Prop where
 sy:SyR w y v
 dk:DkS y v L
 tr:TreeR w y tb yv gv s
 ok:RtOk L s.root
 mr:MapR w mb (m_ s.root)
structure SmallT (s:TS):Prop where
 prs:(m_ s.root).length<=100000
 bks:(U_ s.root).length<=40000
 gone:s.gone.length<=900000
structure StepR (y:Sy) (v:Sv) (L:List Blk) (tb:Nat) (s:TS) (mb:Nat) (w w':World):Prop where
 ex: ∃v' yv' gv' s',BothR w' y v' L tb yv' gv' s' mb/\SameV v v'/\(U_ s'.root++s'.gone).Perm (U_ s.root++s.gone)/\(m_ s'.root).length<=(m_ s.root).length+1/\(∀m,HtOk m s.root->(m_ s.root).length<=m->HtOk (m+1) s'.root)/\((∃yv0 d0,w.heap[tb]? =some (.cells (bj_ y yv0 gv' d0) 91 (0,0)))\/ ∀g∈blkL gv',w.heap.size<=g)
 fr:BF y [tb,mb] w w'
structure TrTo (y:Sy) (v:Sv) (L:List Blk) (tb:Nat) (s:TS) (l':List Pr) (w w':World):Prop where
 ex: ∃v' yv' gv' s',SyR w' y v'/\SameV v v'/\DkS y v' L/\TreeR w' y tb yv' gv' s'/\RtOk L s'.root/\m_ s'.root=l'/\(U_ s'.root++s'.gone).Perm (U_ s.root++s.gone)/\(∀m,HtOk m s.root->(m_ s.root).length<=m->HtOk (m+1) s'.root)/\((∃yv0 d0,w.heap[tb]? =some (.cells (bj_ y yv0 gv' d0) 91 (0,0)))\/ ∀g∈blkL gv',w.heap.size<=g)
 fr:DF y tb w w'
theorem do_to (hf:EdF key f) (hw:WOk f) (hd:DkS y v L) (hr:RtOk L s.root) (ht:TreeR w y tb yv gv s) {e:Ending} (h:DoPost y v L tb yv gv s (doF s.root key f) w e w'):
  (∀l',f (m_ s.root)= .ok l'->e= .returned (.int .i64 0)/\TrTo y v L tb s l' w w')/\(∀k,f (m_ s.root)= .error k->e= .returned (.int .i64 k)/\TrTo y v L tb s (m_ s.root) w w'):=by
 obtain⟨h1,h2⟩:=do_ok hf s.root hr
 refine⟨fun l' hl=> ?_,fun k hk=> ?_⟩
 ·obtain⟨r',g,h3,h4⟩:=h2 l' hl
  rw [h3] at h
  obtain⟨yv',gv',v',h5,h6,h7,h8,h9,h10,h11⟩:=h
  refine⟨h5,⟨v',yv',gv',_,h6,h7,hd.same h7 h8,h9,h4.ok,h4.pr, ?_,fun m hm hp=> do_ht hf hw s.root hr hm hp hl h3,.inr h11⟩,h10⟩
  have h11:=h4.bk
  show (U_ r'++(s.gone++g)).Perm _
  exact((List.Perm.append_left _ List.perm_append_comm).trans (by rw [<-List.append_assoc])).trans (h11.append_right s.gone)
 ·rw [h1 k hk] at h
  obtain⟨v',h5,h6,h7,h8,h9,h10⟩:=h
  exact⟨h5,⟨v',yv,gv,s,h6,h7,hd.same h7 h8,h9,hr,rfl,List.Perm.refl _,fun m hm _=> hm.mono (Nat.le_succ m),.inl ⟨_,_,ht.blk⟩⟩,h10⟩
theorem BothR.ext0 (h:BothR w y v L tb yv gv s mb) (he:Ext [] w w'):BothR w' y v L tb yv gv s mb:=⟨h.sy.ext0 he,h.dk,h.tr.ext0 he,h.ok,h.mr.ext0 he⟩
theorem StepR.pre (he:Ext [] w W) (hl:tb < w.heap.size) (h:StepR y v L tb s mb W w'):StepR y v L tb s mb w w':=by
 obtain⟨v',yv',gv',s',h1,h2,h3,h4,h5,h6⟩:=h.ex
 refine⟨⟨v',yv',gv',s',h1,h2,h3,h4,h5, ?_⟩,(BF.of0 he).then h.fr⟩
 rcases h6 with ⟨a,b,h7⟩ | h7
 ·exact .inl ⟨a,b,by rw [<-he.block tb hl (by simp)];exact h7⟩
 ·exact .inr (fun g hg=> Nat.le_trans he.size (h7 g hg))
theorem TrTo.fin {l' l2:List Pr} (h:TrTo y v L tb s l' w w1) (hl:l'.length<=(m_ s.root).length+1) (hm1:MapR w1 mb l2) (hm:MapR w2 mb l') (he:Ext [mb] w1 w2):StepR y v L tb s mb w w2:=by
 obtain⟨v',yv',gv',s',h1,h2,h3,h4,h5,h6,h7,h8⟩:=h.ex
 have ht:=hm1.tag
 refine⟨⟨v',yv',gv',s',⟨h1.otherT he (by simp only [List.mem_singleton,forall_eq,ht];decide),h3,h4.ext he (by simp only [List.mem_singleton,forall_eq,ht];decide),h5,by rw [h6];exact hm⟩,h2,h7,by rw [h6];exact hl,h8⟩, ?_⟩
 exact(BF.df h.fr (by simp)).then (BF.own he (by simp))
theorem TrTo.map {l' l:List Pr} {v0:Sv} (h:TrTo y v L tb s l' w w1) (hy:SyR w y v0) (hm:MapR w mb l) (ht:p_ w tb=some 91):MapR w1 mb l:=
 hm.bf hy (BF.df (bs:= [tb]) h.fr (by simp)) (by simp only [List.mem_singleton];intro e;rw [<-e,hm.tag] at ht;cases ht) (by simp only [List.mem_singleton,forall_eq,ht];decide)
theorem put_both (h:BothR w y v L tb yv gv s mb) (sm:SmallT s) (key val:Ky):
  ∃(c:Int) (l':List Pr),l'.length<=(m_ s.root).length+1/\
   Calls Tryz.prog 14 #[.pointer (some ⟨tb,0,none⟩),.string ⟨key.toArray⟩,.string ⟨val.toArray⟩] w (fun e w'=> e= .returned (.int .i64 c)/\TrTo y v L tb s l' w w')/\
   ∀W,MapR W mb (m_ s.root)->Calls Tryz.prog 24 #[.pointer (some ⟨mb,0,none⟩),.string ⟨key.toArray⟩,.string ⟨val.toArray⟩] W (fun e w'=> e= .returned (.int .i64 c)/\MapR w' mb l'/\Ext [mb] W w'):=by
 by_cases hb:cD_ key val
 ·refine⟨2,m_ s.root,by omega,(trput_bad key val tb w hb).mono ?_,fun W hm=> (mput_bad mb key val W hb).mono ?_⟩
  ·rintro e w' ⟨h1,h2⟩
   exact⟨h1,⟨⟨v,yv,gv,s,h.sy.ext0 h2,SameV.refl v,h.dk,h.tr.ext0 h2,h.ok,rfl,List.Perm.refl _,fun m hm _=> hm.mono (Nat.le_succ m),.inl ⟨_,_,h.tr.blk⟩⟩,DF.of0 h2⟩⟩
  ·rintro e w' ⟨h1,h2⟩
   exact⟨h1,hm.ext0 h2,h2.nil⟩
 ·have hf:EdF key (putF key val):=fW_ (fun e=> hb (.inl e)) (Nat.le_of_not_lt fun e=> hb (.inr (.inl e))) (Nat.le_of_not_lt fun e=> hb (.inr (.inr e)))
  have hw:WOk (putF key val):=put_w (Nat.le_of_not_lt fun e=> hb (.inr (.inl e))) (Nat.le_of_not_lt fun e=> hb (.inr (.inr e)))
  refine⟨0,(m_ s.root).take (atF (m_ s.root) key)++ [(key,val)]++(m_ s.root).drop (atF (m_ s.root) key+(if F_ (m_ s.root) key then 1 else 0)), ?_,(eG_ key val y v tb yv gv s w hb h.sy h.dk.dsk h.tr h.ok sm.bks sm.gone).mono ?_,fun W hm=> (mput_c mb _ key val W hm h.ok.srt.1 sm.prs hb).mono ?_⟩
  ·have:=dN_ (m_ s.root) key
   simp only [List.length_append,List.length_take,List.length_drop,List.length_singleton]
   omega
  ·intro e w' hp
   exact(do_to hf hw h.dk h.ok h.tr hp).1 _ rfl
  ·exact fun e w' hq=> hq
theorem cells4' {a0 a1 a2 a3:Value} (h:W.heap[g]? =some (.cells #[a0,a1,a2,a3] T (0,0))):W.cell? ⟨g,0,none⟩=some a0/\W.cell? ⟨g,1,none⟩=some a1/\W.cell? ⟨g,2,none⟩=some a2/\W.cell? ⟨g,3,none⟩=some a3:=by
 refine⟨?_, ?_, ?_, ?_⟩ <;> (rw [cell_of_row W g _ _ _ _ h];rfl)
def putL (l:List Pr) (key val:Ky):List Pr:=l.take (atF l key)++ [(key,val)]++l.drop (atF l key+(if F_ l key then 1 else 0))
def dropL (l:List Pr) (key:Ky):List Pr:=l.take (atF l key)++l.drop (atF l key+1)
theorem tput_ok (hs:SyR w y v) (hd:DkS y v L) (ht:TreeR w y tb yv gv s) (hr:RtOk L s.root) (sm:SmallT s) {key val:Ky} (hb: ¬cD_ key val):
  Calls Tryz.prog 14 #[.pointer (some ⟨tb,0,none⟩),.string ⟨key.toArray⟩,.string ⟨val.toArray⟩] w (fun e w'=> e= .returned (.int .i64 0)/\TrTo y v L tb s (putL (m_ s.root) key val) w w'):=by
 have h1:key.length<=24:=Nat.le_of_not_lt fun e=> hb (.inr (.inl e))
 have h2:val.length<=300:=Nat.le_of_not_lt fun e=> hb (.inr (.inr e))
 have hf:EdF key (putF key val):=fW_ (fun e=> hb (.inl e)) h1 h2
 exact(eG_ key val y v tb yv gv s w hb hs hd.dsk ht hr sm.bks sm.gone).mono (fun e w' hp=> (do_to hf (put_w h1 h2) hd hr ht hp).1 _ rfl)
theorem tdrop_yes (hs:SyR w y v) (hd:DkS y v L) (ht:TreeR w y tb yv gv s) (hr:RtOk L s.root) (sm:SmallT s) (hb:F_ (m_ s.root) key=true):
  Calls Tryz.prog 25 #[.pointer (some ⟨tb,0,none⟩),.string ⟨key.toArray⟩] w (fun e w'=> e= .returned (.int .i64 0)/\TrTo y v L tb s (dropL (m_ s.root) key) w w'):=
 (hy_ key y v tb yv gv s w hs hd.dsk ht hr sm.bks sm.gone).mono (fun e w' hp=> (do_to (he_ key) (drop_w key) hd hr ht hp).1 _ (by rw [bF_,if_pos hb];rfl))
theorem tdrop_no (hs:SyR w y v) (hd:DkS y v L) (ht:TreeR w y tb yv gv s) (hr:RtOk L s.root) (sm:SmallT s) (hb:F_ (m_ s.root) key=false):
  Calls Tryz.prog 25 #[.pointer (some ⟨tb,0,none⟩),.string ⟨key.toArray⟩] w (fun e w'=> e= .returned (.int .i64 7)/\TrTo y v L tb s (m_ s.root) w w'):=
 (hy_ key y v tb yv gv s w hs hd.dsk ht hr sm.bks sm.gone).mono (fun e w' hp=> (do_to (he_ key) (drop_w key) hd hr ht hp).2 _ (by rw [bF_,if_neg (by simp [hb])]))
structure SyncR (y:Sy) (v:Sv) (L:List Blk) (tb:Nat) (s:TS) (gv:Value) (w w':World) (p:Ptr4) (r':Root) (ms:List Ptr4) (v':Sv) (L':List Blk):Prop where
 pr:PutsR y v v' L L' ms
 wr:WroteR L' s.root r' p ms
 cost:A_ y.k ms<=unwR y.k s.root
 sy:SyR w' y v'
 tr:TreeR w' y tb (p,none) (.slice none 0 0) ⟨r',[],false⟩
 gone:EP.Ow 34 w' gv s.gone
 fr:DF y tb w w'
theorem tsync_c (hs:SyR w y v) (hd:DkS y v L) (ht:TreeR w y tb yv gv s) (hr:RtOk L s.root) (hb:WrB v []) {q C:Int} (hf:v.spc.free= [(q,C)]) (hq:0<=q) (hC:C<=40000) (hbk:v.spc.back=0) (hU:q+unwR y.k s.root < C):
  Calls Tryz.prog 15 #[.pointer (some ⟨tb,0,none⟩)] w fun e w'=> ∃p r' ms v' L',e= .returned (.tuple #[ah_ p,gv,.int .i64 0])/\SyncR y v L tb s gv w w' p r' ms v' L'/\v'.spc.free= [(q+A_ y.k ms,C)]:=by
 refine(hs_ y v L tb yv gv s w hs hd ht hr hb).mono ?_
 rintro e w' ⟨v',L',⟨p,r',ms,hpr,hwr,hle,rfl,hs',ht',hg',hdf⟩ | ⟨rfl, -,⟨vx,Lx,ms,hp,z,hz,hno⟩, -⟩⟩
 ·exact⟨p,r',ms,v',L',rfl,⟨hpr,hwr,hle,hs',ht',hg',hdf⟩,hpr.one q C hf hq hC (by omega)⟩
 ·exact absurd hno (hp.room hf hq hC hbk hz hU)
def AtR (r:Root) (q:Ptr4):Prop:=match r with
 | none=> q=P0
 | some ⟨_,x⟩=> x.1=some q
theorem sel_all (l:List Pr):selR [] [] l=l:=by
 rw [selR,List.filter_eq_self]
 intro p _
 simp [inR]
def kT1:List (El 0):=([([98],[50])]:List Pr)
def kT2:List (El 0):=([([97],[49]),([98],[50])]:List Pr)
theorem known_sz1:szF 0 kT1<=1024:=by
 have h1:szF 0 kT1=(encL (V_ [([98],[50])])).length:=rfl
 rw [h1]
 simp [V_,encL,encI,D_]
theorem gk_:szF 0 kT2<=1024:=by
 have h1:szF 0 kT2=(encL (V_ [([97],[49]),([98],[50])])).length:=rfl
 rw [h1]
 simp [V_,encL,encI,D_]
theorem er_:putF [98] [50] []= .ok kT1:=by simp [putF,atF,F_,kT1]
theorem eq_:putF [97] [49] kT1= .ok kT2:=by
 have h1: ¬(([98]:Ky) < [97]):=by decide
 simp [putF,atF,F_,h1,kT1,kT2]
theorem doF_none {l:List (El 0)} (hf:f []= .ok l) (h0:l≠ []) (hs:szF 0 l<=1024):doF none key f= .ok (some ⟨0,(none,l)⟩,[]):=by
 have h2:=L_ (n:=0) [] h0 hs
 unfold doF
 rw [hf]
 show Except.ok (Q_ (i_ 0 l []).length 0 (i_ 0 l []))=_
 rw [h2]
 rfl
theorem doF_leaf {t l:List (El 0)} (hf:f t= .ok l) (h0:l≠ []) (hs:szF 0 l<=1024):doF (some ⟨0,(none,t)⟩) key f= .ok (some ⟨0,(none,l)⟩,[]):=by
 have h2:=L_ (n:=0) [] h0 hs
 have he:aA_ 0 (none,t) key f= .ok (i_ 0 l [],[]):=by
  unfold aA_
  show (match f t with | .error e=> Except.error e | .ok l=> .ok (i_ 0 l [],[]))=_
  rw [hf]
 simp only [doF,he]
 rw [h2]
 rfl
theorem known1:doF none [98] (putF [98] [50])= .ok (some ⟨0,(none,kT1)⟩,[]):=doF_none er_ (fun h=> by cases h) known_sz1
theorem known2:doF (some ⟨0,(none,kT1)⟩) [97] (putF [97] [49])= .ok (some ⟨0,(none,kT2)⟩,[]):=doF_leaf eq_ (fun h=> by cases h) gk_
theorem known_unw (c:Nat):unwR c (some ⟨0,(none,kT2)⟩)<=32:=costF_le c _ gk_
theorem BF.fresh (h:BF y bs W W') (he:Ext [] w W) (hl: ∀b∈ [y.b,y.r,y.sp],w.heap.size<=b) (hb: ∀k∈bs,w.heap.size<=k):Ext [] w W':=by
 obtain⟨S,h1,h2⟩:=h
 refine he.trans' h1 (by simp) (fun x hx=> .inr ?_)
 rcases h2 x hx with h | h
 ·rcases h with h | ⟨_,_,_,b,hb,hle⟩
  ·exact hl x h
  ·exact Nat.le_trans (hl b hb) hle
 ·exact hb x h
theorem dks_new (hn:NewSy y v) (hw:v.ws= []):DkS y v []:=
 ⟨⟨by simp,by rw [hn.st];simp [sto0],by simp,by rw [hw];simp⟩,by simp,by simp⟩
theorem wrb_new {C:Int} (hn:NewSy y v) (hw:v.ws= []) (hc:v.spc.cells=C) (h0:0<=C) (h1:C<=40000):WrB v []:=by
 have hf:cntL v.spc.free=C:=by rw [hn.free,hc];simp [cntL]
 refine⟨by rw [hf,hw];simp;omega,by rw [hf];simp;omega,by rw [hn.st];simp [sto0],by rw [hn.st];simp [sto0]⟩
theorem WrB.same {ps:List Ptr4} (h:WrB v ps) (s:SameV v v'):WrB v' ps:=⟨by rw [s.ws,s.spc];exact h.ws,by rw [s.spc];exact h.ps,by rw [s.txg];exact h.t0,by rw [s.txg];exact h.t1⟩
theorem hQ_ (r r':Root) (key:Ky) (f:List Pr->Except Int (List Pr)) (l':List Pr) (hf:EdF key f) (h:RtOk [] r) (hl:f (m_ r)= .ok l') (hd:doF r key f= .ok (r',[])):RtOk [] r':=by
 obtain⟨r2,g,h1,h2⟩:=(do_ok hf r h).2 l' hl
 rw [hd] at h1
 cases h1
 exact h2.ok
theorem two_rdPr (W:World) (a b:Pr):EPr.Rd (W.alloc (.cells #[.string ⟨a.1.toArray⟩,.string ⟨a.2.toArray⟩,.string ⟨b.1.toArray⟩,.string ⟨b.2.toArray⟩] 36)) (.slice (some ⟨W.heap.size,0,none⟩) 2 2) [a,b]:=by
 refine .inr ⟨W.heap.size,0,2,rfl,Nat.le_refl _,by simp,fun j u hj=> ?_⟩
 rw [cell_of_row _ W.heap.size _ _ _ _ (heap_alloc_new _ _),Nat.zero_add,<-hj]
 simp [EPr,Enc.flat]
theorem sync_new {v0 v:Sv} (hk:y.k=1) (hn:NewSy y v0) (hc:v0.spc.cells=295) (hw:v0.ws= []) (hv:SameV v0 v) (h:SyR w y v) (hd:DkS y v []) (ht:TreeR w y tb yv gv ⟨some ⟨0,(none,kT2)⟩,[],true⟩) (ho:RtOk [] (some ⟨0,(none,kT2)⟩)):
  Calls Tryz.prog 15 #[.pointer (some ⟨tb,0,none⟩)] w fun e w'=> ∃q v' L' r' p c,e= .returned (.tuple #[ah_ q,.slice p 0 c,.int .i64 0])/\0 < (q.2.1:Int)/\SyR w' y v'/\Dsk y v' L'/\RtOk L' r'/\m_ r'=kT2/\TreeR w' y tb (q,none) (.slice none 0 0) ⟨r',[],false⟩/\DF y tb w w':=by
 have hfr:v.spc.free= [(0,295)]:=by rw [hv.spc,hn.free,hc]
 refine(hs_ y v [] tb yv gv _ w h hd ht ho ((wrb_new hn hw hc (by decide) (by decide)).same hv)).mono ?_
 rintro e w' ⟨v',L',⟨q,r',ms,hp,hwr,hle,rfl,hs,htr,hg,hdf⟩ | ⟨rfl,_,⟨vx,Lx,ms,hp,z,hlt,hno⟩,_⟩⟩
 ·have hat:=hwr.at_
  have hok:=hwr.ok
  obtain⟨p,c,hgv,_⟩:=hg.rd.len_eq
  refine⟨q,v',L',r',p,c,by rw [hgv];rfl, ?_,hs,hp.dk.dsk,hok,hwr.pr,htr,hdf⟩
  have hpr:m_ r'=kT2:=hwr.pr
  cases r' with
  | none=> cases hpr
  | some x=>
   obtain⟨n,x⟩:=x
   have hat:x.1=some q:=hat
   have h1:=hok.1 q hat
   have h2:1<=(bh_ n x.2).length:=(hp.dk.dsk.std _ h1.1).1
   have h3:q.2.1=(bh_ n x.2).length:=h1.2.1.1
   show (0:Int) < (q.2.1:Int)
   omega
 ·exfalso
  have hu:=known_unw y.k
  have hlt:A_ y.k ms+z<=unwR y.k (some ⟨0,(none,kT2)⟩):=hlt
  have h1:=hp.one 0 295 hfr (by decide) (by decide) (by omega)
  have h2:vx.spc.back=0:=by rw [hp.back,hv.spc,hn.back]
  exact hno.not h1 h2 (by omega)
theorem known_c (w:World):Calls Tryz.prog 11 #[] w fun e w'=> e= .returned (.bool true)/\Ext [] w w':=by
 have HNEW:=hi_ (gp_ 60 w (by omega) (by omega))
 go_enter Tryz.func11,Tryz.ntmps11
 go_wp2_with fail
 refine HNEW.out.mono ?_
 rintro e W1 ⟨y,v,rfl,hs,hk,hS,hF,hws,hnew,hlow,hE1⟩
 have hcl:v.spc.cells=295:=by rw [hs.cells,hk,hS,hF];rfl
 have HOP:=hi_ (hu_ y P0 W1)
 simp only [ah_,P0] at HOP
 obtain⟨HS,HK,HCL,HWS,HN,HLOW,HE1⟩:=h_7 hs hk hcl hws hnew hlow hE1
 clear hs hk hS hF hws hnew hlow hE1 hcl HNEW
 go_wp2_with fail
 refine HOP.out.mono ?_
 rintro e W2 ⟨tb,rfl,ht,hE2,hlt⟩
 have htr2:TreeR W2 y tb (P0,none) (.slice none 0 0) ⟨none,[],false⟩:=⟨ht,rfl,.inl ⟨rfl,rfl⟩⟩
 have hdk:=dks_new HN.out HWS.out
 have hp1:=eG_ (L:= []) [98] [50] y v tb (P0,none) (.slice none 0 0) ⟨none,[],false⟩ W2 (by simp [cD_]) (HS.out.ext0 hE2) hdk.dsk htr2 trivial (by simp [U_]) (by simp)
 obtain⟨HP1,HDK⟩:=h_2 hp1 hdk
 have HF2:=hi_ (HE1.out.trans hE2)
 have HLT:Hid (w.heap.size<=tb):=hi_ (by have:=HE1.out.size;omega)
 clear ht htr2 hdk hp1 hE2 hlt HOP
 go_wp2_with fail
 refine HP1.out.mono ?_
 rintro e W3 hp
 have hp:DoPost y v [] tb (P0,none) (.slice none 0 0) ⟨none,[],false⟩ (.ok (some ⟨0,(none,kT1)⟩,[])) W2 e W3:=by rw [<-known1];exact hp
 obtain⟨yv3,gv3,v3,rfl,hs3,hv3,hd3,ht3,hdf3, -⟩:=hp
 have hr3:RtOk [] (some ⟨0,(none,kT1)⟩):=hQ_ none _ [98] (putF [98] [50]) kT1 (fW_ (by simp) (by simp) (by simp)) trivial er_ known1
 have hp2:=eG_ (L:= []) [97] [49] y v3 tb yv3 gv3 _ W3 (by simp [cD_]) hs3 hd3 ht3 hr3 (by simp [U_,bkR,bkT]) (by simp)
 obtain⟨HP2,HV3,HR3⟩:=h_3 hp2 hv3 hr3
 have HF3:=hi_ ((BF.df (bs:= [tb]) hdf3 (by simp)).fresh HF2.out HLOW.out (by simpa using HLT.out))
 clear hs3 hv3 hd3 ht3 hdf3 hr3 hp2 HP1
 go_wp2_with fail
 refine HP2.out.mono ?_
 rintro e W4 hp
 have hp:DoPost y v3 [] tb yv3 gv3 ⟨some ⟨0,(none,kT1)⟩,[],true⟩ (.ok (some ⟨0,(none,kT2)⟩,[])) W3 e W4:=by rw [<-known2];exact hp
 obtain⟨yv4,gv4,v4,rfl,hs4,hv4,hd4,ht4,hdf4, -⟩:=hp
 have hr4:RtOk [] (some ⟨0,(none,kT2)⟩):=hQ_ (some ⟨0,(none,kT1)⟩) _ [97] (putF [97] [49]) kT2 (fW_ (by simp) (by simp) (by simp)) HR3.out eq_ known2
 have hv04:=HV3.out.trans hv4
 have hsy:=sync_new HK.out HN.out HCL.out HWS.out hv04 hs4 (HDK.out.same hv04 hd4) ht4 hr4
 have HSY:=hi_ hsy
 have HF4:=hi_ ((BF.df (bs:= [tb]) hdf4 (by simp)).fresh HF3.out HLOW.out (by simpa using HLT.out))
 clear hs4 hv4 hd4 ht4 hdf4 hr4 hv04 hsy HP2
 go_wp2_with fail
 refine HSY.out.mono ?_
 rintro e W5 ⟨q,v5,L5,r5,p5,c5,rfl,hq5,hs5,hd5,hr5,hpr5,ht5,hdf5⟩
 obtain⟨HS5,HD5,HR5,HPR5,HT5⟩:=h_5 hs5 hd5 hr5 hpr5 ht5
 have HF5:=hi_ ((BF.df (bs:= [tb]) hdf5 (by simp)).fresh HF4.out HLOW.out (by simpa using HLT.out))
 clear hs5 hd5 hr5 hpr5 ht5 hdf5 HSY
 simp only [ah_]
 have hE6:=(Ext.refl [] W5).alloc (.cells #[.int .i64 q.1,.int .i64 q.2.1,.int .i64 q.2.2.1,.string ⟨q.2.2.2.toArray⟩] 34)
 have hb6:=heap_alloc_new W5 (.cells #[.int .i64 q.1,.int .i64 q.2.1,.int .i64 q.2.2.1,.string ⟨q.2.2.2.toArray⟩] 34)
 have hrg:=trrange_c y v5 L5 tb (q,none) (.slice none 0 0) ⟨r5,[],false⟩ [] [] 9 _ (HS5.out.ext0 hE6) HD5.out (HT5.out.ext0 hE6) HR5.out.good (by decide) (by show (m_ r5).length<=_;rw [HPR5.out];decide)
 have e9:(selR [] [] (m_ r5)).take 9=([([97],[49]),([98],[50])]:List Pr):=by rw [sel_all,HPR5.out];rfl
 change Calls _ _ _ _ (RngPost y v5 L5 ((selR [] [] (m_ r5)).take 9) _) at hrg
 rw [e9] at hrg
 have HRG:=hi_ hrg
 clear e9
 have HB6:=hi_ hb6
 have HS6:=hi_ (HS5.out.ext0 hE6)
 have HE6:=hi_ (HF5.out.trans hE6)
 clear hE6 hb6 hrg
 go_wp2_with fail
 refine HRG.out.mono ?_
 rintro e W7 ⟨u,v7,rfl,how,hfr,hs7,hv7,hd7,hf7⟩
 obtain⟨-,x1, -, -⟩:=cells4' (hf7.blk HS6.out HB6.out (by decide))
 have hsm:=same_c u _ _ _ _ (how.rd.ext0 ((Ext.refl [] W7).alloc _)) (two_rdPr W7 ([97],[49]) ([98],[50])) (by decide) (by decide)
 simp only [decide_true] at hsm
 have HE7:=hi_ ((BF.of (bs:= []) hf7).fresh HE6.out HLOW.out (by simp))
 have HSM:=hi_ hsm
 clear how hfr hs7 hv7 hd7 hf7 hsm HRG
 go_wp2_with fail
 refine HSM.out.mono ?_
 rintro e W8 ⟨rfl,hE8⟩
 have HE8:=hi_ ((HE7.out.alloc _).trans hE8)
 clear hE8 HSM x1
 go_wp2_with fail
 go_ret
 exact⟨rfl,HE8.out⟩
structure GonI (y:Sy) (v1:Sv) (L1:List Blk) (gs:List Ptr4) (k:Nat) (vk:Sv) (Lk:List Blk):Prop where
 dk:DkS y vk Lk
 keep: ∀x∈L1,x.1∉(gs.take k).map (fun p=> p.1)->x∈Lk
 sub: ∀x∈Lk,x∈L1/\x.1∉(gs.take k).map (fun p=> p.1)
 free:vk.spc.free=v1.spc.free
 leav:cntL vk.spc.leaving=cntL v1.spc.leaving+A_ y.k (gs.take k)
 cells:vk.spc.cells=v1.spc.cells
 back:vk.spc.back=v1.spc.back
 txg:vk.st.txg=v1.st.txg
 ws:vk.ws=v1.ws
theorem GonI.start (h:DkS y v L) (gs:List Ptr4):GonI y v L gs 0 v L:=
 ⟨h,fun x hx _=> hx,fun x hx=> ⟨hx,by simp⟩,rfl,by simp [A_],rfl,rfl,rfl,rfl⟩
theorem GonI.at {v1 vk:Sv} {L1 Lk:List Blk} (h:GonI y v1 L1 gs k vk Lk) (hnd:(gs.map (fun p=> p.1)).Nodup) (hq:gs[k]? =some q) {bs:List UInt8} (hb:(q.1,bs)∈L1):(q.1,bs)∈Lk:=by
 refine h.keep _ hb (fun hm=> ?_)
 have h1:gs.map (fun p=> p.1)=(gs.take k).map (fun p=> p.1)++(gs.drop k).map (fun p=> p.1):=by rw [<-List.map_append,List.take_append_drop]
 rw [h1,List.nodup_append] at hnd
 refine hnd.2.2 _ hm q.1 ?_ rfl
 obtain⟨h2,h3⟩:=List.getElem?_eq_some_iff.1 hq
 rw [List.drop_eq_getElem_cons h2,h3]
 simp
theorem GonI.step {v1 vk v2:Sv} {L1 Lk:List Blk} {bs:List UInt8} (h:GonI y v1 L1 gs k vk Lk) (hnd:(gs.map (fun p=> p.1)).Nodup) (hq:gs[k]? =some q) (hb:(q.1,bs)∈L1) (hp:PtAt q bs) (hi:SpI vk.spc) (hc:vk.spc.cells=(((y.k+4)*(y.S - y.F):Nat):Int)) (hg:dR_ vk.spc q.1 (C_ y.k q.2.1) v2.spc err) (hw:v2.ws=vk.ws) (hm:(err≠0/\v2.st=vk.st)\/(err=0/\v2.st={vk.st with mem:=aS_ vk.st.mem q.1})):
  err=0/\GonI y v1 L1 gs (k+1) v2 (offL Lk q.1):=by
 have hsz:C_ y.k q.2.1=C_ y.k bs.length:=by rw [hp.1]
 have hg0:=hg
 rw [hsz] at hg
 obtain⟨he,gv,hdk⟩:=h.dk.give hi hc (h.at hnd hq hb) hg hw hm
 subst he
 have hst:v2.st={vk.st with mem:=aS_ vk.st.mem q.1}:=by
  rcases hm with ⟨h3,_⟩ | ⟨_,h3⟩
  ·exact absurd rfl h3
  ·exact h3
 have ht:gs.take (k+1)=gs.take k++ [q]:=by rw [List.take_add_one,hq];rfl
 refine⟨rfl,hdk,fun x hx hn=> ?_,fun x hx=> ?_,gv.free.trans h.free, ?_,gv.cells.trans h.cells,gv.back.trans h.back,by rw [hst];exact h.txg,hw.trans h.ws⟩
 ·rw [ht,List.map_append,List.mem_append,not_or] at hn
  exact av_.2 ⟨h.keep x hx hn.1,fun e=> hn.2 (by simp [e])⟩
 ·obtain⟨h1,h2⟩:=av_.1 hx
  refine⟨(h.sub x h1).1, ?_⟩
  rw [ht,List.map_append,List.mem_append,not_or]
  exact⟨(h.sub x h1).2,by simpa using h2⟩
 ·have e:A_ y.k (gs.take (k+1))=A_ y.k (gs.take k)+C_ y.k q.2.1:=by rw [ht];simp [A_]
  have h5:=gv.cntV
  have h6:=h.leav
  rw [e,h5,h6,hsz]
  push_cast
  omega
theorem WroteR.atR {r r':Root} (h:WroteR L' r r' q ms):AtR r' q:=by
 cases r' with
 | none=> exact h.at_
 | some x=> obtain⟨n,x⟩:=x;exact h.at_
theorem srt_head {x:Pr} {r:List Pr} (h:SrtK (x::r)):atF (x::r) x.1=0/\F_ (x::r) x.1=true/\dropL (x::r) x.1=r/\F_ r x.1=false:=by
 obtain⟨h1,h2⟩:=List.pairwise_cons.1 h
 have e1:atF (x::r) x.1=0:=by
  rw [atF,List.countP_eq_zero]
  intro p hp
  rcases List.mem_cons.1 hp with rfl | hp
  ·simpa using ax_ _
  ·simpa using bg_ (h1 p hp)
 have e2:atF r x.1=0:=by
  rw [atF,List.countP_eq_zero]
  intro p hp
  simpa using bg_ (h1 p hp)
 refine⟨e1,by rw [F_,e1];simp,by rw [dropL,e1];rfl, ?_⟩
 rw [F_,e2]
 cases r with
 | nil=> simp
 | cons a r=>
  have h3:=h1 a (by simp)
  simp only [List.getElem?_cons_zero,Option.map_some,Option.some.injEq,decide_eq_false_iff_not]
  intro e
  rw [e] at h3
  exact ax_ _ h3
theorem fS_ (h:RtOk L r) (hp:m_ r= []):r=none:=by
 cases r with
 | none=> rfl
 | some x=> exact absurd hp h.2.ne
structure Emp1 (w:World) (y:Sy) (v0 v:Sv) (tb:Nat) (yv:Rfm) (gv:Value) (s:TS) (mb i:Nat):Prop where
 both:BothR w y v [] tb yv gv s mb
 ht:HtOk i s.root
 len:(m_ s.root).length<=i
 bk:U_ s.root= []
 gone:s.gone= []
 same:SameV v0 v
theorem Emp1.small {v0 v:Sv} (h:Emp1 w y v0 v tb yv gv s mb i) (hi:i<=60):SmallT s:=
 ⟨by have:=h.len;omega,by rw [h.bk];simp,by rw [h.gone];simp⟩
theorem Emp1.step {v0 v:Sv} (h:Emp1 w y v0 v tb yv gv s mb i) (k:StepR y v [] tb s mb w w'): ∃v' yv' gv' s',Emp1 w' y v0 v' tb yv' gv' s' mb (i+1):=by
 obtain⟨v',yv',gv',s',h1,h2,h3,h4,h5, -⟩:=k.ex
 rw [h.bk,h.gone] at h3
 have h6:=List.append_eq_nil_iff.1 (List.perm_nil.1 h3)
 exact⟨v',yv',gv',s',h1,h5 i h.ht h.len,by have:=h.len;omega,h6.1,h6.2,h.same.trans h2⟩
theorem Emp1.room {v0 v:Sv} (h:Emp1 w y v0 v tb yv gv s mb i) (hi:i<=60) (hk:y.k=1):unwR y.k s.root<=3120:=by
 rw [hk]
 have h1:=unwR_le h.both.ok h.ht h.len
 have h2:(12+4*((2*i+5) / 12))*(m_ s.root).length<=52*60:=Nat.mul_le_mul (by omega) (by have:=h.len;omega)
 omega
structure Emp2 (w:World) (y:Sy) (v1 v:Sv) (L:List Blk) (tb:Nat) (yv:Rfm) (gv:Value) (s:TS) (mb:Nat) (l0:List Pr) (bk0:List Ptr4) (ub:Value) (i:Nat):Prop where
 sy:SyR w y v
 dk:DkS y v L
 same:SameV v1 v
 tr:TreeR w y tb yv gv s
 ok:RtOk L s.root
 prs:m_ s.root=l0.drop i
 perm:(U_ s.root++s.gone).Perm bk0
 mr:MapR w mb l0
 ub:EP.Ow 34 w ub bk0
theorem Emp2.small {v1 v:Sv} {l0:List Pr} {bk0:List Ptr4} {ub:Value} (h:Emp2 w y v1 v L tb yv gv s mb l0 bk0 ub i) (hl:l0.length<=60) (hb:bk0.length<=40000):SmallT s:=by
 have h1:=h.perm.length_eq
 rw [List.length_append] at h1
 exact⟨by rw [h.prs,List.length_drop];omega,by omega,by omega⟩
theorem Emp2.to {v1 v:Sv} {l0:List Pr} {bk0:List Ptr4} {ub:Value} {i j:Nat} {l':List Pr} (h:Emp2 w y v1 v L tb yv gv s mb l0 bk0 ub i) (k:TrTo y v L tb s l' w w') (hl:l'=l0.drop j): ∃v' yv' gv' s',Emp2 w' y v1 v' L tb yv' gv' s' mb l0 bk0 ub j:=by
 obtain⟨v',yv',gv',s',h1,h2,h3,h4,h5,h6,h7, -⟩:=k.ex
 have ht:=h.tr.tag
 obtain⟨S,hS1,hS2⟩:=(BF.df (bs:= [tb]) k.fr (by simp)).tags h.sy
 refine⟨v',yv',gv',s',h1,h3,h.same.trans h2,h4,h5,h6.trans hl,h7.trans h.perm,k.map h.sy h.mr ht,h.ub.ext hS1 (fun g hg hm=> ?_)⟩
 have h8:=h.ub.tagOf g hg
 by_cases e:g∈ [tb]
 ·simp only [List.mem_singleton] at e
  rw [e,ht] at h8;cases h8
 ·exact hS2 g hm e _ (by decide) h8
theorem eK_ (hs:SyR w y v) (hd:Dsk y v L) (hr:RtOk L r) (hq:AtR r q) (hl:(U_ r).length<=100000):
  Calls Tryz.prog 32 #[.pointer (some ⟨y.b,0,none⟩),ah_ q] w (BlkPost y v L (U_ r) w):=by
 cases r with
 | none=>
  have hq:q=P0:=hq
  subst hq
  refine(ci_ y w).mono ?_
  rintro e w' ⟨rfl,hE⟩
  exact⟨_,v,rfl,.inl ⟨rfl,rfl⟩,by simp [blkL],hs.ext0 hE,SameV.refl v,hd,SyF.of0 hE⟩
 | some x=>
  obtain⟨n,x⟩:=x
  exact ee_ n x q y v L w hq hs hd hr.1 hr.2 hl
theorem iQ_ {a b:List Ptr4} (h:a.Perm b):A_ k a=A_ k b:=by
 induction h with
 | nil=> rfl
 | cons x _ ih=> simp only [A_,List.map_cons,List.sum_cons] at ih ⊢;omega
 | swap x z l=> simp only [A_,List.map_cons,List.sum_cons];omega
 | trans _ _ h1 h2=> exact h1.trans h2
theorem cZ_ {α β:Type} {f:α->β}: ∀{l:List α},(l.map f).Nodup->l.Nodup
 | [],_=> List.nodup_nil
 | a::l,h=> by
  rw [List.map_cons,List.nodup_cons] at h
  exact List.nodup_cons.2 ⟨fun hm=> h.1 (List.mem_map.2 ⟨a,hm,rfl⟩),cZ_ h.2⟩
theorem count_one {l:List Ptr4} (h:l.Nodup) (hq:q∈l):l.count q=1:=by
 have h1:=List.nodup_iff_count.1 h q
 have h2:=List.count_pos_iff.2 hq
 omega
theorem empty_map (w:World):MapR (w.alloc (.cells #[.slice none 0 0] 48)) w.heap.size []:=⟨_,heap_alloc_new _ _,.inl ⟨rfl,rfl⟩⟩
theorem empties_c (v0:Value) (xs:List Pr) (w:World) (hv:AR EPr w v0 xs):Calls Tryz.prog 8 #[v0] w fun e w'=> e= .returned (.bool true)/\Ext [] w w':=by
 obtain⟨p,cap,rfl,hrd⟩:=hv
 have HV:=hi_ hrd
 obtain⟨N,hN⟩: ∃n,n=xs.length:=⟨_,rfl⟩
 have HN:=hi_ hN
 rw [<-hN] at HV ⊢
 clear hrd hN
 go_enter Tryz.func8,Tryz.ntmps8
 go_wp2_with fail
 refine(known_c _).mono ?_
 rintro e W0 ⟨rfl,hE0⟩
 have HNEW:=hi_ (gp_ 1200 W0 (by omega) (by omega))
 go_wp2_with fail
 refine HNEW.out.mono ?_
 rintro e W1 ⟨y,v,rfl,hs,hk,hS,hF,hws,hnew,hlow,hE1⟩
 have hcl:v.spc.cells=5995:=by rw [hs.cells,hk,hS,hF];rfl
 have HOP:=hi_ (hu_ y P0 W1)
 simp only [ah_,P0] at HOP
 obtain⟨HS,HK⟩:=h_2 hs hk
 have HYS:=hi_ (And.intro hS hF)
 obtain⟨HCL,HWS,HN1⟩:=h_3 hcl hws hnew
 have HYL:Hid (∀b∈ [y.b,y.r,y.sp],w.heap.size<=b):=hi_ (fun b hb=> Nat.le_trans hE0.size (hlow b hb))
 have HE1:=hi_ (hE0.trans hE1)
 clear hs hk hS hF hws hnew hlow hE1 hE0 hcl HNEW
 go_wp2_with fail
 refine HOP.out.mono ?_
 rintro e W2 ⟨tb,rfl,ht,hE2,hlt⟩
 obtain⟨HT,HE2⟩:=h_2 ht hE2
 have HLT:Hid (w.heap.size<=tb):=hi_ (by have:=HE1.out.size;omega)
 clear ht hE2 hlt HOP
 go_upto_block 0 with fail
 have hEa:Ext [] W2 (W2.alloc (.cells #[.slice none 0 0] 48)):=(Ext.refl [] W2).alloc _
 have hm0:=empty_map W2
 have hX0:=(HE1.out.trans HE2.out).trans hEa
 have hlow2:w.heap.size<=W2.heap.size:=by have:=HE1.out.size;have:=HE2.out.size;omega
 obtain⟨mb,hmb⟩: ∃z,z=W2.heap.size:=⟨_,rfl⟩
 rw [<-hmb] at hm0 hlow2
 simp only [<-hmb]
 have hf0:Emp1 (W2.alloc (.cells #[.slice none 0 0] 48)) y v v tb (P0,none) (.slice none 0 0) ⟨none,[],false⟩ mb 0:=
  ⟨⟨(HS.out.ext0 HE2.out).ext0 hEa,dks_new HN1.out HWS.out,TreeR.ext0 ⟨HT.out,rfl,.inl ⟨rfl,rfl⟩⟩ hEa,trivial,hm0⟩,trivial,by simp [m_],by simp [U_],rfl,SameV.refl v⟩
 obtain⟨HF0,HX0,HMB⟩:=h_3 hf0 hX0 hlow2
 clear hEa hm0 hX0 hlow2 hmb hf0 HS HE1 HE2 HT
 revert HF0 HX0
 generalize World.alloc _ _=W3
 intro HF0 HX0
 go_cut [10] from 48 to 82 (fun iv wc=> ∃(i:Nat) (v1:Sv) (yv1:Rfm) (gv1:Value) (s1:TS),iv= .int .i64 i/\i<=60/\Hid (Emp1 wc y v v1 tb yv1 gv1 s1 mb i)/\Hid (Ext [] w wc))
 case first=>
  go_wp2_with fail
  go_loopw [10] (fun iv wr=> ∃(i:Nat) (v1:Sv) (yv1:Rfm) (gv1:Value) (s1:TS),iv= .int .i64 i/\i<=N/\i<=60/\Hid (Emp1 wr y v v1 tb yv1 gv1 s1 mb i)/\Hid (Ext [] w wr)) (fun iv _=> N - (intOf iv).toNat)
  case atStart=> exact⟨0,v,_,_,_,rfl,Nat.zero_le _,Nat.zero_le _,HF0,HX0⟩
  case round=>
   clear HF0 HX0
   obtain⟨i,v1,yv1,gv1,s1,rfl,hi,hi60,HF,HE⟩:=hrel
   by_cases hlt:i < N/\i < 60
   ·obtain⟨hlt,hlt2⟩:=hlt
    have z1:(i:Int) < (N:Int):=by omega
    have z2:(i:Int) < 60:=by omega
    have hne:xs≠ []:=by intro h;have:=HN.out;rw [h] at this;simp at this;omega
    have hrd:=(HV.out hne).ext0 HE.out
    obtain⟨ga,o,rfl⟩: ∃g o,p=some ⟨g,o,none⟩:=by
     rcases hrd with ⟨h,_⟩ | ⟨g,o,c,h,_⟩
     ·simp only [Value.slice.injEq] at h;omega
     ·simp only [Value.slice.injEq] at h;exact⟨g,o,h.1⟩
    have hil:i < xs.length:=by rw [<-HN.out];exact hlt
    have HCE:Hid (∀W,Ext [] w W->W.cell? ⟨ga,o+i*2,none⟩=some (.string ⟨(xs.getD i ([],[])).1.toArray⟩)/\W.cell? ⟨ga,o+i*2+1,none⟩=some (.string ⟨(xs.getD i ([],[])).2.toArray⟩)):=hi_ (fun W hE=> ag_ ((HV.out hne).ext0 hE) i hil)
    obtain⟨x,hx⟩: ∃x,x=xs.getD i ([],[]):=⟨_,rfl⟩
    rw [<-hx] at HCE
    have zi2:((i:Int)).toNat=i:=by omega
    clear hx hrd hne hil
    go_wp2_with fail
    have hD:=(Ext.refl [] wr).drew
    have HED:=hi_ (HE.out.trans hD)
    have HBW:=hi_ (HF.out.both.ext0 hD)
    obtain⟨cc,l',hl',ht',hm'⟩:=put_both HBW.out (HF.out.small hi60) x.1 x.2
    obtain⟨HT,HMM,HDD⟩:=h_3 ht' hm' hD
    clear ht' hm' hD
    refine f_ (fun W=> W.cell? ⟨ga,o+i*2,none⟩=some (.string ⟨x.1.toArray⟩)/\W.cell? ⟨ga,o+i*2+1,none⟩=some (.string ⟨x.2.toArray⟩)) (fun i=> i==5 || i==10 || i==17 || i==22 || i==11) (by kernel_rfl) (HCE.out _ HED.out) (fun hS=> ?_)
    refine PUq 0 ?_;(try go_frame);refine PUq 1 ?_;(try go_frame);refine PUq 2 ?_;(try go_frame);refine PUq 6 ?_;(try go_frame);(try simp only [zA,zB,zC,zD,zE]);refine PUq 7 ?_;(try go_frame);(try simp only [zA,zB,zC,zD,zE]);refine PUq 12 ?_;(try go_frame);(try simp only [zA,zB,zC,zD,zE]);refine PUq 13 ?_;(try go_frame);(try simp only [zA,zB,zC,zD,zE]);refine PUq 14 ?_;(try go_frame);(try simp only [zA,zB,zC,zD,zE]);refine PUq 18 ?_;(try go_frame);(try simp only [zA,zB,zC,zD,zE]);refine PUq 19 ?_;(try go_frame);(try simp only [zA,zB,zC,zD,zE])
    refine PUq 3 ?_;(try go_frame);refine PUq 8 ?_;(try go_frame);(try simp only [zA,zB,zC,zD,zE]);refine PUq 15 ?_;(try go_frame);(try simp only [zA,zB,zC,zD,zE]);refine PUq 20 ?_;(try go_frame);(try simp only [zA,zB,zC,zD,zE])
    refine PUq 4 ?_;(try go_frame);refine PUq 9 ?_;(try go_frame);(try simp only [zA,zB,zC,zD,zE]);refine PUq 16 ?_;(try go_frame);(try simp only [zA,zB,zC,zD,zE]);refine PUq 21 ?_;(try go_frame);(try simp only [zA,zB,zC,zD,zE])
    refine ta 5 ?_;(try go_frame);refine ta 10 ?_;(try go_frame);(try simp only [zA,zB,zC,zD,zE]);refine ta 17 ?_;(try go_frame);(try simp only [zA,zB,zC,zD,zE]);refine ta 22 ?_;(try go_frame);(try simp only [zA,zB,zC,zD,zE])
    refine a_ (i:=11) (by kernel_rfl) rfl (fun K hK=> ?_)
    (try simp only [Act.put,zA,zB,zC,List.setIfInBounds_toArray,zD,zE]);refine iw rfl ?_
    go_simp
    refine HT.out.mono ?_
    rintro e W5 ⟨rfl,h5⟩
    have hX5:=(BF.df (bs:= [tb]) h5.fr (by simp)).fresh HED.out HYL.out (by simpa using HLT.out)
    refine hK.out _ _ (fun _=> HCE.out _ hX5) (fun _=> ?_)
    have hm5:=h5.map HBW.out.sy HBW.out.mr HBW.out.tr.tag
    obtain⟨H5,HM5,HX5⟩:=h_3 h5 hm5 hX5
    clear hK hS h5 hm5 hX5
    refine a_ (i:=23) (by kernel_rfl) rfl (fun K hK=> ?_)
    (try simp only [Act.put,zA,zB,zC,List.setIfInBounds_toArray,zD,zE]);refine iw rfl ?_
    go_simp
    refine(HMM.out W5 HM5.out).mono ?_
    rintro e W6 ⟨rfl,hm6,hE6⟩
    obtain⟨v6,yv6,gv6,s6,hF6⟩:=HF.out.step (StepR.pre HDD.out (g_ HF.out.both.tr.blk) (H5.out.fin hl' HM5.out hm6 hE6))
    have HF6:=hi_ hF6
    have HX6:Hid (Ext [] w W6):=hi_ (HX5.out.trans' hE6 (by simp) (fun z hz=> .inr (by simp only [List.mem_singleton] at hz;rw [hz];exact HMB.out)))
    refine nk hK ?_
    clear hK hm6 hE6 hF6 H5 HM5 HX5 HT HMM HDD HBW HED HF HE HCE
    refine PUq 24 ?_;(try go_frame);(try simp only [zA,zB,zC,zD,zE])
    refine c_ (by kernel_rfl) ?_ _
    go_wp2_with fail
    go_roundw
    case rel=> exact⟨i+1,v6,yv6,gv6,s6,by go_num,by omega,by omega,HF6,HX6⟩
    case measure=> simp [intOf];omega
   ·by_cases hlt1:i < N
    ·have z1:(i:Int) < (N:Int):=by omega
     have z2: ¬(i:Int) < 60:=by omega
     go_wp2_with fail
     go_meet
     exact⟨i,v1,yv1,gv1,s1,rfl,hi60,HF,HE⟩
    ·have z1: ¬(i:Int) < (N:Int):=by omega
     go_wp2_with fail
     go_meet
     exact⟨i,v1,yv1,gv1,s1,rfl,hi60,HF,HE⟩
 case rest=>
  clear HF0 HX0
  obtain⟨i,v1,yv1,gv1,s1,rfl,hi60,HF,HE⟩:=hcut
  have hfree:v1.spc.free= [(0,5995)]:=by rw [HF.out.same.spc,HN1.out.free,HCL.out]
  have hback:v1.spc.back=0:=by rw [HF.out.same.spc,HN1.out.back]
  have hwrb:WrB v1 []:=(wrb_new HN1.out HWS.out HCL.out (by decide) (by decide)).same HF.out.same
  have HWB:=hi_ hwrb
  have HSAM:=hi_ HF.out.same
  obtain⟨HBK,HF1⟩:=h_2 hback hfree
  have HSY:=hi_ (tsync_c HF.out.both.sy HF.out.both.dk HF.out.both.tr HF.out.both.ok hwrb hfree (by decide) (by decide) hback (by have:=HF.out.room hi60 HK.out;omega))
  clear hfree hback hwrb
  go_wp2_with fail
  refine HSY.out.mono ?_
  rintro e W5 ⟨p5,r5,ms,v5,L5,rfl,hsy5,hfree5⟩
  have hms:ms.length<=3120:=by
   have h1:=dk_ rfl hsy5.pr.new hsy5.pr.dk
   have h2:=hsy5.cost
   have h3:=HF.out.room hi60 HK.out
   omega
  have hbk5:(U_ r5).Perm ms:=by have h1:=hsy5.wr.bk;rw [HF.out.bk] at h1;exact h1
  have hbl5:(U_ r5).length<=3120:=by rw [hbk5.length_eq];exact hms
  have hl5:(m_ r5).length<=60:=by rw [hsy5.wr.pr];have:=HF.out.len;omega
  have hEp:Ext [] W5 (W5.alloc (.cells #[.int .i64 p5.1,.int .i64 p5.2.1,.int .i64 p5.2.2.1,.string ⟨p5.2.2.2.toArray⟩] 34)):=(Ext.refl [] W5).alloc _
  have hpb:=heap_alloc_new W5 (.cells #[.int .i64 p5.1,.int .i64 p5.2.1,.int .i64 p5.2.2.1,.string ⟨p5.2.2.2.toArray⟩] 34)
  have hbf5:BF y [tb] wc W5:=BF.df hsy5.fr (by simp)
  have htt:=HF.out.both.tr.tag
  have hmt:=HF.out.both.mr.tag
  have hnm:mb∉ [tb]:=by simp only [List.mem_singleton];intro e;rw [e,htt] at hmt;cases hmt
  have hm5:=HF.out.both.mr.bf HF.out.both.sy hbf5 hnm (by simp only [List.mem_singleton,forall_eq,htt];decide)
  rw [<-hsy5.wr.pr] at hm5
  have hx5:=(hbf5.fresh HE.out HYL.out (by simpa using HLT.out)).trans hEp
  have hblk:=eK_ (hsy5.sy.ext0 hEp) hsy5.pr.dk.dsk hsy5.wr.ok hsy5.wr.atR (by omega)
  simp only [ah_] at hblk
  obtain⟨p0,p1,p2,p3, -⟩:=E_ hpb
  have H6:=hi_ (⟨hsy5.sy.ext0 hEp,hsy5.tr.ext0 hEp,hm5.ext0 hEp,hx5⟩:SyR _ y v5/\TreeR _ y tb (p5,none) (.slice none 0 0) ⟨r5,[],false⟩/\MapR _ mb (m_ r5)/\Ext [] w _)
  have HBLK:=hi_ hblk
  have HPR:=hi_ hsy5.pr
  have HWR:=hi_ hsy5.wr
  have HCO:=hi_ (show A_ y.k ms<=3120 by have:=hsy5.cost;have:=HF.out.room hi60 HK.out;omega)
  obtain⟨HFR5,HB5⟩:=h_2 hfree5 hbk5
  clear hsy5 hfree5 hbk5 hEp hpb hbf5 htt hmt hnm hm5 hx5 hblk HSY HE
  simp only [ah_]
  go_wp2_with fail
  refine HBLK.out.mono ?_
  rintro e W7 ⟨u7,v7,rfl,how7,hnew7,hs7,hsm7,hd7,hF7⟩
  have hbf7:=BF.of (bs:= []) hF7
  have hsy6:=H6.out.1
  obtain⟨pu,cu,rfl,hcu⟩:=how7.rd.len_eq
  obtain⟨BK,hBK⟩: ∃z,z=U_ r5:=⟨_,rfl⟩
  obtain⟨BL,hBL⟩: ∃z,z=BK.length:=⟨_,rfl⟩
  obtain⟨l0,hl0⟩: ∃z,z=m_ r5:=⟨_,rfl⟩
  obtain⟨N2,hN2⟩: ∃z,z=l0.length:=⟨_,rfl⟩
  have he2:Emp2 W7 y v7 v7 L5 tb (p5,none) (.slice none 0 0) ⟨r5,[],false⟩ mb l0 BK (.slice pu (U_ r5).length cu) 0:=
   ⟨hs7,HPR.out.dk.same hsm7 hd7,SameV.refl v7,H6.out.2.1.bf hsy6 hbf7 (by simp) (by simp),HWR.out.ok,by rw [hl0];rfl,by rw [hBK];simp,by rw [hl0];exact H6.out.2.2.1.bf hsy6 hbf7 (by simp) (by simp),by rw [hBK];exact how7⟩
  rw [<-hBK,<-hBL] at he2
  simp only [<-hBK,<-hBL]
  have HE2:=hi_ he2
  have HX7:=hi_ (hbf7.fresh H6.out.2.2.2 HYL.out (by simp))
  have HSV:=hi_ hsm7
  have hN60:N2<=60:=by rw [hN2,hl0];exact hl5
  have hB9:BL<=3120:=by rw [hBL,hBK];exact hbl5
  have HSRT:Hid (SrtK l0):=hi_ (by rw [hl0];exact HWR.out.ok.srt.1)
  obtain⟨HN2,HBL⟩:=h_2 hN2 hBL
  rw [<-hBK] at HB5
  clear hBK hBL hl0 hN2 how7 hnew7 hs7 hsm7 hd7 hF7 hbf7 hsy6 he2 H6 HBLK p0 p1 p2 p3 hl5 hbl5 hcu HF
  go_wp2_with fail
  go_loopw [15] (fun iv wr=> ∃(i:Nat) (v2:Sv) (yv2:Rfm) (gv2:Value) (s2:TS),iv= .int .i64 i/\i<=N2/\Hid (Emp2 wr y v7 v2 L5 tb yv2 gv2 s2 mb l0 BK (.slice pu BL cu) i)/\Hid (Ext [] w wr)) (fun iv _=> N2 - (intOf iv).toNat)
  case atStart=> exact⟨0,v7,_,_,_,rfl,Nat.zero_le _,HE2,HX7⟩
  case round=>
   clear HE2 HX7
   obtain⟨i,v2,yv2,gv2,s2,rfl,hi,HF,HE⟩:=hrel
   obtain⟨pm,cm,m0,hcm,how, -⟩:=HF.out.mr.cell
   rw [<-HN2.out] at m0 how
   by_cases hlt:i < N2
   ·have z1:(i:Int) < (N2:Int):=by omega
    obtain⟨gm,om,rfl⟩: ∃g o,pm=some ⟨g,o,none⟩:=by
     rcases how with ⟨h,_⟩ | ⟨g,o,c,_,h,_⟩
     ·simp only [Value.slice.injEq] at h;omega
     ·simp only [Value.slice.injEq] at h;exact⟨g,_,h.1⟩
    have hil:i < l0.length:=by rw [<-HN2.out];exact hlt
    obtain⟨k1,k2⟩:=ag_ how.rd i hil
    obtain⟨x,hx⟩: ∃x,x=l0.getD i ([],[]):=⟨_,rfl⟩
    have hxe:l0[i]=x:=by rw [hx];simp [List.getD,hil]
    have hdr:l0.drop i=x::l0.drop (i+1):=by rw [List.drop_eq_getElem_cons hil,hxe]
    have hsr:SrtK (x::l0.drop (i+1)):=by rw [<-hdr];exact List.Pairwise.sublist (List.drop_sublist _ _) HSRT.out
    obtain⟨-,t1,t2,t3⟩:=srt_head hsr
    have hpr:=HF.out.prs
    rw [hdr] at hpr
    have hsm:=HF.out.small (by rw [<-HN2.out];exact hN60) (by rw [<-HBL.out];omega)
    have HD1:=hi_ (tdrop_yes HF.out.sy HF.out.dk HF.out.tr HF.out.ok hsm (key:=x.1) (by rw [hpr];exact t1))
    have HDL:Hid (dropL (m_ s2.root) x.1=l0.drop (i+1)):=hi_ (by rw [hpr];exact t2)
    have HT3:=hi_ t3
    have HXI:Hid (l0.getD i ([],[])=x/\i < l0.length):=hi_ ⟨hx.symm,hil⟩
    rw [<-hx] at k1 k2
    have zi2:((i:Int)).toNat=i:=by omega
    clear hx hxe hdr hsr t1 t2 t3 hpr hsm hil how hcm k2
    go_wp2_with fail
    refine HD1.out.mono ?_
    rintro e W9 ⟨rfl,hto⟩
    obtain⟨v9,yv9,gv9,s9,hE9⟩:=HF.out.to hto HDL.out
    have HE9:=hi_ hE9
    have HX9:=hi_ ((BF.df (bs:= [tb]) hto.fr (by simp)).fresh HE.out HYL.out (by simpa using HLT.out))
    obtain⟨pm,cm,m0,hcm,how, -⟩:=hE9.mr.cell
    rw [<-HN2.out] at m0 how
    obtain⟨gm,om,rfl⟩: ∃g o,pm=some ⟨g,o,none⟩:=by
     rcases how with ⟨h,_⟩ | ⟨g,o,c,_,h,_⟩
     ·simp only [Value.slice.injEq] at h;omega
     ·simp only [Value.slice.injEq] at h;exact⟨g,_,h.1⟩
    obtain⟨k1,k2⟩:=ag_ how.rd i HXI.out.2
    rw [HXI.out.1] at k1 k2
    have hsm:=hE9.small (by rw [<-HN2.out];exact hN60) (by rw [<-HBL.out];omega)
    have HD2:=hi_ (tdrop_no hE9.sy hE9.dk hE9.tr hE9.ok hsm (key:=x.1) (by rw [hE9.prs];exact HT3.out))
    have HPS:Hid (m_ s9.root=l0.drop (i+1)):=hi_ hE9.prs
    clear hto hE9 hsm how hcm HD1 HF HE k2
    go_wp2_with fail
    refine HD2.out.mono ?_
    rintro e W10 ⟨rfl,hto⟩
    obtain⟨v10,yv10,gv10,s10,hE10⟩:=HE9.out.to hto HPS.out
    have HE10:=hi_ hE10
    have HX10:=hi_ ((BF.df (bs:= [tb]) hto.fr (by simp)).fresh HX9.out HYL.out (by simpa using HLT.out))
    clear hto hE10 HD2 HE9 HX9 HPS HDL HT3 HXI m0 k1
    go_wp2_with fail
    go_roundw
    case rel=> exact⟨i+1,v10,yv10,gv10,s10,by go_num,by omega,HE10,HX10⟩
    case measure=> simp [intOf];omega
   ·have z1: ¬(i:Int) < (N2:Int):=by omega
    clear how hcm
    have hiN:i=N2:=by omega
    have hrn:s2.root=none:=fS_ HF.out.ok (by rw [HF.out.prs,hiN,HN2.out,List.drop_length])
    have hfr2:v2.spc.free= [(0+(A_ y.k ms:Int),5995)]:=by rw [HF.out.same.spc,HSV.out.spc];exact HFR5.out
    have hbk2:v2.spc.back=0:=by rw [HF.out.same.spc,HSV.out.spc,HPR.out.back];exact HBK.out
    have hlv2:v2.spc.leaving= []:=by rw [HF.out.same.spc,HSV.out.spc,HPR.out.leaving,<-HN1.out.leaving,<-HSAM.out.spc]
    have hwb2:WrB v2 []:=by
     have h1:=HWB.out.step HPR.out
     exact WrB.same (v:=v5) ⟨h1.ws,by have:=h1.ps;simp only [List.nil_append,List.length_nil] at this ⊢;omega,h1.t0,h1.t1⟩ (HSV.out.trans HF.out.same)
    have hsync:=tsync_c HF.out.sy HF.out.dk HF.out.tr HF.out.ok hwb2 hfr2 (by omega) (by decide) hbk2 (by
     rw [hrn]
     show 0+(A_ y.k ms:Int)+((0:Nat):Int) < 5995
     have:=HCO.out
     omega)
    obtain⟨HSY2,HRN,HFR2,HBK2,HLV2⟩:=h_5 hsync hrn hfr2 hbk2 hlv2
    clear hiN hrn hfr2 hbk2 hlv2 hwb2 hsync
    go_wp2_with fail
    refine HSY2.out.mono ?_
    rintro e W8 ⟨p8,r8,ms8,v8,L8,rfl,hsy8, -⟩
    have hr8:r8=none:=fS_ hsy8.wr.ok (by rw [hsy8.wr.pr,HRN.out];rfl)
    have hp8:p8=P0:=by have h:=hsy8.wr.atR;rw [hr8] at h;exact h
    subst hr8
    subst hp8
    obtain⟨pg,cg,rfl,hcg⟩:=hsy8.gone.rd.len_eq
    have hperm:s2.gone.Perm BK:=by have h:=HF.out.perm;rw [HRN.out] at h;exact h
    have hGB:s2.gone.length=BL:=by rw [hperm.length_eq,HBL.out]
    have hgo:=hsy8.gone
    rw [hGB] at hgo hcg ⊢
    have htt:=HF.out.tr.tag
    have hbf8:BF y [tb] wr W8:=BF.df hsy8.fr (by simp)
    obtain⟨S8,hS8a,hS8b⟩:=hbf8.tags HF.out.sy
    have hub:=HF.out.ub.ext hS8a (fun g hg hm=> by
     have h8:=HF.out.ub.tagOf g hg
     by_cases e:g∈ [tb]
     ·simp only [List.mem_singleton] at e
      rw [e,htt] at h8;cases h8
     ·exact hS8b g hm e _ (by decide) h8)
    have hX8:=hbf8.fresh HE.out HYL.out (by simpa using HLT.out)
    have hEp:Ext [] W8 (W8.alloc (.cells #[.int .i64 0,.int .i64 0,.int .i64 0,.string ⟨#[]⟩] 34)):=(Ext.refl [] W8).alloc _
    have hpb:=heap_alloc_new W8 (.cells #[.int .i64 0,.int .i64 0,.int .i64 0,.string ⟨#[]⟩] 34)
    have hstd: ∀q∈s2.gone,∃bs,(q.1,bs)∈L8/\PtAt q bs:=fun q hq=> by
     have h1:q∈ms:=HB5.out.mem_iff.1 (hperm.mem_iff.1 hq)
     obtain⟨bs,h2,h3⟩:=HPR.out.new q h1
     exact⟨bs,hsy8.pr.sub _ h2,h3⟩
    have hnda:(s2.gone.map (fun p=> p.1)).Nodup:=((hperm.trans HB5.out).map (fun p=> p.1)).nodup_iff.2 HPR.out.nodup
    have hcntB: ∀q∈s2.gone,BK.count q=1:=fun q hq=> count_one (cZ_ ((HB5.out.map (fun p=> p.1)).nodup_iff.2 HPR.out.nodup)) (hperm.mem_iff.1 hq)
    have hcost:A_ y.k s2.gone=A_ y.k ms:=iQ_ (hperm.trans HB5.out)
    have hc8:cntL v8.spc.free=5995 - A_ y.k ms/\cntL v8.spc.leaving=0/\v8.spc.back=0:=by
     have h1:=hsy8.pr.cnt
     have h2:A_ y.k ms8<=0:=by have:=hsy8.cost;rw [HRN.out] at this;exact this
     have h3:cntL v2.spc.free=5995 - A_ y.k ms:=by rw [HFR2.out];simp [cntL]
     refine⟨by omega, ?_,by rw [hsy8.pr.back];exact HBK2.out⟩
     rw [hsy8.pr.leaving,HLV2.out];rfl
    have H9:=hi_ (⟨hsy8.sy.ext0 hEp,hsy8.tr.ext0 hEp,hgo.ext0 hEp,hub.ext0 hEp,hpb,hX8.trans hEp⟩:SyR _ y v8/\TreeR _ y tb (P0,none) (.slice none 0 0) ⟨none,[],false⟩/\EP.Ow 34 _ (.slice pg BL cg) s2.gone/\EP.Ow 34 _ (.slice pu BL cu) BK/\_/\Ext [] w _)
    have HG0:=hi_ (GonI.start hsy8.pr.dk s2.gone)
    obtain⟨HSTD,HNDA,HCNB,HCST,HC8,HGBE⟩:=h_6 hstd hnda hcntB hcost hc8 hGB
    obtain⟨p0,p1,p2,p3, -⟩:=E_ hpb
    clear hperm hGB hgo htt hbf8 hS8a hS8b hub hX8 hEp hpb hstd hnda hcntB hcost hc8 hsy8 HSY2 HF HE m0 hcg
    rw [show ah_ P0= .agg #[.int .i64 0,.int .i64 0,.int .i64 0,.string ⟨#[]⟩] from rfl]
    go_wp2_with fail
    obtain⟨pb,hpbe⟩: ∃z,z=W8.heap.size:=⟨_,rfl⟩
    rw [<-hpbe] at H9
    simp only [<-hpbe]
    clear hpbe p0 p1 p2 p3
    revert H9
    generalize World.alloc _ _=W9
    intro H9
    go_loopw [19] (fun kv wr=> ∃(k:Nat) (vk:Sv) (Lk:List Blk),kv= .int .i64 k/\k<=BL/\Hid (GonI y v8 L8 s2.gone k vk Lk)/\Hid (SyR wr y vk/\TreeR wr y tb (P0,none) (.slice none 0 0) ⟨none,[],false⟩/\EP.Ow 34 wr (.slice pg BL cg) s2.gone/\EP.Ow 34 wr (.slice pu BL cu) BK/\wr.heap[pb]? =some (.cells #[.int .i64 0,.int .i64 0,.int .i64 0,.string ⟨#[]⟩] 34 (0,0))/\Ext [] w wr)) (fun kv _=> BL - (intOf kv).toNat)
    case atStart=> exact⟨0,v8,L8,rfl,Nat.zero_le _,HG0,H9⟩
    case round=>
     clear HG0 H9
     obtain⟨k,vk,Lk,rfl,hkG,HGI,HM⟩:=hrel
     by_cases hlk:k < BL
     ·have zk1:(k:Int) < (BL:Int):=by omega
      have hkl:k < s2.gone.length:=by rw [HGBE.out];exact hlk
      obtain⟨q,hq⟩: ∃q,s2.gone[k]? =some q:=⟨_,List.getElem?_eq_getElem hkl⟩
      have hqm:=List.mem_of_getElem? hq
      have hqd:s2.gone.getD k P0=q:=by simp [List.getD,hq]
      obtain⟨g5,o5,rfl⟩: ∃g o,pg=some ⟨g,o,none⟩:=by
       rcases HM.out.2.2.1 with ⟨h,_⟩ | ⟨g,o,c,_,h,_⟩
       ·simp only [Value.slice.injEq] at h;omega
       ·simp only [Value.slice.injEq] at h;exact⟨g,_,h.1⟩
      have HCE:Hid (∀W,EP.Ow 34 W (.slice (some ⟨g5,o5,none⟩) BL cg) s2.gone->W.cell? ⟨g5,o5+k*4,none⟩=some (.int .i64 q.1)/\W.cell? ⟨g5,o5+k*4+1,none⟩=some (.int .i64 q.2.1)/\W.cell? ⟨g5,o5+k*4+2,none⟩=some (.int .i64 q.2.2.1)/\W.cell? ⟨g5,o5+k*4+3,none⟩=some (.string ⟨q.2.2.2.toArray⟩)):=hi_ (fun W h=> by
       have h1:=dn_ h.rd k hkl
       rw [hqd] at h1
       exact h1)
      obtain⟨m0,m1,m2,m3⟩:=HCE.out wr HM.out.2.2.1
      have hin:=lawin_c (.slice pu BL cu) BK q wr HM.out.2.2.2.1.rd (by rw [<-HBL.out];omega)
      rw [HCNB.out q hqm,show ((1:Nat):Int)=1 from rfl] at hin
      simp only [ah_] at hin
      have HIN:=hi_ hin
      obtain⟨bs,hbs1,hbs2⟩:=HSTD.out q hqm
      have hstd:=HGI.out.dk.dsk.std _ (HGI.out.at HNDA.out hq hbs1)
      have hq1:1<=q.2.1:=by rw [hbs2.1];exact hstd.1
      have hq2:q.2.1<=1024:=by rw [hbs2.1];exact hstd.2.1
      have hq3:q.1<=1000000:=by
       have h1:=hstd.2.2.1
       have h2:=HM.out.1.spi.c2
       have h3:=HM.out.1.cells
       simp only at h1
       omega
      have HGV:Hid (∀W,SyR W y vk->Calls Tryz.prog 30 #[.pointer (some ⟨y.b,0,none⟩),.agg #[.int .i64 q.1,.int .i64 q.2.1,.int .i64 q.2.2.1,.string ⟨q.2.2.2.toArray⟩]] W (gB_ y vk q.1 q.2.1 W)):=hi_ (fun W hs=> by
       have h1:=eN_ y vk q.1 q.2.1 q.2.2.1 q.2.2.2 W hs hq1 hq2 hq3
       simp only [pagg] at h1
       exact h1)
      have HSTEP:=hi_ (fun(v2:Sv) (err:Int) hg hw hm=> HGI.out.step (v2:=v2) (err:=err) HNDA.out hq hbs1 hbs2 HM.out.1.spi HM.out.1.cells hg hw hm)
      have zk2:((k:Int)).toNat=k:=by omega
      clear hin hq1 hq2 hq3 hstd hbs1 hbs2 hqd hq hqm hkl HGI
      go_wp2_with fail
      refine HIN.out.mono ?_
      rintro e WA ⟨rfl,hEA⟩
      have HMA:=hi_ (⟨HM.out.1.ext0 hEA,HM.out.2.1.ext0 hEA,HM.out.2.2.1.ext0 hEA,HM.out.2.2.2.1.ext0 hEA,hEA.blk HM.out.2.2.2.2.1 (by simp),HM.out.2.2.2.2.2.trans hEA⟩:SyR WA y vk/\TreeR WA y tb (P0,none) (.slice none 0 0) ⟨none,[],false⟩/\EP.Ow 34 WA (.slice (some ⟨g5,o5,none⟩) BL cg) s2.gone/\EP.Ow 34 WA (.slice pu BL cu) BK/\_/\Ext [] w WA)
      clear hEA HM HIN m0 m1 m2 m3
      obtain⟨m0,m1,m2,m3⟩:=HCE.out WA HMA.out.2.2.1
      go_wp2_with fail
      refine(HGV.out _ HMA.out.1).mono ?_
      rintro e WB ⟨err,v2',rfl,hsy2,hF2,hws2,hrel2,hst2⟩
      obtain⟨rfl,hgi2⟩:=HSTEP.out v2' err hrel2 hws2 hst2
      have hbf:BF y [] WA WB:=BF.of hF2
      have hsyr:=HMA.out.1
      obtain⟨S10,hSa,hSb⟩:=hF2.tags hsyr
      have HM2:=hi_ (⟨hsy2,HMA.out.2.1.bf hsyr hbf (by simp) (by simp),HMA.out.2.2.1.ext hSa (fun g hg hm=> hSb g hm _ (by decide) (HMA.out.2.2.1.tagOf g hg)),HMA.out.2.2.2.1.ext hSa (fun g hg hm=> hSb g hm _ (by decide) (HMA.out.2.2.2.1.tagOf g hg)),hbf.blk hsyr HMA.out.2.2.2.2.1 (by simp) (by decide),hbf.fresh HMA.out.2.2.2.2.2 HYL.out (by simp)⟩:SyR WB y v2'/\TreeR WB y tb (P0,none) (.slice none 0 0) ⟨none,[],false⟩/\EP.Ow 34 WB (.slice (some ⟨g5,o5,none⟩) BL cg) s2.gone/\EP.Ow 34 WB (.slice pu BL cu) BK/\WB.heap[pb]? =some (.cells #[.int .i64 0,.int .i64 0,.int .i64 0,.string ⟨#[]⟩] 34 (0,0))/\Ext [] w WB)
      have HGI2:=hi_ hgi2
      clear hsy2 hF2 hws2 hrel2 hst2 hgi2 hbf hsyr hSa hSb HMA HSTEP HGV HCE m0 m1 m2 m3
      go_wp2_with fail
      go_roundw
      case rel=> exact⟨k+1,v2',offL Lk q.1,by go_num,by omega,HGI2,HM2⟩
      case measure=> simp [intOf];omega
     ·have zk1: ¬((k:Int) < (BL:Int)):=by omega
      have hkB:k=BL:=by omega
      have hng:s2.gone.take k=s2.gone:=List.take_of_length_le (by rw [HGBE.out];omega)
      have hfin: ∀sp:Spc,Settled vk.spc sp->cntL sp.free - sp.back=5995:=fun sp hst=> by
       have h1:=hst.cnt
       have h2:=HGI.out.leav
       have h3:=HGI.out.free
       have h4:=HC8.out
       have h5:=HGI.out.back
       have h6:=hst.back
       rw [hng,HCST.out] at h2
       rw [h3] at h1
       omega
      have HFIN:=hi_ hfin
      have HST:=hi_ (iu_ y vk _ HM.out.1)
      have HDKK:=hi_ HGI.out.dk
      clear hkB hng hfin HGI
      go_wp2_with fail
      refine HST.out.mono ?_
      rintro e W10 ⟨sp,rfl,hs10,hst10,hF10⟩
      have hbf10:BF y [] wr W10:=BF.of hF10
      have hsyr:=HM.out.1
      have HFF:=hi_ (HFIN.out sp hst10)
      have HDK:=hi_ (HDKK.out.settle hst10 (v':={vk with spc:=sp}) rfl rfl)
      have H10:=hi_ (⟨hs10,HM.out.2.1.bf hsyr hbf10 (by simp) (by simp),hbf10.blk hsyr HM.out.2.2.2.2.1 (by simp) (by decide),hbf10.fresh HM.out.2.2.2.2.2 HYL.out (by simp)⟩:SyR W10 y {vk with spc:=sp}/\TreeR W10 y tb (P0,none) (.slice none 0 0) ⟨none,[],false⟩/\W10.heap[pb]? =some (.cells #[.int .i64 0,.int .i64 0,.int .i64 0,.string ⟨#[]⟩] 34 (0,0))/\Ext [] w W10)
      clear hs10 hst10 hF10 hbf10 hsyr HST HM HFIN HDKK
      obtain⟨p0,p1,p2,p3, -⟩:=E_ H10.out.2.2.1
      have HB1:=hi_ (ci_ y W10)
      rw [show ah_ P0= .agg #[.int .i64 0,.int .i64 0,.int .i64 0,.string ⟨#[]⟩] from rfl] at HB1
      go_wp2_with fail
      refine HB1.out.mono ?_
      rintro e W11 ⟨rfl,hE11⟩
      clear p0 p1 p2 p3
      obtain⟨p0,p1,p2,p3, -⟩:=E_ (hE11.blk H10.out.2.2.1 (by simp))
      have HB2:=hi_ (fL_ P0 W11)
      rw [show ah_ P0= .agg #[.int .i64 0,.int .i64 0,.int .i64 0,.string ⟨#[]⟩] from rfl] at HB2
      have HE11:=hi_ hE11
      clear hE11 HB1
      go_wp2_with fail
      refine HB2.out.mono ?_
      rintro e W12 ⟨rfl,hE12⟩
      clear p0 p1 p2 p3
      obtain⟨p0,p1,p2,p3, -⟩:=E_ ((HE11.out.trans hE12).blk H10.out.2.2.1 (by simp))
      have HB3:=hi_ (ip_ P0 W12)
      rw [show ah_ P0= .agg #[.int .i64 0,.int .i64 0,.int .i64 0,.string ⟨#[]⟩] from rfl] at HB3
      have HE12:=hi_ (HE11.out.trans hE12)
      clear hE12 HB2 HE11
      go_wp2_with fail
      refine HB3.out.mono ?_
      rintro e W13 ⟨rfl,hE13⟩
      clear p0 p1 p2 p3
      have HE13:=hi_ (HE12.out.trans hE13)
      have hsy13:=H10.out.1.ext0 HE13.out
      have hfr:=stfree_c y {vk with spc:=sp} W13 hsy13
      simp only [HFF.out] at hfr
      have HFRR:=hi_ hfr
      clear hE13 HB3 HE12 hsy13 hfr
      go_wp2_with fail
      refine HFRR.out.mono ?_
      rintro e W14 ⟨rfl,hE14⟩
      have hsy14:=(H10.out.1.ext0 HE13.out).ext0 hE14
      have hcl:=dO_ y.a y.r y.gg (y.k+4) y.S y.F _ W14 hsy14.rk hsy14.ar (by rw [HK.out];decide) hsy14.S2 hsy14.FS
      have e99:(((y.k+4)*(y.S - y.F):Nat):Int)=5995:=by rw [HK.out,HYS.out.1,HYS.out.2];rfl
      rw [e99] at hcl
      have HCLL:=hi_ hcl
      have HE14:=hi_ (HE13.out.trans hE14)
      clear hE14 HFRR hsy14 hcl e99 HE13
      go_wp2_with fail
      refine HCLL.out.mono ?_
      rintro e W15 ⟨rfl,hE15⟩
      have HE15:=hi_ (HE14.out.trans hE15)
      have hput:=tput_ok (key:= [97]) (val:= [49]) (H10.out.1.ext0 HE15.out) HDK.out (H10.out.2.1.ext0 HE15.out) trivial ⟨by simp [m_],by simp [U_],by simp⟩ (by simp [cD_])
      have HPUT:=hi_ hput
      clear hE15 HCLL HE14 hput
      go_wp2_with fail
      refine HPUT.out.mono ?_
      rintro e W16 ⟨rfl,hto⟩
      have HX16:=hi_ ((BF.df (bs:= [tb]) hto.fr (by simp)).fresh (H10.out.2.2.2.trans HE15.out) HYL.out (by simpa using HLT.out))
      clear hto HPUT
      go_wp2_with fail
      go_ret
      exact⟨rfl,HX16.out⟩
end Go.Proofs.YtkpgjkekmdecbaaGreat
