/- Lemmas for the claim. No conditions beside those that each states. -/
import Derived.Test.YtkpgjkekmdecbaaGreatEmpAQ
set_option maxRecDepth 100000
set_option maxHeartbeats 8000000
set_option linter.all false

namespace Go.Proofs.YtkpgjkekmdecbaaGreat
open Go.RowKit
variable {w w':World} {gv:Value} {n tb:Nat} {S:List Nat} {yv:Rfm} {y:Sy} {v:Sv} {r:Root}
def ColLaw (n:Nat):Prop:= ∀(Av:Nat->Prop) (y:Sy) (v:Sv) (L:List Blk) (yv:Rfm) (r:Rf n) (fr up:Ky) (m:Nat) (ov:Value) (outs:List Pr) (w:World),ColIn Av y v L n yv r ov outs w->(m:Int)<=9223372036854775807->
  Calls Tryz.prog 48 #[.pointer (some ⟨y.b,0,none⟩),refV yv,.string ⟨fr.toArray⟩,.string ⟨up.toArray⟩,.int .i64 m,ov] w (ho_ y v L ov (outs++(selR fr up (prs n r.2)).take (m - outs.length)) w)
theorem iV_ (ih:ColLaw n):ColLaw (n+1):=by
 intro Av y v L yv r fr up m ov outs w h hm
 obtain⟨po,co,rfl,_⟩:=h.ow.rd.len_eq
 have hE0:Ext [] w (w.alloc (.cells (refV yv).cells 89)):=(Ext.refl [] w).alloc _
 have hload:=df_ Av y v L (n+1) yv r _ (h.sy.ext0 hE0) h.dsk (h.kid.mono (fun b hn=> NodeRI.ext hE0 (by simp) _ _ _ hn)) h.dk h.good
 obtain⟨HH,HLD,HE0⟩:=h_3 h hload hE0
 obtain⟨t,ht⟩: ∃t:List (Pc n),t=r.2:=⟨_,rfl⟩
 have hbd:outs.length+(prsP t).length<=1000000:=by rw [ht];exact h.bd
 have HBD0:=hi_ hbd
 have HG:Hid (GoodT (n+1) t):=hi_ (by rw [ht];exact h.good)
 have HWF:Hid (SrtS (q_ t)/\SepL t/\ ∀k∈t,WfT n k.2.2):=hi_ (by rw [ht];exact h.wf)
 have HNE:Hid (t≠ []/\ ∀k∈t,NeT n k.2.2):=hi_ (by rw [ht];exact h.ne)
 have HDT:Hid (∀k∈t,DskK L n k.2/\DskT L n k.2.2):=hi_ (by rw [ht];exact h.dt)
 have HTR:=hi_ ht
 have htl:t.length<=900:=HG.out.1
 clear h hload hE0 ht hbd
 simp only [refV,ptV,Value.cells] at HLD HE0 ⊢
 obtain⟨q,hq⟩: ∃q,q=Option.map (fun b=> (⟨b,0,none⟩:Addr)) yv.2:=⟨_,rfl⟩
 rw [<-hq] at HLD HE0 ⊢
 clear hq
 go_enter Tryz.func48,Tryz.ntmps48
 go_wp2_with fail
 refine HLD.out.mono ?_
 rintro e W1 ⟨b,v1,rfl,hn1,hs1,hsm1,hd1,hF1⟩
 have HW:Hid (ColS y v v1 L (.slice po outs.length co) (.slice po outs.length co) outs w W1):=hi_ ⟨by
  obtain⟨S,hS,hS2⟩:=TF.blocks (ov:= .slice none 0 0) (HH.out.sy.ext0 HE0.out) (TF.of hF1)
  exact(HH.out.ow.ext0 HE0.out).ext hS (fun g hg hm=> by
   rcases hS2 g hm with h | h
   ·simp [blkL] at h
   ·exact h _ (by simp) ((HH.out.ow.ext0 HE0.out).tagOf g hg)),hs1,hsm1,hd1,(TF.of (SyF.of0 HE0.out)).trans (Near.refl _ _) (TF.of hF1),Near.refl _ _⟩
 have hn1':NodeRI (fun k=> (Av k\/w.heap.size<=k)/\k < W1.heap.size/\k∉blkL (.slice po outs.length co)) W1 (n+1) b t:=by
  have hn2:=NodeRI.mono (Av':=fun k=> (Av k\/(w.alloc (.cells #[.int .i64 yv.1.1,.int .i64 yv.1.2.1,.int .i64 yv.1.2.2.1,.string ⟨yv.1.2.2.2.toArray⟩,.pointer q] 89)).heap.size<=k)/\k < W1.heap.size) (fun k h h2=> ⟨h,h2⟩) _ _ _ hn1
  rw [<-HTR.out] at hn2
  refine NodeRI.mono (fun k hk _=> ?_) _ _ _ hn2
  have hlt:=HH.out.ow.lt
  have hsz:w.heap.size<=(w.alloc (.cells #[.int .i64 yv.1.1,.int .i64 yv.1.2.1,.int .i64 yv.1.2.2.1,.string ⟨yv.1.2.2.2.toArray⟩,.pointer q] 89)).heap.size:=HE0.out.size
  refine⟨hk.1.imp id (fun h=> by omega),hk.2,fun hm=> ?_⟩
  rcases hk.1 with h | h
  ·exact HH.out.av k hm h
  ·have:=hlt k hm;omega
 obtain⟨rs,hnd,hkids⟩:=hn1'
 obtain⟨HKIDS,HN1⟩:=h_2 hkids hnd
 have HW1:Hid (ColS y v1 v1 L (.slice po outs.length co) (.slice po outs.length co) outs W1 W1):=hi_ ⟨HW.out.ow,HW.out.sy,SameV.refl _,HW.out.dsk,TF.refl _ _ _,Near.refl _ _⟩
 have HAV:Hid (∀(wr:World) (ov':Value),Near W1 (.slice po outs.length co) ov'-> ∀k∈blkL ov',¬((Av k\/w.heap.size<=k)/\k < W1.heap.size/\k∉blkL (.slice po outs.length co))):=hi_ (fun wr ov' hn k hk ha=> by
  rcases hn k hk with h | h
  ·exact ha.2.2 h
  ·omega)
 clear hn1 hs1 hsm1 hd1 hF1 HE0 HLD hnd hkids
 obtain⟨N,hN⟩: ∃N,N=t.length:=⟨_,rfl⟩
 have HN:=hi_ hN
 have hrl:rs.length=N:=by rw [HKIDS.out.1,hN]
 rw [<-hN] at htl
 obtain⟨pp,cp,pk,ck,pr,cr,c0, -, -, -, -, -, -⟩:=HN1.out.cells
 have hkat:=kidAt HWF.out.1 fr HNE.out.1
 obtain⟨i0,hi0e⟩: ∃i0,i0=leK (q_ t) fr:=⟨_,rfl⟩
 have hkc:=trkid_c b (q_ t) rs [] false fr W1 HN1.out.node (by rw [u_];omega) HWF.out.1
 rw [<-hi0e] at hkat hkc
 have hi0:i0 < N:=by rw [hN];exact hkat.lt
 have h0:selR fr up (prsP (t.take i0))= []:=sel_ahead HWF.out.2.1 hkat
 obtain⟨H0,HKC,HKAT,HRL⟩:=h_4 h0 hkc hkat hrl
 clear hN hi0e h0 hkc hkat hrl
 go_wp2_with fail
 refine HKC.out.mono ?_
 rintro e W2 ⟨rfl,hw2⟩
 rw [hw2]
 clear hw2 W2 HKC c0
 go_wp2_with fail
 go_loopw [5,15,18] (fun bv _ iv wr=> ∃(i:Nat) (v':Sv),i0<=i/\i<=N/\iv= .int .i64 i/\Hid (ColS y v1 v' L (.slice po outs.length co) bv (outs++(selR fr up (prsP (t.take i))).take (m - outs.length)) W1 wr)) (fun _ _ iv _=> N - (intOf iv).toNat)
 case atStart=> exact⟨i0,v1,Nat.le_refl _,by omega,rfl,hi_ (by rw [H0.out,List.take_nil,List.append_nil];exact HW1.out)⟩
 case round=>
  obtain⟨i,v',hi1,hi2,rfl,HC⟩:=hrel
  obtain⟨pb,cb,hbv,_⟩:=HC.out.ow.rd.len_eq
  rw [List.length_append] at hbv
  subst hbv
  obtain⟨s,hs⟩: ∃s,s=(selR fr up (prsP (t.take i))).take (m - outs.length):=⟨_,rfl⟩
  rw [<-hs] at HC
  simp only [<-hs]
  have HS:=hi_ hs
  have hsr:s.length<=m - outs.length:=by rw [hs,List.length_take];omega
  have hsp:s.length<=(prsP (t.take i)).length:=by
   rw [hs,List.length_take]
   have:(selR fr up (prsP (t.take i))).length<=(prsP (t.take i)).length:=List.length_filter_le _ _
   omega
  obtain⟨HSR,HSP⟩:=h_2 hsr hsp
  clear hs hsr hsp
  have hnw:=HN1.out.tf HW1.out.sy HC.out.tf (HAV.out W1 _ (Near.refl _ _))
  obtain⟨pp,cp,pk,ck,pr,cr,c0, -,c2,c3, -,hks,hrs⟩:=hnw.cells
  rw [HRL.out] at c3 hrs
  rw [u_,<-HN.out] at c2 hks
  obtain⟨HKS,HRS⟩:=h_2 hks hrs
  clear hks hrs hnw
  by_cases hlt:i < N
  ·have z1:(i:Int) < (N:Int):=by omega
   have hit:i < t.length:=by rw [<-HN.out];exact hlt
   have hir:i < rs.length:=by rw [HRL.out];exact hlt
   by_cases hms:outs.length+s.length < m
   ·have z2:(outs.length:Int)+(s.length:Int) < (m:Int):=by omega
    obtain⟨g,o,rfl⟩: ∃g o,pr=some ⟨g,o,none⟩:=by
     rcases HRS.out with ⟨h,_⟩ | ⟨g,o,c,_,h,_⟩
     ·simp only [Value.slice.injEq] at h;omega
     ·simp only [Value.slice.injEq] at h;exact⟨g,_,h.1⟩
    have hmc:=aP_ HRS.out.rd i hir
    have hx:rs.getD i R0=rs[i]:=by simp [List.getD,hir]
    rw [hx] at hmc
    obtain⟨m1,m2,m3,m4,m5⟩:=hmc
    simp only [ptV] at m5
    have HKID:Hid (KidR (NodeRI (fun k=> (Av k\/w.heap.size<=k)/\k < W1.heap.size/\k∉blkL (.slice po outs.length co)) wr n) rs[i] t[i].2):=hi_ ((HKIDS.out.2 i _ _ (List.getElem?_eq_getElem hir) (List.getElem?_eq_getElem hit)).mono (fun bb hb=> NodeRI.tf HW1.out.sy HC.out.tf (HAV.out W1 _ (Near.refl _ _)) n bb _ hb))
    have HTM:Hid (s++(selR fr up (prs n t[i].2.2)).take (m - (outs++s).length)=(selR fr up (prsP (t.take (i+1)))).take (m - outs.length)):=hi_ (by
     rw [eY_ t i hit,aE_,<-take_more,<-HS.out,List.length_append]
     congr 2
     omega)
    have HBD:Hid ((outs++s).length+(prs n t[i].2.2).length<=1000000):=hi_ (by
     have h1:=fZ_ t i hit
     have h2:=HSP.out
     have h3:=HBD0.out
     rw [List.length_append]
     omega)
    clear hx
    by_cases h0i:i=0
    ·have z3:((i:Int)==0)=true:=by rw [h0i];rfl
     clear h0i
     go_wp2_with fail
     have hcall:=ih (fun k=> (Av k\/w.heap.size<=k)/\k < W1.heap.size/\k∉blkL (.slice po outs.length co)) y v' L rs[i] t[i].2 fr (up) m (.slice pb (outs.length+s.length) cb) (outs++s) wr ⟨HC.out.sy,HC.out.dsk,HKID.out,(HDT.out t[i] (List.getElem_mem hit)).1,(HDT.out t[i] (List.getElem_mem hit)).2,(HG.out.2 t[i] (List.getElem_mem hit)).2.2,HWF.out.2.2 t[i] (List.getElem_mem hit),HNE.out.2 t[i] (List.getElem_mem hit),HC.out.ow,HAV.out wr _ HC.out.near,fun k hk=> Nat.lt_of_lt_of_le hk.2.1 HC.out.tf.size,HBD.out⟩ hm
     simp only [refV,ptV] at hcall
     refine hcall.mono ?_
     clear hcall
     rintro e W9 ⟨ov9,v9,rfl,how9,hs9,hsm9,hd9,htf9,hn9⟩
     rw [List.append_assoc,HTM.out] at how9
     obtain⟨p9,c9,hv9,_⟩:=how9.rd.len_eq
     simp only [List.length_append,List.length_take] at hv9
     subst hv9
     have hc9:=HC.out.step (⟨how9,hs9,hsm9,hd9,htf9,hn9⟩:ColS y v' v9 L _ _ _ wr W9)
     have HC9:=hi_ hc9
     clear how9 hs9 hsm9 hd9 htf9 hn9 hc9 m1 m2 m3 m4 m5 c0 c2 c3
     go_wp2_with fail
     go_roundw
     case rel=> exact⟨i+1,v9,by omega,by omega,by go_num,HC9⟩
     case measure=> simp [intOf];omega
    ·have z3:((i:Int)==0)=false:=beq_eq_false_iff_ne.2 (by omega)
     by_cases hu:up= []
     ·subst hu
      clear h0i
      go_wp2_with fail
      have hcall:=ih (fun k=> (Av k\/w.heap.size<=k)/\k < W1.heap.size/\k∉blkL (.slice po outs.length co)) y v' L rs[i] t[i].2 fr ([]) m (.slice pb (outs.length+s.length) cb) (outs++s) wr ⟨HC.out.sy,HC.out.dsk,HKID.out,(HDT.out t[i] (List.getElem_mem hit)).1,(HDT.out t[i] (List.getElem_mem hit)).2,(HG.out.2 t[i] (List.getElem_mem hit)).2.2,HWF.out.2.2 t[i] (List.getElem_mem hit),HNE.out.2 t[i] (List.getElem_mem hit),HC.out.ow,HAV.out wr _ HC.out.near,fun k hk=> Nat.lt_of_lt_of_le hk.2.1 HC.out.tf.size,HBD.out⟩ hm
      simp only [refV,ptV] at hcall
      refine hcall.mono ?_
      clear hcall
      rintro e W9 ⟨ov9,v9,rfl,how9,hs9,hsm9,hd9,htf9,hn9⟩
      rw [List.append_assoc,HTM.out] at how9
      obtain⟨p9,c9,hv9,_⟩:=how9.rd.len_eq
      simp only [List.length_append,List.length_take] at hv9
      subst hv9
      have hc9:=HC.out.step (⟨how9,hs9,hsm9,hd9,htf9,hn9⟩:ColS y v' v9 L _ _ _ wr W9)
      have HC9:=hi_ hc9
      clear how9 hs9 hsm9 hd9 htf9 hn9 hc9 m1 m2 m3 m4 m5 c0 c2 c3
      go_wp2_with fail
      go_roundw
      case rel=> exact⟨i+1,v9,by omega,by omega,by go_num,HC9⟩
      case measure=> simp [intOf];omega
     ·have hub:(up== [])=false:=beq_eq_false_iff_ne.2 hu
      have hkl:i - 1 < (q_ t).length:=by rw [u_,<-HN.out];omega
      obtain⟨gk,ok,rfl⟩: ∃g o,pk=some ⟨g,o,none⟩:=by
       rcases HKS.out with ⟨h,_⟩ | ⟨g,o,c,_,h,_⟩
       ·simp only [Value.slice.injEq] at h;omega
       ·simp only [Value.slice.injEq] at h;exact⟨g,_,h.1⟩
      have mk:=bD_ HKS.out.rd (i - 1) hkl
      have hkx:(q_ t).getD (i - 1) []=t[i].1:=by
       have h1:=bK_ t (i - 1) (by omega)
       have e:t[i - 1+1]'(by omega)=t[i]:=by congr 1;omega
       rw [e] at h1
       simp [List.getD,h1]
      rw [hkx] at mk
      have z4:IntKind.i64.wrap ((i:Int) - 1)=(i:Int) - 1:=IntWalk.i64_in _ (by omega)
      have z5:((i:Int) - 1).toNat=i - 1:=by omega
      have z6:(0:Int)<=(i:Int) - 1:=by omega
      have z7:(i:Int) - 1 < ((N - 1:Nat):Int):=by omega
      have hbeh:=ix_ (a:=fr) HWF.out.2.1 HWF.out.1 (by omega:0 < i) hu (List.getElem?_eq_getElem hit)
      obtain⟨x,hxx⟩: ∃x,x=t[i].1:=⟨_,rfl⟩
      rw [<-hxx] at mk hbeh
      have HBEH:=hi_ hbeh
      clear hkx hxx hbeh hkl h0i
      by_cases hk:x < up
      ·have hbl:Op.bytesLess x up=true:=by rw [ay_];simpa using hk
       clear hu hk
       go_wp2_with fail
       have hcall:=ih (fun k=> (Av k\/w.heap.size<=k)/\k < W1.heap.size/\k∉blkL (.slice po outs.length co)) y v' L rs[i] t[i].2 fr (up) m (.slice pb (outs.length+s.length) cb) (outs++s) wr ⟨HC.out.sy,HC.out.dsk,HKID.out,(HDT.out t[i] (List.getElem_mem hit)).1,(HDT.out t[i] (List.getElem_mem hit)).2,(HG.out.2 t[i] (List.getElem_mem hit)).2.2,HWF.out.2.2 t[i] (List.getElem_mem hit),HNE.out.2 t[i] (List.getElem_mem hit),HC.out.ow,HAV.out wr _ HC.out.near,fun k hk=> Nat.lt_of_lt_of_le hk.2.1 HC.out.tf.size,HBD.out⟩ hm
       simp only [refV,ptV] at hcall
       refine hcall.mono ?_
       clear hcall
       rintro e W9 ⟨ov9,v9,rfl,how9,hs9,hsm9,hd9,htf9,hn9⟩
       rw [List.append_assoc,HTM.out] at how9
       obtain⟨p9,c9,hv9,_⟩:=how9.rd.len_eq
       simp only [List.length_append,List.length_take] at hv9
       subst hv9
       have hc9:=HC.out.step (⟨how9,hs9,hsm9,hd9,htf9,hn9⟩:ColS y v' v9 L _ _ _ wr W9)
       have HC9:=hi_ hc9
       clear how9 hs9 hsm9 hd9 htf9 hn9 hc9 m1 m2 m3 m4 m5 c0 c2 c3
       go_wp2_with fail
       go_roundw
       case rel=> exact⟨i+1,v9,by omega,by omega,by go_num,HC9⟩
       case measure=> simp [intOf];omega
      ·have hbl:Op.bytesLess x up=false:=by rw [ay_];simpa using hk
       have hfull:(selR fr up (prsP t)).take (m - outs.length)=s:=by
        rw [fY_ t i,aE_,HBEH.out hk,List.append_nil]
        exact HS.out.symm
       clear hu hk
       have fin:=(HW.out.step HC.out).post
       rw [<-hfull] at fin
       have hsl2:((selR fr up (prsP t)).take (m - outs.length)).length=s.length:=by rw [hfull]
       rw [hsl2,HTR.out] at fin
       have FIN:=hi_ fin
       clear hfull fin hsl2
       go_wp2_with fail
       go_ret2
       exact FIN.out
   ·have z2: ¬((outs.length:Int)+(s.length:Int) < (m:Int)):=by omega
    have hfull:(selR fr up (prsP t)).take (m - outs.length)=s:=by
     have h1:=HSR.out
     rw [fY_ t i,aE_,List.take_append_of_le_length]
     ·exact HS.out.symm
     ·have h2:s.length=m - outs.length:=by omega
      rw [HS.out,List.length_take] at h2
      omega
    have fin:=(HW.out.step HC.out).post
    rw [<-hfull] at fin
    have hsl2:((selR fr up (prsP t)).take (m - outs.length)).length=s.length:=by rw [hfull]
    rw [hsl2,HTR.out] at fin
    have FIN:=hi_ fin
    clear hfull fin hsl2
    go_wp2_with fail
    go_ret2
    exact FIN.out
  ·have z1: ¬((i:Int) < (N:Int)):=by omega
   have hfull:(selR fr up (prsP t)).take (m - outs.length)=s:=by
    rw [HS.out,List.take_of_length_le (l:=t) (by rw [<-HN.out];omega)]
   have fin:=(HW.out.step HC.out).post
   rw [<-hfull] at fin
   have hsl2:((selR fr up (prsP t)).take (m - outs.length)).length=s.length:=by rw [hfull]
   rw [hsl2,HTR.out] at fin
   have FIN:=hi_ fin
   clear hfull fin hsl2
   go_wp2_with fail
   go_ret2
   exact FIN.out
theorem gv_: ∀n,ColLaw n
 | 0=> fun Av y v L yv r fr up m ov outs w h hm=> iW_ Av y v L yv r fr up m ov outs w h hm
 | n+1=> iV_ (gv_ n)
structure TS where
 root:Root
 gone:List Ptr4
 dirty:Bool
def m_:Root->List Pr
 | none=> []
 | some ⟨n,r⟩=> prs n r.2
def RootR (w:World) (yv:Rfm):Root->Prop
 | none=> yv=(P0,none)
 | some ⟨n,r⟩=> KidR (NodeR w n) yv r
structure GoodRf (L:List Blk) (n:Nat) (r:Rf n):Prop where
 dk:DskK L n r
 dt:DskT L n r.2
 good:GoodT n r.2
 wf:WfT n r.2
 ne:NeT n r.2
def GoodRt (L:List Blk):Root->Prop
 | none=> True
 | some ⟨n,r⟩=> GoodRf L n r
def bj_ (y:Sy) (yv:Rfm) (gv:Value) (d:Bool):Array Value:=
 #[.pointer (some ⟨y.b,0,none⟩),.int .i64 yv.1.1,.int .i64 yv.1.2.1,.int .i64 yv.1.2.2.1,.string ⟨yv.1.2.2.2.toArray⟩,ptV yv.2,gv,.bool d]
structure TreeR (w:World) (y:Sy) (tb:Nat) (yv:Rfm) (gv:Value) (s:TS):Prop where
 blk:w.heap[tb]? =some (.cells (bj_ y yv gv s.dirty) 91 (0,0))
 root:RootR w yv s.root
 gone:EP.Ow 34 w gv s.gone
theorem RootR.ext (h:RootR w yv r) (he:Ext S w w') (hS: ∀k∈S,∀T∈aJ_,p_ w k≠some T):RootR w' yv r:=by
 cases r with
 | none=> exact h
 | some x=> exact KidR.mono h (fun b hn=> NodeR.ext he hS _ b _ hn)
theorem TreeR.ext {s:TS} (h:TreeR w y tb yv gv s) (he:Ext S w w') (hS: ∀k∈S,∀T∈(91::34::aJ_),p_ w k≠some T):TreeR w' y tb yv gv s:=
 ⟨he.blk h.blk (fun hm=> hS tb hm _ (by simp) (d_ h.blk)),h.root.ext he (fun k hk T hT=> hS k hk T (List.mem_cons_of_mem _ (List.mem_cons_of_mem _ hT))),h.gone.ext he (fun g hg hm=> hS g hm _ (by simp) (h.gone.tagOf g hg))⟩
theorem TreeR.ext0 {s:TS} (h:TreeR w y tb yv gv s) (he:Ext [] w w'):TreeR w' y tb yv gv s:=h.ext he (by simp)
theorem SyF.tags (hy:SyR w y v) (h:SyF y w w'): ∃S,Ext S w w'/\ ∀k∈S,∀T,T∉ [117,143,168,339,175]->p_ w k≠some T:=by
 obtain⟨S,h1,h2⟩:=h
 refine⟨S,h1,fun k hk T hT e=> ?_⟩
 simp only [List.mem_cons,List.not_mem_nil,or_false,not_or] at hT
 rcases h2 k hk with h | ⟨T',h3,h4,_⟩
 ·simp only [List.mem_cons,List.not_mem_nil,or_false] at h
  rcases h with rfl | rfl | rfl
  ·rw [hy.st.tag] at e;cases e;exact hT.1 rfl
  ·rw [hy.rk.tag.1] at e;cases e;exact hT.2.1 rfl
  ·rw [hy.sp.tag] at e;cases e;exact hT.2.2.1 rfl
 ·rw [h4] at e
  cases e
  simp only [List.mem_cons,List.not_mem_nil,or_false] at h3
  rcases h3 with rfl | rfl
  ·exact hT.2.2.2.1 rfl
  ·exact hT.2.2.2.2 rfl
theorem TreeR.syf {y y':Sy} {s:TS} (h:TreeR w y tb yv gv s) (hy:SyR w y' v) (hf:SyF y' w w'):TreeR w' y tb yv gv s:=by
 obtain⟨S,h1,h2⟩:=hf.tags hy
 exact h.ext h1 (fun k hk T hT=> h2 k hk T (by revert T;decide))
theorem TreeR.cells {s:TS} (h:TreeR w y tb yv gv s):w.cell? ⟨tb,0,none⟩=some (.pointer (some ⟨y.b,0,none⟩))/\w.cell? ⟨tb,1,none⟩=some (.int .i64 yv.1.1)/\w.cell? ⟨tb,2,none⟩=some (.int .i64 yv.1.2.1)/\w.cell? ⟨tb,3,none⟩=some (.int .i64 yv.1.2.2.1)/\
  w.cell? ⟨tb,4,none⟩=some (.string ⟨yv.1.2.2.2.toArray⟩)/\w.cell? ⟨tb,5,none⟩=some (ptV yv.2)/\w.cell? ⟨tb,6,none⟩=some gv/\w.cell? ⟨tb,7,none⟩=some (.bool s.dirty):=by
 refine⟨?_, ?_, ?_, ?_, ?_, ?_, ?_, ?_⟩ <;> (rw [cell_of_row w tb _ _ _ _ h.blk];rfl)
theorem de_ (w w0:World) (yv:Rfm) (r:Root) (L:List Blk) (h:RootR w0 yv r) (hg:GoodRt L r) (hL: ∀x∈L,1<=x.2.length):Calls Tryz.prog 47 #[refV yv] w fun e w'=> e= .returned (.bool (decide (r=none)))/\Ext [] w w':=by
 cases r with
 | none=>
  obtain rfl:yv=(P0,none):=h
  simp only [refV,ptV,Option.map_none]
  go_enter Tryz.func47,Tryz.ntmps47
  go_wp2_with fail
  go_ret
  exact⟨rfl,(Ext.refl _ _).alloc _⟩
 | some x=>
  obtain⟨n,r⟩:=x
  have hk:KidR (NodeR w0 n) yv r:=h
  have hdf:decide ((some ⟨n,r⟩:Root)=none)=false:=by simp
  rw [hdf]
  unfold KidR at hk
  cases hr:r.1 with
  | none=>
   simp only [hr] at hk
   obtain⟨b,rfl, -⟩:=hk
   simp only [refV,ptV,Option.map_some]
   clear h hg hr hdf
   go_enter Tryz.func47,Tryz.ntmps47
   go_wp2_with fail
   go_ret
   exact⟨rfl,(Ext.refl _ _).alloc _⟩
  | some q=>
   simp only [hr] at hk
   subst hk
   obtain⟨hx,hpt, -⟩:=hg.dk q hr
   have h1:=hL _ hx
   have h2:q.2.1=_:=hpt.1
   have z1:((q.2.1:Int)==0)=false:=beq_eq_false_iff_ne.2 (by rw [h2];simp only at h1;omega)
   simp only [refV,ptV,Option.map_none]
   clear h hg hr hdf hx hpt h1 h2
   go_enter Tryz.func47,Tryz.ntmps47
   go_wp2_with fail
   go_ret
   exact⟨rfl,(Ext.refl _ _).alloc _⟩
def RngPost (y:Sy) (v:Sv) (L:List Blk) (zs:List Pr) (w:World) (e:Ending) (w':World):Prop:=
 ∃u v',e= .returned (.tuple #[u,.int .i64 0])/\EPr.Ow 36 w' u zs/\(∀g∈blkL u,w.heap.size<=g)/\SyR w' y v'/\SameV v v'/\Dsk y v' L/\SyF y w w'
theorem trrange_c (y:Sy) (v:Sv) (L:List Blk) (tb:Nat) (yv:Rfm) (gv:Value) (s:TS) (fr up:Ky) (m:Nat) (w:World) (h:SyR w y v) (hd:Dsk y v L) (ht:TreeR w y tb yv gv s) (hg:GoodRt L s.root) (hm:(m:Int)<=9223372036854775807) (hb:(m_ s.root).length<=1000000):
  Calls Tryz.prog 16 #[.pointer (some ⟨tb,0,none⟩),.string ⟨fr.toArray⟩,.string ⟨up.toArray⟩,.int .i64 m] w (RngPost y v L ((selR fr up (m_ s.root)).take m) w):=by
 obtain⟨Z,hZ⟩: ∃Z,Z=(selR fr up (m_ s.root)).take m:=⟨_,rfl⟩
 rw [<-hZ]
 have HZ:=hi_ hZ
 clear hZ
 obtain⟨c0,c1,c2,c3,c4,c5, -, -⟩:=ht.cells
 simp only [ptV] at c5
 have hnone:=fun W=> de_ W w yv s.root L ht.root hg (fun x hx=> (hd.std x hx).1)
 obtain⟨HN,HS,HD,HT,HG⟩:=h_5 hnone h hd ht hg
 have z1: ¬((m:Int) < 0):=by omega
 have htl:tb < w.heap.size:=g_ ht.blk
 clear h hd ht hg hnone
 simp only [refV,ptV] at HN
 obtain⟨q,hq⟩: ∃q,q=Option.map (fun b=> (⟨b,0,none⟩:Addr)) yv.2:=⟨_,rfl⟩
 rw [<-hq] at HN c5
 have HQ:=hi_ hq
 clear hq
 go_enter Tryz.func16,Tryz.ntmps16
 go_wp2_with fail
 refine(HN.out _).mono ?_
 rintro e W1 ⟨rfl,hE1⟩
 cases hr:s.root with
 | none=>
  simp only [decide_true]
  have hz:Z= []:=by rw [HZ.out,hr];simp [m_,selR]
  have HZZ:=hi_ hz
  clear hz
  have HS1:=hi_ (HS.out.ext0 hE1)
  clear hr c0 c1 c2 c3 c4 c5
  go_wp2_with fail
  go_ret2
  exact⟨_,v,rfl,.inl ⟨rfl,HZZ.out⟩,by simp [blkL],HS1.out,SameV.refl v,HD.out,SyF.of0 hE1⟩
 | some x=>
  obtain⟨n,r⟩:=x
  have hdf:decide ((some ⟨n,r⟩:Root)=none)=false:=by simp
  rw [hdf]
  have hz:Z=(selR fr up (prs n r.2)).take m:=by rw [HZ.out,hr];rfl
  have HZZ:=hi_ hz
  have hs1:=HS.out.ext0 hE1
  have hkid:KidR (NodeR W1 n) yv r:=by
   have h:=(HT.out.ext0 hE1).root
   rw [hr] at h
   exact h
  have hgr:GoodRf L n r:=by
   have h:=HG.out
   rw [hr] at h
   exact h
  have hbd:(prs n r.2).length<=1000000:=by
   rw [hr] at hb
   exact hb
  have k0:=hE1.cell c0 (by simp)
  have k1:=hE1.cell c1 (by simp)
  have k2:=hE1.cell c2 (by simp)
  have k3:=hE1.cell c3 (by simp)
  have k4:=hE1.cell c4 (by simp)
  have k5:=hE1.cell c5 (by simp)
  obtain⟨HS1,HK,HGR,HBD,HE1⟩:=h_5 hs1 hkid hgr hbd hE1
  clear hr hz hs1 hkid hgr hbd hE1 c0 c1 c2 c3 c4 c5 hdf HN hb
  go_wp2_with fail
  have hD:=(Ext.refl [] W1).drew
  refine f_ (fun W=> W.cell? ⟨tb,0,none⟩=some (.pointer (some ⟨y.b,0,none⟩))/\W.cell? ⟨tb,1,none⟩=some (.int .i64 yv.1.1)/\W.cell? ⟨tb,2,none⟩=some (.int .i64 yv.1.2.1)/\W.cell? ⟨tb,3,none⟩=some (.int .i64 yv.1.2.2.1)/\W.cell? ⟨tb,4,none⟩=some (.string ⟨yv.1.2.2.2.toArray⟩)/\W.cell? ⟨tb,5,none⟩=some (.pointer q)) (fun i=> i==3 || i==7) (by kernel_rfl) ⟨hD.cell k0 (by simp),hD.cell k1 (by simp),hD.cell k2 (by simp),hD.cell k3 (by simp),hD.cell k4 (by simp),hD.cell k5 (by simp)⟩ (fun hS=> ?_)
  refine PUq 0 ?_;(try go_frame)
  refine PUq 1 ?_;(try go_frame)
  refine PUq 2 ?_;(try go_frame)
  refine PUq 4 ?_;(try go_frame)
  refine PUq 5 ?_;(try go_frame)
  refine PUq 6 ?_;(try go_frame)
  refine PUq 8 ?_;(try go_frame)
  refine PUq 9 ?_;(try go_frame)
  refine PUq 10 ?_;(try go_frame)
  simp only [zA,zB,zC,zD,zE]
  refine ta 3 ?_;(try go_frame)
  refine ta 7 ?_;(try go_frame)
  refine a_ (i:=11) (by kernel_rfl) rfl (fun K hK=> ?_)
  (try simp only [Act.put,zA,zB,zC,List.setIfInBounds_toArray,zD,zE]);refine iw rfl ?_
  go_simp
  have hcall:=gv_ n (fun k=> k < W1.heap.size) y v L yv r fr up m (.slice none 0 0) [] W1.drew ⟨HS1.out.ext0 hD,HD.out,(HK.out.mono (fun b hn=> NodeRI.ext hD (by simp) _ _ _ (NodeR.toI _ _ _ hn))),HGR.out.dk,HGR.out.dt,HGR.out.good,HGR.out.wf,HGR.out.ne,.inl ⟨rfl,rfl⟩,by simp [blkL],fun k hk=> hk,by simpa using HBD.out⟩ hm
  simp only [refV,ptV,<-HQ.out,List.nil_append,List.length_nil,Nat.sub_zero] at hcall
  refine hcall.mono ?_
  clear hcall
  rintro e W2 ⟨u,v2,rfl,how,hs2,hsm,hd2,htf,hnr⟩
  have hF:SyF y W1.drew W2:=htf
  have HF:=hi_ ((SyF.of0 (HE1.out.trans hD):SyF y w _).trans hF)
  have hfu: ∀g∈blkL u,w.heap.size<=g:=fun g hg=> by
   rcases hnr g hg with h | h
   ·simp [blkL] at h
   ·exact Nat.le_trans (HE1.out.trans hD).size h
  obtain⟨HFU,HOW,HS2⟩:=h_3 hfu how hs2
  refine nk hK ?_
  clear hK hS hnr htf hF hfu how hs2
  refine PUq 12 ?_;(try go_frame)
  simp only [zA,zB,zC,zD,zE]
  refine PUq 13 ?_;(try go_frame)
  simp only [zA,zB,zC,zD,zE]
  refine PUq 14 ?_;(try go_frame)
  simp only [zA,zB,zC,zD,zE]
  refine PUq 15 ?_;(try go_frame)
  simp only [zA,zB,zC,zD,zE]
  refine c_ (by kernel_rfl) ?_ _
  go_wp2
  go_ret2
  exact⟨u,v2,rfl,by rw [HZZ.out];exact HOW.out,HFU.out,HS2.out,hsm,hd2,HF.out⟩
end Go.Proofs.YtkpgjkekmdecbaaGreat
