/- Lemmas for the claim. No conditions beside those that each states. -/
import Derived.Test.YtkpgjkekmdecbaaGreatOrdAN
set_option maxRecDepth 100000
set_option maxHeartbeats 8000000
set_option linter.all false

namespace Go.Proofs.YtkpgjkekmdecbaaGreat
open Go.RowKit
variable {w w':World} {T:TypeId} {n b:Nat} {S:List Nat} {leaf:Bool} {ps:List Pr} {ks:List Ky} {rs:List Rfm}
def dD_ {n:Nat} (t:List (Pc n)):List Itm:=t.flatMap (fun k=> [Itm.txt k.1,Itm.txt (kidB k)])
def pre1 {n:Nat} (t:List (Pc n)) (i:Nat):List Itm:= .num 2::(dD_ (t.take i)).drop 1++(if 0 < i/\i < t.length then [Itm.txt (y_ t i)] else [])
theorem iz_ (t:List (Pc n)) (i:Nat) (hi:i < t.length):dD_ (t.take (i+1))=dD_ (t.take i)++ [Itm.txt t[i].1,Itm.txt (kidB t[i])]:=by
 rw [List.take_succ_eq_append_getElem hi,dD_,List.flatMap_append]
 rfl
theorem flat1_ne (t:List (Pc n)) (i:Nat) (hi:0 < i) (ht:0 < t.length):1<=(dD_ (t.take i)).length:=by
 have:=aw_ (fun k:Pc n=> Itm.txt k.1) (fun k=> Itm.txt (kidB k)) (t.take i)
 rw [List.length_take] at this
 unfold dD_
 omega
theorem pre1_zero (t:List (Pc n)):pre1 t 0= [.num 2]:=by simp [pre1,dD_]
theorem fQ_ (t:List (Pc n)) (i:Nat) (hi:i < t.length):pre1 t i++ [Itm.txt (kidB t[i])]= .num 2::(dD_ (t.take (i+1))).drop 1:=by
 rw [iz_ t i hi,pre1]
 by_cases h0:0 < i
 ·have h1:=flat1_ne t i h0 (by omega)
  rw [if_pos ⟨h0,hi⟩,List.drop_append_of_le_length h1]
  have:y_ t i=t[i].1:=by simp [y_,hi]
  rw [this]
  simp
 ·obtain rfl:i=0:=by omega
  simp [dD_]
theorem fS_ (t:List (Pc n)) (i:Nat) (hi:i < t.length) (hl: ¬i+1 < t.length):pre1 t i++ [Itm.txt (kidB t[i])]=pre1 t (i+1):=by
 rw [fQ_ t i hi,pre1,if_neg (by omega),List.append_nil]
theorem fR_ (t:List (Pc n)) (i:Nat) (hl:i+1 < t.length):pre1 t i++ [Itm.txt (kidB t[i])]++ [Itm.txt (y_ t (i+1))]=pre1 t (i+1):=by
 rw [fQ_ t i (by omega),pre1,if_pos ⟨by omega,hl⟩]
theorem pre1_all (t:List (Pc n)):pre1 t t.length=G_ t:=by
 rw [pre1,if_neg (by omega),List.append_nil,List.take_length]
 rfl
theorem eO_ (t:List (Pc n)) (i:Nat) (hl:t.length<=900):(pre1 t i).length<=1802:=by
 have h1:=aw_ (fun k:Pc n=> Itm.txt k.1) (fun k=> Itm.txt (kidB k)) (t.take i)
 rw [List.length_take] at h1
 have h2:(dD_ (t.take i)).length<=1800:=by unfold dD_;omega
 have h3:(if 0 < i/\i < t.length then [Itm.txt (y_ t i)] else []).length<=1:=by split <;> simp
 rw [pre1,List.length_append,List.length_cons,List.length_drop]
 omega
theorem t_ (t:List (Pc n)):(o_ t).length=t.length - 1:=by simp [o_]
theorem bl_ (t:List (Pc n)) (i:Nat) (h:i+1 < t.length):(o_ t).getD i []=y_ t (i+1):=by
 have e:(o_ t)[i]? =some t[i+1].1:=by
  rw [o_,List.getElem?_map,List.getElem?_drop,Nat.add_comm 1 i,List.getElem?_eq_getElem h]
  rfl
 rw [List.getD_eq_getElem?_getD,e]
 simp [y_,h]
theorem am_ {o:Obj} (hn:n=w.heap.size):(w.alloc o).heap[n]? =some o:=by subst hn;exact heap_alloc_new _ _
theorem in_ (Z:List UInt8) (w:World) (hZ:Z=List.replicate 32 0):Calls Tryz.prog 139 #[.agg #[.int .i64 40000,.int .i64 1024,.int .i64 1125899906842624,.string ⟨Z.toArray⟩]] w fun e w'=> e= .returned (.tuple #[.string ⟨(ptrB ca_).toArray⟩,.int .i64 0])/\Ext [] w w':=by
 subst hZ
 exact gI_ ca_ w eg_
theorem KidR.cases {N:Nat->List (El n)->Prop} {y:Rfm} {k:Pc n} (h:KidR N y k.2):(∃q,k.2.1=some q/\y=(q,none)/\kidB k=ptrB q)\/(k.2.1=none/\(∃b,y=(P0,some b))/\kidB k=ptrB ca_):=by
 unfold KidR at h
 split at h
 ·rename_i q hq
  exact .inl ⟨q,hq,h,by rw [kidB,hq];rfl⟩
 ·rename_i hq
  obtain⟨b,h1,_⟩:=h
  exact .inr ⟨hq,⟨b,h1⟩,by rw [kidB,hq];rfl⟩
theorem id_ (N:Nat->List (El n)->Prop) (b:Nat) (t:List (Pc n)) (rs:List Rfm) (w:World) (h:NodeB w b false [] (o_ t) rs) (hk:KidsR N rs t) (hl:t.length<=900) (hg: ∀k∈t,∀q,k.2.1=some q->GoodPt q):
  Calls Tryz.prog 103 #[.pointer (some ⟨b,0,none⟩)] w (gY_ (G_ t) w):=by
 have hrl:=hk.1
 have hbw:=h.lt
 obtain⟨pp,cp,pk,ck,pr,cr,c0, -,c2,c3, -,hks,hrs, -⟩:=h.cells
 obtain⟨HK,HR,HKR,HG⟩:=h_4 hks hrs hk hg
 rw [t_] at HK c2
 obtain⟨m,hm⟩: ∃m,m=t.length:=⟨_,rfl⟩
 rw [<-hm] at hl HK c2
 rw [hrl,<-hm] at HR c3
 have HM:=hi_ hm
 clear h hks hrs hk hg hm hrl
 go_enter Tryz.func103,Tryz.ntmps103
 go_wp2_with fail
 refine(dX_ 2 _).mono ?_
 rintro e W1 ⟨rfl,hE1⟩
 have c3':=(hE1.alloc (.cells #[.int .i64 1,.int .i64 2,.string ⟨#[]⟩] 215)).cell c3 (by simp)
 have hs1:=hE1.size
 have HI:Hid (EIt.Ow 215 (W1.alloc (.cells #[.int .i64 1,.int .i64 2,.string ⟨#[]⟩] 215)) (.slice (some ⟨W1.heap.size,0,none⟩) 1 1) [(1,2,[])]):=hi_ (.inr ⟨W1.heap.size,0,1,[(1,2,[])],rfl,heap_alloc_new _ _,by simp,by simp,rfl⟩)
 have HE1:=hi_ (hE1.alloc (.cells #[.int .i64 1,.int .i64 2,.string ⟨#[]⟩] 215))
 go_wp2_with fail
 go_loopw [7,8,9,10,11,12,46] (fun lv _ _ _ _ _ iv wr=> ∃i:Nat,i<=m/\iv= .int .i64 i/\Hid (EIt.Ow 215 wr lv ((pre1 t i).map itmV))/\Hid (Ext [] w wr/\ ∀g∈blkL lv,w.heap.size<=g)) (fun _ _ _ _ _ _ iv _=> m - (intOf iv).toNat)
 case atStart=> exact⟨0,Nat.zero_le _,rfl,by rw [pre1_zero];exact HI,hi_ ⟨HE1.out,fun g hg=> by simp [blkL] at hg;omega⟩⟩
 case round=>
  obtain⟨i,hi,rfl,HL,HE⟩:=hrel
  obtain⟨pl,cl,hlv,_⟩:=HL.out.rd.len_eq
  subst hlv
  have hll:((pre1 t i).map itmV).length<=1802:=by rw [List.length_map];exact eO_ t i (by rw [<-HM.out];exact hl)
  obtain⟨B,hB⟩: ∃B,B=(pre1 t i).map itmV:=⟨_,rfl⟩
  have HBB:=hi_ hB
  rw [<-hB] at HL HE hll
  simp only [<-hB]
  clear hB
  by_cases hlt:i < m
  ·have z1:(i:Int) < (m:Int):=by omega
   have hil:i < t.length:=by rw [<-HM.out];exact hlt
   have hir:i < rs.length:=by rw [HKR.out.1,<-HM.out];exact hlt
   obtain⟨g,o,rfl⟩: ∃g o,pr=some ⟨g,o,none⟩:=by
    rcases HR.out with ⟨h,_⟩ | ⟨g,o,c,_,h,_⟩
    ·simp only [Value.slice.injEq] at h;omega
    ·simp only [Value.slice.injEq] at h;exact⟨g,_,h.1⟩
   have hm:=ba_ (HR.out.rd.ext0 HE.out.1) i hir
   have hkr:=(HKR.out.2 i _ _ (List.getElem?_eq_getElem hir) (List.getElem?_eq_getElem hil)).cases
   have hrg:rs.getD i R0=rs[i]:=by simp [List.getD,hir]
   rw [hrg] at hm
   have hg0:=HG.out t[i] (List.getElem_mem hil)
   have HC2:=hi_ (fun W (hE:Ext [] wr W)=> (HE.out.1.trans hE).cell c2 (by simp))
   clear hrg
   rcases hkr with ⟨q,hq,hy,hkb⟩ | ⟨hq,⟨bk,hy⟩,hkb⟩
   ·rw [hy] at hm
    obtain⟨m1,m2,m3,m4,m5⟩:=hm
    simp only [ptV,Option.map_none] at m1 m2 m3 m4 m5
    have hgq:=hg0 q hq
    obtain⟨HKB,HGQ⟩:=h_2 hkb hgq
    clear hy hkb hgq hg0 hq
    have hEa:Ext [] wr ((wr.alloc (.cells #[.int .i64 q.1,.int .i64 q.2.1,.int .i64 q.2.2.1,.string ⟨q.2.2.2.toArray⟩,.pointer none] 89)).alloc (.cells #[.int .i64 q.1,.int .i64 q.2.1,.int .i64 q.2.2.1,.string ⟨q.2.2.2.toArray⟩] 34)):=((Ext.refl [] wr).alloc _).alloc _
    go_wp2_with fail
    refine(gI_ q _ HGQ.out).mono ?_
    rintro e W4 ⟨rfl,hE4⟩
    have HE4:=hi_ (hEa.trans hE4)
    have HL4:=hi_ ((HL.out.ext0 hEa).ext0 hE4)
    have c2':=HC2.out _ (hEa.trans hE4)
    have HGl:=hi_ HE.out.2
    have HEw:=hi_ (HE.out.1.trans HE4.out)
    clear hE4 hEa m1 m2 m3 m4 m5 HL HE
    go_wp2_with fail
    refine(bJ_ _ _).mono ?_
    rintro e W5 ⟨rfl,hE5⟩
    go_wp2_with (with_reducible refine f_ (d:=71) ?_)
    refine k_ rfl fun K hK=> b_ (E:=EIt) (T:=215) (zero:=I0) (bytes:=32) (v:= .slice pl B.length cl) (xs:=B) (ys:= [(2,0,ptrB (q))]) tiIt Tryz.underlying191 Tryz.underlying191 rfl rfl rfl ((HL4.out.ext0 hE5).ext0 ((Ext.refl [] W5).alloc _)) (bO_ W5 (2,0,ptrB (q))) (by simp;omega) (by simp;omega) ?_
    intro v6 w6 how hext hnear _
    have eB:B++ [(2,(0:Int),ptrB (q))]=(pre1 t i++ [Itm.txt (kidB t[i])]).map itmV:=by rw [HBB.out,HKB.out,List.map_append];rfl
    rw [eB] at how
    obtain⟨p6,c6,hv6,_⟩:=how.rd.len_eq
    rw [List.length_map] at hv6
    subst hv6
    have hfresh:=C_ ((HEw.out.trans hE5).alloc (.cells #[.int .i64 2,.int .i64 0,.string ⟨(ptrB (q)).toArray⟩] 215)) HGl.out hext hnear
    have c26:=hext.cell (((hE5.alloc (.cells #[.int .i64 2,.int .i64 0,.string ⟨(ptrB (q)).toArray⟩] 215))).cell c2' (by simp)) (fun hm=> by have h1:=HGl.out _ hm;omega)
    obtain⟨HE6,HL6⟩:=h_2 hfresh how
    have hE56:Ext [] w w6:=hfresh.1
    clear how hext hnear hfresh eB hE5 c2' HL4 HEw HGl
    refine hK _ _ ?_
    clear hK
    by_cases hmore:i+1 < m
    ·have z2:(i:Int) < ((m - 1:Nat):Int):=by omega
     have hkl:i < (o_ t).length:=by rw [t_,<-HM.out];omega
     obtain⟨gk,ok,rfl⟩: ∃g o,pk=some ⟨g,o,none⟩:=by
      rcases HK.out with ⟨h,_⟩ | ⟨g,o,c,_,h,_⟩
      ·simp only [Value.slice.injEq] at h;omega
      ·simp only [Value.slice.injEq] at h;exact⟨g,_,h.1⟩
     have hkc:=bz_ (HK.out.rd.ext0 hE56) i hkl
     rw [bl_ t i (by rw [<-HM.out];exact hmore)] at hkc
     obtain⟨B6,hB6⟩: ∃B,B=pre1 t i++ [Itm.txt (kidB t[i])]:=⟨_,rfl⟩
     have hB6l:B6.length<=1803:=by rw [hB6,List.length_append];have:=eO_ t i (by rw [<-HM.out];exact hl);simp;omega
     have HB6:=hi_ hB6
     rw [<-hB6] at HL6 HE6
     simp only [<-hB6]
     clear hB6
     obtain⟨ky,hky⟩: ∃k,k=y_ t (i+1):=⟨_,rfl⟩
     rw [<-hky] at hkc
     have HKY:=hi_ hky
     clear hky
     go_wp2_with fail
     refine(bJ_ _ _).mono ?_
     rintro e W7 ⟨rfl,hE7⟩
     go_wp2_with (with_reducible refine f_ (d:=89) ?_)
     have hLL:=HL6.out.ext0 hE7
     refine k_ rfl fun K hK=> b_ (E:=EIt) (T:=215) (zero:=I0) (bytes:=32) (v:= .slice p6 B6.length c6) (xs:=B6.map itmV) (ys:= [(2,0,ky)]) tiIt Tryz.underlying191 Tryz.underlying191 rfl rfl rfl (hLL.ext0 ((Ext.refl [] W7).alloc _)) (bO_ W7 (2,0,ky)) (by simp;omega) (by simp;omega) ?_
     intro v8 w8 how hext hnear _
     have eB:B6.map itmV++ [(2,(0:Int),ky)]=(pre1 t (i+1)).map itmV:=by rw [<-fR_ t i (by rw [<-HM.out];exact hmore),<-HB6.out,<-HKY.out,List.map_append];rfl
     rw [eB] at how
     obtain⟨p8,c8,hv8,_⟩:=how.rd.len_eq
     rw [List.length_map] at hv8
     subst hv8
     have HE8:=hi_ (C_ ((HE6.out.1.trans hE7).alloc (.cells #[.int .i64 2,.int .i64 0,.string ⟨ky.toArray⟩] 215)) HE6.out.2 hext hnear)
     have HL8:=hi_ how
     clear how hext hnear eB hE7 hLL hkc c26 hE56
     refine hK _ _ ?_
     clear hK
     go_wp2_with fail
     go_roundw
     case rel=> exact⟨i+1,by omega,by go_num,HL8,HE8⟩
     case measure=> simp [intOf];omega
    ·have z2: ¬((i:Int) < ((m - 1:Nat):Int)):=by omega
     have eB:=fS_ t i hil (by rw [<-HM.out];exact hmore)
     rw [eB] at HL6 HE6
     simp only [eB]
     clear eB
     go_wp2_with fail
     go_roundw
     case rel=> exact⟨i+1,by omega,by go_num,HL6,HE6⟩
     case measure=> simp [intOf];omega
   ·rw [hy] at hm
    obtain⟨m1,m2,m3,m4,m5⟩:=hm
    simp only [ptV,Option.map_some] at m1 m2 m3 m4 m5
    have HKB:=hi_ hkb
    clear hy hkb hg0 hq
    have hmk: ∀W:World,(Instr.makeSlice 158 (.int .i64 32) (.int .i64 32)).run Tryz.prog W= .ok (.slice (some ⟨W.heap.size,0,none⟩) 32 32) (W.alloc (.cells (EB.flat (List.replicate 32 0)).toArray 5)):=fun W=> cD_ 32 32 (by omega) (by omega) W
    obtain⟨Z,hZ⟩: ∃Z,Z=List.replicate 32 (0:UInt8):=⟨_,rfl⟩
    rw [<-hZ] at hmk
    have HZ:=hi_ hZ
    clear hZ
    have hcv:=fa_ (w:=(((wr.alloc (.cells #[.int .i64 0,.int .i64 0,.int .i64 0,.string ⟨#[]⟩,.pointer (some ⟨bk,0,none⟩)] 89)).alloc (.cells #[.int .i64 0,.int .i64 0,.int .i64 0,.string ⟨#[]⟩] 34)).alloc (.cells (EB.flat Z).toArray 5))) (v:= .slice (some ⟨wr.heap.size+1+1,0,none⟩) 32 32) (s:=Z) (Enc.Ow.rd (T:=5) (.inr ⟨wr.heap.size+1+1,0,32,Z,by rw [HZ.out];rfl,am_ (by simp),by rw [HZ.out];simp,by rw [HZ.out];simp,by simp⟩))
    have hEa:Ext [] wr (((wr.alloc (.cells #[.int .i64 0,.int .i64 0,.int .i64 0,.string ⟨#[]⟩,.pointer (some ⟨bk,0,none⟩)] 89)).alloc (.cells #[.int .i64 40000,.int .i64 1024,.int .i64 1125899906842624,.string ⟨Z.toArray⟩] 34)).alloc (.cells (EB.flat Z).toArray 5)):=(((Ext.refl [] wr).alloc _).alloc _).alloc _
    go_wp2_with fail
    refine(in_ Z _ HZ.out).mono ?_
    rintro e W4 ⟨rfl,hE4⟩
    have HE4:=hi_ (hEa.trans hE4)
    have HL4:=hi_ ((HL.out.ext0 hEa).ext0 hE4)
    have c2':=HC2.out _ (hEa.trans hE4)
    have HGl:=hi_ HE.out.2
    have HEw:=hi_ (HE.out.1.trans HE4.out)
    clear hE4 hEa m1 m2 m3 m4 m5 HL HE
    go_wp2_with fail
    refine(bJ_ _ _).mono ?_
    rintro e W5 ⟨rfl,hE5⟩
    go_wp2_with (with_reducible refine f_ (d:=71) ?_)
    refine k_ rfl fun K hK=> b_ (E:=EIt) (T:=215) (zero:=I0) (bytes:=32) (v:= .slice pl B.length cl) (xs:=B) (ys:= [(2,0,ptrB (ca_))]) tiIt Tryz.underlying191 Tryz.underlying191 rfl rfl rfl ((HL4.out.ext0 hE5).ext0 ((Ext.refl [] W5).alloc _)) (bO_ W5 (2,0,ptrB (ca_))) (by simp;omega) (by simp;omega) ?_
    intro v6 w6 how hext hnear _
    have eB:B++ [(2,(0:Int),ptrB (ca_))]=(pre1 t i++ [Itm.txt (kidB t[i])]).map itmV:=by rw [HBB.out,HKB.out,List.map_append];rfl
    rw [eB] at how
    obtain⟨p6,c6,hv6,_⟩:=how.rd.len_eq
    rw [List.length_map] at hv6
    subst hv6
    have hfresh:=C_ ((HEw.out.trans hE5).alloc (.cells #[.int .i64 2,.int .i64 0,.string ⟨(ptrB (ca_)).toArray⟩] 215)) HGl.out hext hnear
    have c26:=hext.cell (((hE5.alloc (.cells #[.int .i64 2,.int .i64 0,.string ⟨(ptrB (ca_)).toArray⟩] 215))).cell c2' (by simp)) (fun hm=> by have h1:=HGl.out _ hm;omega)
    obtain⟨HE6,HL6⟩:=h_2 hfresh how
    have hE56:Ext [] w w6:=hfresh.1
    clear how hext hnear hfresh eB hE5 c2' HL4 HEw HGl
    refine hK _ _ ?_
    clear hK
    by_cases hmore:i+1 < m
    ·have z2:(i:Int) < ((m - 1:Nat):Int):=by omega
     have hkl:i < (o_ t).length:=by rw [t_,<-HM.out];omega
     obtain⟨gk,ok,rfl⟩: ∃g o,pk=some ⟨g,o,none⟩:=by
      rcases HK.out with ⟨h,_⟩ | ⟨g,o,c,_,h,_⟩
      ·simp only [Value.slice.injEq] at h;omega
      ·simp only [Value.slice.injEq] at h;exact⟨g,_,h.1⟩
     have hkc:=bz_ (HK.out.rd.ext0 hE56) i hkl
     rw [bl_ t i (by rw [<-HM.out];exact hmore)] at hkc
     obtain⟨B6,hB6⟩: ∃B,B=pre1 t i++ [Itm.txt (kidB t[i])]:=⟨_,rfl⟩
     have hB6l:B6.length<=1803:=by rw [hB6,List.length_append];have:=eO_ t i (by rw [<-HM.out];exact hl);simp;omega
     have HB6:=hi_ hB6
     rw [<-hB6] at HL6 HE6
     simp only [<-hB6]
     clear hB6
     obtain⟨ky,hky⟩: ∃k,k=y_ t (i+1):=⟨_,rfl⟩
     rw [<-hky] at hkc
     have HKY:=hi_ hky
     clear hky
     go_wp2_with fail
     refine(bJ_ _ _).mono ?_
     rintro e W7 ⟨rfl,hE7⟩
     go_wp2_with (with_reducible refine f_ (d:=89) ?_)
     have hLL:=HL6.out.ext0 hE7
     refine k_ rfl fun K hK=> b_ (E:=EIt) (T:=215) (zero:=I0) (bytes:=32) (v:= .slice p6 B6.length c6) (xs:=B6.map itmV) (ys:= [(2,0,ky)]) tiIt Tryz.underlying191 Tryz.underlying191 rfl rfl rfl (hLL.ext0 ((Ext.refl [] W7).alloc _)) (bO_ W7 (2,0,ky)) (by simp;omega) (by simp;omega) ?_
     intro v8 w8 how hext hnear _
     have eB:B6.map itmV++ [(2,(0:Int),ky)]=(pre1 t (i+1)).map itmV:=by rw [<-fR_ t i (by rw [<-HM.out];exact hmore),<-HB6.out,<-HKY.out,List.map_append];rfl
     rw [eB] at how
     obtain⟨p8,c8,hv8,_⟩:=how.rd.len_eq
     rw [List.length_map] at hv8
     subst hv8
     have HE8:=hi_ (C_ ((HE6.out.1.trans hE7).alloc (.cells #[.int .i64 2,.int .i64 0,.string ⟨ky.toArray⟩] 215)) HE6.out.2 hext hnear)
     have HL8:=hi_ how
     clear how hext hnear eB hE7 hLL hkc c26 hE56
     refine hK _ _ ?_
     clear hK
     go_wp2_with fail
     go_roundw
     case rel=> exact⟨i+1,by omega,by go_num,HL8,HE8⟩
     case measure=> simp [intOf];omega
    ·have z2: ¬((i:Int) < ((m - 1:Nat):Int)):=by omega
     have eB:=fS_ t i hil (by rw [<-HM.out];exact hmore)
     rw [eB] at HL6 HE6
     simp only [eB]
     clear eB
     go_wp2_with fail
     go_roundw
     case rel=> exact⟨i+1,by omega,by go_num,HL6,HE6⟩
     case measure=> simp [intOf];omega
  ·obtain rfl:i=m:=by omega
   have z1: ¬((i:Int) < (i:Int)):=by omega
   have e:B=(G_ t).map itmV:=by rw [HBB.out,HM.out,pre1_all]
   subst e
   try simp only [List.length_map] at HL HE
   go_wp2
   go_ret2
   exact⟨_,rfl,HL.out,HE.out⟩
theorem tritems_c (n b:Nat) (t:List (El n)) (w:World) (h:NodeR w n b t) (hg:GoodT n t):Calls Tryz.prog 103 #[.pointer (some ⟨b,0,none⟩)] w (gY_ (ai_ n t) w):=by
 cases n with
 | zero=> exact ie_ b t w h hg.1
 | succ n=>
  obtain⟨rs,h1,h2⟩:=h
  exact id_ (NodeR w n) b t rs w h1 h2 hg.1 (fun k hk=> (hg.2 k hk).2.1)
theorem fC_ (n b:Nat) (t:List (El n)) (w:World) (h:NodeR w n b t) (hg:GoodT n t):Calls Tryz.prog 80 #[.pointer (some ⟨b,0,none⟩)] w (NewB (bb_ n t) w):=by
 have HI:=hi_ (tritems_c n b t w h hg)
 have HG:=hi_ hg
 clear h hg
 go_enter Tryz.func80,Tryz.ntmps80
 go_wp2_with fail
 refine HI.out.mono ?_
 rintro e W1 ⟨u,rfl,how,hE1,hn1⟩
 obtain⟨p,c,rfl,_⟩:=how.rd.len_eq
 rw [List.length_map] at how hn1 ⊢
 have HO:=hi_ how
 clear how
 go_wp2_with fail
 have ho:=HO.out.rd
 refine(hJ_ _ (ai_ n t) _ ho HG.out.items).mono ?_
 rintro e W2 ⟨v,rfl,hov,hE2,hn2⟩
 go_wp2
 go_ret2
 exact⟨v,rfl,hov,hE1.trans hE2,fun g hg=> by have:=hn2 g hg;have:=hE1.size;omega⟩
theorem ex_ (n b:Nat) (t:List (El n)) (w:World) (h:NodeR w n b t) (hg:GoodT n t):Calls Tryz.prog 97 #[.pointer (some ⟨b,0,none⟩)] w fun e w'=> e= .returned (.bool (fitF n t))/\Ext [] w w':=by
 have HI:=hi_ (fC_ n b t w h hg)
 clear h hg
 go_enter Tryz.func97,Tryz.ntmps97
 go_wp2_with fail
 refine HI.out.mono ?_
 rintro e W1 ⟨u,rfl,how,hE1, -⟩
 obtain⟨p,c,rfl,_⟩:=how.rd.len_eq
 have hf:decide (((bb_ n t).length:Int)<=1024)=fitF n t:=by
  rw [fitF,szF,decide_eq_decide]
  omega
 have HF:=hi_ hf
 clear how hf
 go_wp2
 go_ret
 refine⟨?_,hE1⟩
 rw [<-HF.out]
 try rfl
theorem cY_ {g o n cap:Nat} {l:List Itm} (h:EIt.Rd w (.slice (some ⟨g,o,none⟩) n cap) (l.map itmV)) (i:Nat) (x:Itm) (hx:l[i]? =some x):
  w.cell? ⟨g,o+i*3,none⟩=some (.int .i64 (itmV x).1)/\w.cell? ⟨g,o+i*3+1,none⟩=some (.int .i64 (itmV x).2.1)/\w.cell? ⟨g,o+i*3+2,none⟩=some (.string ⟨(itmV x).2.2.toArray⟩):=by
 obtain⟨hl,he⟩:=List.getElem?_eq_some_iff.1 hx
 have h1:=aK_ h i (by simpa using hl)
 have e:(l.map itmV).getD i I0=itmV x:=by simp [List.getD,hx]
 rw [e] at h1
 exact h1
theorem one_rdPr (W0:World) (x:Pr):EPr.Rd (W0.alloc (.cells #[.string ⟨x.1.toArray⟩,.string ⟨x.2.toArray⟩] T)).drew (.slice (some ⟨W0.heap.size,0,none⟩) 1 1) [x]:=by
 refine .inr ⟨W0.heap.size,0,1,rfl,Nat.le_refl _,by simp,fun j u hj=> ?_⟩
 have h:(W0.alloc (.cells #[.string ⟨x.1.toArray⟩,.string ⟨x.2.toArray⟩] T)).drew.heap[W0.heap.size]? =_:=heap_alloc_new W0 (.cells #[.string ⟨x.1.toArray⟩,.string ⟨x.2.toArray⟩] T)
 rw [cell_of_row _ W0.heap.size _ _ _ _ h]
 match j,hj with
 | 0,hj=> exact hj
 | 1,hj=> exact hj
 | j+2,hj=> simp [EPr,Enc.flat] at hj
def NodeU (B:Nat) (w:World) (b:Nat) (leaf:Bool) (ps:List Pr) (ks:List Ky) (rs:List Rfm):Prop:=
 B<=b/\ ∃pv kv cv,w.heap[b]? =some (.cells #[.bool leaf,pv,kv,cv] 125 (0,0))/\EPr.Ow 36 w pv ps/\EKy.Ow 9 w kv ks/\ERf.Ow 89 w cv rs/\(∀g∈blkL pv,B<=g)/\(∀g∈blkL kv,B<=g)/\(∀g∈blkL cv,B<=g)
theorem NodeU.toI {B B':Nat} (h:NodeU B w b leaf ps ks rs) (hB:B'<=B):NodeI (fun k=> B'<=k) w b leaf ps ks rs:=by
 obtain⟨h0,pv,kv,cv,h1,h2,h3,h4,u1,u2,u3⟩:=h
 exact⟨Nat.le_trans hB h0,pv,kv,cv,h1,h2,h3,h4,fun g hg=> Nat.le_trans hB (u1 g hg),fun g hg=> Nat.le_trans hB (u2 g hg),fun g hg=> Nat.le_trans hB (u3 g hg)⟩
theorem NodeU.node {B:Nat} (h:NodeU B w b leaf ps ks rs):NodeB w b leaf ps ks rs:=by
 obtain⟨_,pv,kv,cv,h1,h2,h3,h4,_⟩:=h
 exact⟨pv,kv,cv,h1,h2,h3,h4⟩
theorem NodeU.setPairs {B:Nat} {pv kv cv v:Value} (hB:B<=b) (hb:w.heap[b]? =some (.cells #[.bool leaf,pv,kv,cv] 125 (0,0))) (h1:EPr.Ow 36 w v ps) (h2:EKy.Ow 9 w kv ks) (h3:ERf.Ow 89 w cv rs)
  (u1: ∀g∈blkL v,B<=g) (u2: ∀g∈blkL kv,B<=g) (u3: ∀g∈blkL cv,B<=g):NodeU B (w.setCell ⟨b,1,none⟩ v) b leaf ps ks rs:=by
 have hE:Ext [b] w (w.setCell ⟨b,1,none⟩ v):=(Ext.refl [b] w).setCell (.inl (by simp)) _
 exact⟨hB,v,kv,cv,heap_setCell_same _ _ 1 _ _ _ hb,h1.ext hE (by simpa using h1.ne hb (by decide)),h2.ext hE (by simpa using h2.ne hb (by decide)),h3.ext hE (by simpa using h3.ne hb (by decide)),u1,u2,u3⟩
theorem NodeU.setKeys {B:Nat} {pv kv cv v:Value} (hB:B<=b) (hb:w.heap[b]? =some (.cells #[.bool leaf,pv,kv,cv] 125 (0,0))) (h1:EPr.Ow 36 w pv ps) (h2:EKy.Ow 9 w v ks) (h3:ERf.Ow 89 w cv rs)
  (u1: ∀g∈blkL pv,B<=g) (u2: ∀g∈blkL v,B<=g) (u3: ∀g∈blkL cv,B<=g):NodeU B (w.setCell ⟨b,2,none⟩ v) b leaf ps ks rs:=by
 have hE:Ext [b] w (w.setCell ⟨b,2,none⟩ v):=(Ext.refl [b] w).setCell (.inl (by simp)) _
 exact⟨hB,pv,v,cv,heap_setCell_same _ _ 2 _ _ _ hb,h1.ext hE (by simpa using h1.ne hb (by decide)),h2.ext hE (by simpa using h2.ne hb (by decide)),h3.ext hE (by simpa using h3.ne hb (by decide)),u1,u2,u3⟩
theorem NodeU.setKids {B:Nat} {pv kv cv v:Value} (hB:B<=b) (hb:w.heap[b]? =some (.cells #[.bool leaf,pv,kv,cv] 125 (0,0))) (h1:EPr.Ow 36 w pv ps) (h2:EKy.Ow 9 w kv ks) (h3:ERf.Ow 89 w v rs)
  (u1: ∀g∈blkL pv,B<=g) (u2: ∀g∈blkL kv,B<=g) (u3: ∀g∈blkL v,B<=g):NodeU B (w.setCell ⟨b,3,none⟩ v) b leaf ps ks rs:=by
 have hE:Ext [b] w (w.setCell ⟨b,3,none⟩ v):=(Ext.refl [b] w).setCell (.inl (by simp)) _
 exact⟨hB,pv,kv,v,heap_setCell_same _ _ 3 _ _ _ hb,h1.ext hE (by simpa using h1.ne hb (by decide)),h2.ext hE (by simpa using h2.ne hb (by decide)),h3.ext hE (by simpa using h3.ne hb (by decide)),u1,u2,u3⟩
theorem NodeU.cells {B:Nat} (h:NodeU B w b leaf ps ks rs): ∃pp cp pk ck pr cr,w.cell? ⟨b,0,none⟩=some (.bool leaf)/\w.cell? ⟨b,1,none⟩=some (.slice pp ps.length cp)/\w.cell? ⟨b,2,none⟩=some (.slice pk ks.length ck)/\w.cell? ⟨b,3,none⟩=some (.slice pr rs.length cr)/\
  EPr.Ow 36 w (.slice pp ps.length cp) ps/\EKy.Ow 9 w (.slice pk ks.length ck) ks/\ERf.Ow 89 w (.slice pr rs.length cr) rs/\w.heap[b]? =some (.cells #[.bool leaf,.slice pp ps.length cp,.slice pk ks.length ck,.slice pr rs.length cr] 125 (0,0))/\
  (∀g∈blkL (.slice pp ps.length cp),B<=g)/\(∀g∈blkL (.slice pk ks.length ck),B<=g)/\(∀g∈blkL (.slice pr rs.length cr),B<=g):=by
 obtain⟨_,pv,kv,cv,h1,h2,h3,h4,u1,u2,u3⟩:=h
 obtain⟨pp,cp,rfl,_⟩:=h2.rd.len_eq
 obtain⟨pk,ck,rfl,_⟩:=h3.rd.len_eq
 obtain⟨pr,cr,rfl,_⟩:=h4.rd.len_eq
 refine⟨pp,cp,pk,ck,pr,cr, ?_, ?_, ?_, ?_,h2,h3,h4,h1,u1,u2,u3⟩ <;> (rw [cell_of_row w b _ _ _ _ h1];rfl)
theorem bY_ {B:Nat} {a b:World} {v v':Value} (k:Ext (blkL v) a b) (n:Near a v v') (hB:B<=a.heap.size) (hv: ∀g∈blkL v,B<=g) (w:World) (hw:w.heap.size=B) (h:Ext S w a) (hS: ∀g∈S,B<=g):Ext [] w b/\ ∀g∈blkL v',B<=g:=
 ⟨h.trans' k (fun x hx=> .inr (by rw [hw];exact hS x hx)) (fun x hx=> .inr (by rw [hw];exact hv x hx)),fun g hg=> by
  rcases n g hg with h1 | h1
  ·exact hv g h1
  ·omega⟩
theorem txt0 (t:List Pr) (i:Nat) (h1:1<=i) (h2:i < (ai_ 0 t).length): ∃s,(ai_ 0 t)[i]? =some (.txt s):=by
 obtain⟨j,rfl⟩: ∃j,i=j+1:=⟨i - 1,by omega⟩
 rw [bv_,V_] at h2 ⊢
 rw [List.getElem?_cons_succ]
 have hj:j < (t.flatMap (fun p=> [Itm.txt p.1,Itm.txt p.2])).length:=by simpa using h2
 obtain⟨p,_,hx⟩:=cm_ (fun p:Pr=> Itm.txt p.1) (fun p=> Itm.txt p.2) t (List.getElem_mem hj)
 rw [List.getElem?_eq_getElem hj]
 rcases hx with hx | hx
 ·exact⟨p.1,by rw [hx]⟩
 ·exact⟨p.2,by rw [hx]⟩
theorem ct_ {α:Type} (f g:α->Itm): ∀(l:List α) (j:Nat) (x:α),l[j]? =some x->(l.flatMap (fun p=> [f p,g p]))[2*j]? =some (f x)/\(l.flatMap (fun p=> [f p,g p]))[2*j+1]? =some (g x)
 | [],j,x,h=> by simp at h
 | a::l,0,x,h=> by
  simp only [List.getElem?_cons_zero,Option.some.injEq] at h
  subst h
  exact⟨rfl,rfl⟩
 | a::l,j+1,x,h=> by
  have h2:=ct_ f g l j x (by simpa using h)
  rw [List.flatMap_cons]
  exact⟨by rw [<-h2.1];rfl,by rw [<-h2.2];rfl⟩
def hT_ (n:Nat) (t:List (El n)) (w:World) (e:Ending) (w':World):Prop:= ∃b,e= .returned (.tuple #[.pointer (some ⟨b,0,none⟩),.int .i64 0])/\NodeRI (fun k=> w.heap.size<=k) w' n b t/\Ext [] w w'
theorem ic_ (v:Value) (t:List Pr) (w:World) (hv:EB.Rd w v (bb_ 0 t)) (hg:GoodT 0 t) (hne:t≠ []) (hbl:(bb_ 0 t).length<=1024):Calls Tryz.prog 93 #[v] w (hT_ 0 t w):=by
 have HV:=hi_ hv
 have HG:=hi_ hg.items
 have HBL:Hid ((encL (ai_ 0 t)).length<=1024):=hi_ hbl
 have HT:Hid (t.length<=900):=hi_ hg.1
 obtain⟨N,hN⟩: ∃N,N=(ai_ 0 t).length:=⟨_,rfl⟩
 have hN2:N=1+2*t.length:=by
  have:=aw_ (fun p:Pr=> Itm.txt p.1) (fun p=> Itm.txt p.2) t
  rw [hN,bv_,V_,List.length_cons]
  omega
 have hN3:2<=N:=by have:=List.length_pos_iff.2 hne;omega
 obtain⟨HN,HN2⟩:=h_2 hN hN2
 have H0:Hid ((ai_ 0 t)[0]? =some (.num 1)):=hi_ rfl
 have hNb:N<=2000:=by have:=HT.out;omega
 clear hv hg hne hbl hN hN2
 go_enter Tryz.func93,Tryz.ntmps93
 go_wp2_with fail
 refine(eY_ _ (ai_ 0 t) _ HV.out HG.out (by have:=HBL.out;omega)).mono ?_
 rintro e W1 ⟨u,rfl,how,hE1,hu1⟩
 obtain⟨g,o,cap,hue⟩: ∃g o cap,u= .slice (some ⟨g,o,none⟩) N cap/\N<=cap:=by
  rcases how.rd with ⟨_,h⟩ | ⟨g,o,c,h,h2,_⟩
  ·have:=congrArg List.length h
   rw [List.length_map,<-HN.out,List.length_nil] at this
   omega
  ·rw [List.length_map,<-HN.out] at h h2
   exact⟨g,o,c,h,h2⟩
 obtain⟨rfl,hcap⟩:=hue
 have hrd:=how.rd
 obtain⟨HR,HE1⟩:=h_2 hrd hE1
 have h0:=cY_ hrd 0 _ H0.out
 simp only [Nat.zero_mul,Nat.add_zero,itmV] at h0
 obtain⟨k00,k01, -⟩:=h0
 have hrd2:=hrd.dropS (k:=1)
 rw [<-List.map_drop,show o+1*EIt.k=o+3 from rfl] at hrd2
 have HR2:=hi_ hrd2
 have z1: ¬((N:Int) < 2):=by omega
 have z2: ¬cap=1:=by omega
 have z3:(1:Int)<=(N:Int):=by omega
 have z4:(1:Int)<=(cap:Int):=by omega
 have z5:(0:Int) < (N:Int):=by omega
 have z6: ¬cap=0:=by omega
 clear how hrd hE1 hu1 hrd2
 go_wp2_with fail
 go_loopw [7,35] (fun _ iv wr=> ∃i:Nat,i<=N - 1/\iv= .int .i64 i/\Ext [] W1 wr) (fun _ iv _=> N - (intOf iv).toNat)
 case atStart=> exact⟨0,Nat.zero_le _,rfl,Ext.refl _ _⟩
 case round=>
  obtain⟨i,hi,rfl,hE⟩:=hrel
  by_cases hlt:i < N - 1
  ·have y1:(i:Int) < ((N - 1:Nat):Int):=by omega
   obtain⟨s,hs⟩:=txt0 t (i+1) (by omega) (by rw [<-HN.out];omega)
   have hd:((ai_ 0 t).drop 1)[i]? =some (.txt s):=by rw [List.getElem?_drop,Nat.add_comm];exact hs
   have hc:=cY_ (HR2.out.ext0 hE) i _ hd
   simp only [itmV] at hc
   obtain⟨m1,m2,m3⟩:=hc
   have hE2:Ext [] W1 (wr.alloc (.cells #[.int .i64 2,.int .i64 0,.string ⟨s.toArray⟩] 215)):=hE.alloc _
   clear hs hd
   go_wp2_with fail
   go_roundw
   case rel=> exact⟨i+1,by omega,by go_num,hE2⟩
   case measure=> simp [intOf];omega
  ·have y1: ¬((i:Int) < ((N - 1:Nat):Int)):=by omega
   have k00':=hE.cell k00 (by simp)
   have k01':=hE.cell k01 (by simp)
   have hrem:((N:Int) % 2)=1:=by have:=HN2.out;omega
   have hrem2:((N:Int).tmod 2)=1:=by rw [Int.tmod_eq_emod_of_nonneg (by omega)];exact hrem
   have HE2:=hi_ (HE1.out.trans hE)
   have HRr:=hi_ (HR.out.ext0 hE)
   clear hi hlt hE k00 k01 HR HE1 HR2
   have hb0:=heap_alloc_new wr (.cells #[.bool true,.slice none 0 0,.slice none 0 0,.slice none 0 0] 125)
   have hEb:Ext [] wr (wr.alloc (.cells #[.bool true,.slice none 0 0,.slice none 0 0,.slice none 0 0] 125)):=(Ext.refl [] wr).alloc _
   have hnb:NodeU wr.heap.size (wr.alloc (.cells #[.bool true,.slice none 0 0,.slice none 0 0,.slice none 0 0] 125)) wr.heap.size true [] [] []:=⟨Nat.le_refl _,_,_,_,hb0,.inl ⟨rfl,rfl⟩,.inl ⟨rfl,rfl⟩,.inl ⟨rfl,rfl⟩,by simp [blkL],by simp [blkL],by simp [blkL]⟩
   go_wp2_with fail
   obtain⟨wo,hwo⟩: ∃wo,wo=wr:=⟨_,rfl⟩
   obtain⟨bn,hbn⟩: ∃b,b=wr.heap.size:=⟨_,rfl⟩
   obtain⟨HNB,HEb⟩:=h_2 hnb hEb
   have HBN:Hid (bn=wo.heap.size):=hi_ (by rw [hwo];exact hbn)
   have hbw:w.heap.size<=bn:=by have:=HE2.out.size;omega
   have hgb:g < bn:=by have:=HRr.out.lt g (by simp [blkL]);omega
   have HEo:Hid (Ext [] w wo):=hi_ (by rw [hwo];exact HE2.out)
   have HRo:Hid (EIt.Rd wo (.slice (some ⟨g,o,none⟩) N cap) ((ai_ 0 t).map itmV)):=hi_ (by rw [hwo];exact HRr.out)
   clear hnb hb0 k00' k01' HRr HE2 hEb
   revert HNB HEb
   generalize World.alloc _ _=W2
   rw [<-hbn,<-hwo]
   intro HNB HEb
   try simp only [<-hbn]
   clear hbn hwo
   obtain⟨M,hM⟩: ∃M,M=t.length:=⟨_,rfl⟩
   have HM:=hi_ hM
   have hNM:N=1+2*M:=by have:=HN2.out;omega
   have hM9:M<=900:=by have:=HT.out;omega
   clear hM
   go_loopw [9] (fun iv wr=> ∃i j:Nat,j<=M/\i=1+2*j/\iv= .int .i64 i/\Hid (NodeU bn wr bn true (t.take j) [] [])/\Hid (Ext [] wo wr)) (fun iv _=> N - (intOf iv).toNat)
   case atStart=> exact⟨1,0,Nat.zero_le _,rfl,rfl,HNB,HEb⟩
   case round=>
    obtain⟨i,j,hj,hij,rfl,HB,HE⟩:=hrel
    by_cases hlt:j < M
    ·have hjt:j < t.length:=by rw [<-HM.out];exact hlt
     have y9:(i:Int) < (N:Int):=by omega
     have y10:(i:Int)+1 < (N:Int):=by omega
     have y11:IntKind.i64.wrap ((i:Int)+1)=(i:Int)+1:=IntWalk.i64_in _ (by omega)
     have y12:((i:Int)+1).toNat=i+1:=by omega
     have y13:(0:Int)<=(i:Int)+1:=by omega
     have hfl:=ct_ (fun p:Pr=> Itm.txt p.1) (fun p=> Itm.txt p.2) t j t[j] (List.getElem?_eq_getElem hjt)
     have hi1:(ai_ 0 t)[i]? =some (.txt t[j].1):=by
      rw [bv_,V_,hij,Nat.add_comm 1 (2*j),List.getElem?_cons_succ]
      exact hfl.1
     have hi2:(ai_ 0 t)[i+1]? =some (.txt t[j].2):=by
      rw [bv_,V_,hij,Nat.add_comm 1 (2*j),List.getElem?_cons_succ]
      exact hfl.2
     have hRw:=HRo.out.ext0 HE.out
     obtain⟨-, -,m1⟩:=cY_ hRw i _ hi1
     obtain⟨-, -,m2⟩:=cY_ hRw (i+1) _ hi2
     simp only [itmV] at m1 m2
     obtain⟨pp,cp,pk,ck,pr,cr, -,c1, -, -,hps,hks,hrs,hbb,hu1,hu2,hu3⟩:=HB.out.cells
     have el:(t.take j).length=j:=by rw [List.length_take];omega
     have hts:t.take (j+1)=t.take j++ [t[j]]:=List.take_succ_eq_append_getElem hjt
     rw [el] at c1 hps hbb hu1
     obtain⟨HU1,HU2,HU3⟩:=h_3 hu1 hu2 hu3
     obtain⟨x,hx⟩: ∃x,x=t[j]:=⟨_,rfl⟩
     rw [<-hx] at m1 m2 hts
     obtain⟨HPS,HKS,HRS,HBB,HTS⟩:=h_5 hps hks hrs hbb hts
     have HIJ:=hi_ (show i+2=1+2*(j+1) by omega)
     have hIJ:=hi_ hij
     have hfzb: ∀q,wr.frozen? ⟨bn,q,none⟩=false:=fun q=> frozen_of_row _ _ _ _ _ hbb
     have hbl9:bn < wr.heap.size:=g_ hbb
     obtain⟨HNM,HJT⟩:=h_2 hNM hjt
     clear hfl hi1 hi2 hRw hps hks hrs hbb el hts hx hij hNM hjt hu1 hu2 hu3
     go_wp2_with fail
     have hD:=(Ext.refl [] wr).drew
     refine e_ (fun W=> W.cell? ⟨bn,1,none⟩=some (.slice pp j cp)/\W.cell? ⟨g,o+i*3+2,none⟩=some (.string ⟨x.1.toArray⟩)/\W.cell? ⟨g,o+(i+1)*3+2,none⟩=some (.string ⟨x.2.toArray⟩)) (fun i=> i==4 || i==9 || i==15 || i==17) (by kernel_rfl) ⟨hD.cell c1 (by simp),hD.cell m1 (by simp),hD.cell m2 (by simp)⟩ (fun hS=> ?_)
     refine PUq 0 ?_;(try go_frame)
     refine PUq 1 ?_;(try go_frame)
     refine PUq 5 ?_;(try go_frame)
     refine PUq 6 ?_;(try go_frame)
     refine PUq 10 ?_;(try go_frame)
     simp only [zA,zB,zC,zD,zE]
     refine PUq 11 ?_;(try go_frame)
     simp only [zA,zB,zC,zD,zE]
     refine PUq 2 ?_;(try go_frame)
     refine PUq 3 ?_;(try go_frame)
     refine PUq 7 ?_;(try go_frame)
     refine PUq 8 ?_;(try go_frame)
     refine PUq 12 ?_;(try go_frame)
     simp only [zA,zB,zC,zD,zE]
     refine PUq 13 ?_;(try go_frame)
     simp only [zA,zB,zC,zD,zE]
     refine PUq 14 ?_;(try go_frame)
     simp only [zA,zB,zC,zD,zE]
     refine ta 9 ?_;(try go_frame)
     refine ta 15 ?_;(try go_frame)
     simp only [zA,zB,zC,zD,zE]
     refine PUq 16 ?_;(try go_frame)
     simp only [zA,zB,zC,zD,zE]
     refine ta 4 ?_;(try go_frame)
     refine a_ (i:=17) (by kernel_rfl) rfl (fun K hK=> ?_)
     (try simp only [Act.put,zA,zB,zC,List.setIfInBounds_toArray,zD,zE]);refine iw rfl ?_
     go_simp
     have hE17:Ext [] wr (wr.alloc (.cells #[.string ⟨x.1.toArray⟩,.string ⟨x.2.toArray⟩] 36)).drew:=((Ext.refl [] wr).alloc _).drew
     have hE17':Ext [] wr (wr.drew.alloc (.cells #[.string ⟨x.1.toArray⟩,.string ⟨x.2.toArray⟩] 36)):=(Ext.refl [] wr).drew.alloc _
     refine hK.out _ _ (fun _=> ⟨hE17.cell c1 (by simp),hE17.cell m1 (by simp),hE17.cell m2 (by simp)⟩) (fun _=> ?_)
     clear hK hS
     refine a_ (i:=18) (by kernel_rfl) rfl (fun K hK=> ?_)
     (try simp only [Act.put,zA,zB,zC,List.setIfInBounds_toArray,zD,zE]);refine iw rfl ?_
     refine b_ (s:= .tmp 71) (x:= .tmp 84) (E:=EPr) (T:=36) (zero:=([],[])) (bytes:=32) (v:= .slice pp j cp) (xs:=t.take j) (ys:= [x]) tiPr Tryz.underlying22 Tryz.underlying22 rfl rfl rfl (HPS.out.ext0 hE17) (one_rdPr wr x) (by simp;omega) (by simp;omega) ?_
     intro v2 w2 how hext hnear _
     rw [<-HTS.out] at how
     obtain⟨p2,c2,hv2,_⟩:=how.rd.len_eq
     have el2:(t.take (j+1)).length=j+1:=by rw [List.length_take];have:=HJT.out;omega
     rw [el2] at hv2
     subst hv2
     have hpb: ∀q∈blkL (.slice pp j cp),q≠bn:=HPS.out.ne HBB.out (by decide)
     have hb17:=hE17.blk HBB.out (by simp)
     have hb2:=hext.blk hb17 (fun hm=> hpb bn hm rfl)
     have hks2:=(HKS.out.ext0 hE17).ext hext (fun q hq hm=> by
      have h1:=(HPS.out.ext0 hE17).tagOf q hm
      have h2:=(HKS.out.ext0 hE17).tagOf q hq
      rw [h1] at h2;exact absurd h2 (by decide))
     have hrs2:=(HRS.out.ext0 hE17).ext hext (fun q hq hm=> by
      have h1:=(HPS.out.ext0 hE17).tagOf q hm
      have h2:=(HRS.out.ext0 hE17).tagOf q hq
      rw [h1] at h2;exact absurd h2 (by decide))
     have hsz:bn<=(wr.alloc (.cells #[.string ⟨x.1.toArray⟩,.string ⟨x.2.toArray⟩] 36)).drew.heap.size:=Nat.le_trans (Nat.le_of_lt hbl9) hE17.size
     obtain⟨hE2,hu2⟩:=bY_ hext hnear hsz HU1.out wo HBN.out.symm (HE.out.trans hE17) (by simp)
     have hnode:=NodeU.setPairs (Nat.le_refl bn) hb2 how hks2 hrs2 hu2 HU2.out HU3.out
     have hfz2: ∀q,w2.frozen? ⟨bn,q,none⟩=false:=fun q=> frozen_of_row _ _ _ _ _ hb2
     have c12:w2.cell? ⟨bn,1,none⟩=some (.slice pp j cp):=by rw [cell_of_row w2 bn 1 _ _ _ hb2];rfl
     have HN2':=hi_ hnode
     have HE2':Hid (Ext [] wo (w2.setCell ⟨bn,1,none⟩ (.slice p2 (j+1) c2))):=hi_ (hE2.setCell (.inr (show wo.heap.size<=bn by have:=HBN.out;omega)) _)
     refine nk hK ?_
     clear hK how hext hnear hpb hb17 hb2 hks2 hrs2 hnode hE2 hu2 hE17 hE17' hD c1 m1 m2 hsz el2
     refine PUq 19 ?_;(try go_frame)
     simp only [zA,zB,zC,zD,zE]
     refine PUq 20 ?_;(try go_frame)
     simp only [zA,zB,zC,zD,zE]
     refine a_ (i:=21) (by kernel_rfl) rfl (fun K hK=> ?_)
     refine iw rfl ?_
     go_simp
     refine nk hK ?_
     refine c_ (by kernel_rfl) ?_ _
     clear hK hfz2 c12 hfzb
     go_wp2_with fail
     go_roundw
     case rel=> exact⟨i+2,j+1,by omega,HIJ.out,by go_num,HN2',HE2'⟩
     case measure=> simp [intOf];omega
    ·obtain rfl:j=M:=by omega
     have y9: ¬((i:Int) < (N:Int)):=by omega
     have e:t.take j=t:=List.take_of_length_le (by rw [<-HM.out];exact Nat.le_refl _)
     rw [e] at HB
     clear e hij
     go_wp2
     go_ret2
     exact⟨bn,rfl,HB.out.toI hbw,HEo.out.trans HE.out⟩
theorem txt1 (t:List (Pc n)) (i:Nat) (h1:1<=i) (h2:i < (G_ t).length): ∃s,(G_ t)[i]? =some (.txt s):=by
 obtain⟨j,rfl⟩: ∃j,i=j+1:=⟨i - 1,by omega⟩
 rw [G_] at h2 ⊢
 rw [List.getElem?_cons_succ]
 have hj:j < ((t.flatMap (fun k=> [Itm.txt k.1,Itm.txt (kidB k)])).drop 1).length:=by simpa using h2
 obtain⟨k,_,hx⟩:=cm_ (fun k:Pc n=> Itm.txt k.1) (fun k=> Itm.txt (kidB k)) t (List.mem_of_mem_drop (List.getElem_mem hj))
 rw [List.getElem?_eq_getElem hj]
 rcases hx with hx | hx
 ·exact⟨k.1,by rw [hx]⟩
 ·exact⟨kidB k,by rw [hx]⟩
theorem is_ (t:List (Pc n)) (j:Nat) (hj:j < t.length):(G_ t)[1+2*j]? =some (.txt (kidB t[j])):=by
 have h:=(ct_ (fun k:Pc n=> Itm.txt k.1) (fun k=> Itm.txt (kidB k)) t j _ (List.getElem?_eq_getElem hj)).2
 rw [G_,Nat.add_comm 1,List.getElem?_cons_succ,List.getElem?_drop,Nat.add_comm 1]
 exact h
theorem it_ (t:List (Pc n)) (j:Nat) (hj:j+1 < t.length):(G_ t)[1+2*j+1]? =some (.txt (y_ t (j+1))):=by
 have h:=(ct_ (fun k:Pc n=> Itm.txt k.1) (fun k=> Itm.txt (kidB k)) t (j+1) _ (List.getElem?_eq_getElem hj)).1
 rw [G_,List.getElem?_cons_succ,List.getElem?_drop,show 1+(1+2*j)=2*(j+1) by omega,h]
 simp [y_,hj]
theorem ir_ (t:List (Pc n)) (ht:0 < t.length):(G_ t).length=2*t.length:=by
 have:=aw_ (fun k:Pc n=> Itm.txt k.1) (fun k=> Itm.txt (kidB k)) t
 rw [G_,List.length_cons,List.length_drop]
 omega
def refF {n:Nat} (k:Pc n):Rfm:=(k.2.1.getD P0,none)
theorem gb_ (N:Nat->List (El n)->Prop) (t:List (Pc n)) (h: ∀k∈t,k.2.1≠none):KidsR N (t.map refF) t:=by
 refine⟨by simp,fun i y x hy hx=> ?_⟩
 rw [List.getElem?_map,hx] at hy
 simp only [Option.map_some,Option.some.injEq] at hy
 subst hy
 have hx2:=h x (List.mem_of_getElem? hx)
 unfold KidR
 cases hq:x.2.1 with
 | none=> exact absurd hq hx2
 | some q=> simp only [refF,hq,Option.getD_some]
theorem one_rdRf (W0:World) (q:Ptr4) (hn:n=W0.heap.size:=by rfl):ERf.Rd (W0.alloc (.cells #[.int .i64 q.1,.int .i64 q.2.1,.int .i64 q.2.2.1,.string ⟨q.2.2.2.toArray⟩,.pointer none] T)) (.slice (some ⟨n,0,none⟩) 1 1) [(q,none)]:=by
 subst hn
 refine .inr ⟨W0.heap.size,0,1,rfl,Nat.le_refl _,by simp,fun j u hj=> ?_⟩
 rw [cell_of_row _ W0.heap.size _ _ _ _ (heap_alloc_new _ _),Nat.zero_add,<-hj]
 simp [ERf,Enc.flat,ptV]
theorem hz_ (W0:World) (k:Ky) (hn:n=W0.heap.size:=by rfl):EKy.Rd (W0.alloc (.cells #[.string ⟨k.toArray⟩] T)) (.slice (some ⟨n,0,none⟩) 1 1) [k]:=by
 subst hn
 refine .inr ⟨W0.heap.size,0,1,rfl,Nat.le_refl _,by simp,fun j u hj=> ?_⟩
 rw [cell_of_row _ W0.heap.size _ _ _ _ (heap_alloc_new _ _),Nat.zero_add,<-hj]
 simp [EKy,Enc.flat]
theorem Enc.Rd.drew {α:Type} {E:Enc α} {v:Value} {xs:List α} (h:E.Rd w v xs):E.Rd w.drew v xs:=h.ext0 (Ext.refl [] w).drew
theorem NodeU.ext0 {B:Nat} (h:NodeU B w b leaf ps ks rs) (he:Ext [] w w'):NodeU B w' b leaf ps ks rs:=by
 obtain⟨hB,pv,kv,cv,h1,h2,h3,h4,u1,u2,u3⟩:=h
 exact⟨hB,pv,kv,cv,he.blk h1 (by simp),h2.ext0 he,h3.ext0 he,h4.ext0 he,u1,u2,u3⟩
theorem Enc.Ow.apart {α β:Type} {E:Enc α} {E':Enc β} {T T':TypeId} {v v':Value} {xs:List α} {ys:List β} (h:E.Ow T w v xs) (h':E'.Ow T' w v' ys) (he:Ext (blkL v') w w') (hT:T≠T'):E.Ow T w' v xs:=h.ext he (fun q hq hm=> by
 have h1:=h'.tagOf q hm
 have h2:=h.tagOf q hq
 rw [h1] at h2
 cases h2
 exact hT rfl)
theorem ib_ (v:Value) (t:List (Pc n)) (w:World) (hv:EB.Rd w v (encL (G_ t))) (hg:gr_ (G_ t)) (hl:t.length<=900) (hq: ∀k∈t,∃q,k.2.1=some q/\GoodPt q) (hne:t≠ []) (hbl:(encL (G_ t)).length<=1024):
  Calls Tryz.prog 93 #[v] w fun e w'=> ∃b,e= .returned (.tuple #[.pointer (some ⟨b,0,none⟩),.int .i64 0])/\NodeI (fun k=> w.heap.size<=k) w' b false [] (o_ t) (t.map refF)/\Ext [] w w':=by
 obtain⟨HV,HG,HBL⟩:=h_3 hv hg hbl
 have HT:Hid (t.length<=900):=hi_ hl
 have HQ:=hi_ hq
 have hpos:=List.length_pos_iff.2 hne
 obtain⟨N,hN⟩: ∃N,N=(G_ t).length:=⟨_,rfl⟩
 have hN2:N=2*t.length:=by rw [hN];exact ir_ t hpos
 have hN3:2<=N:=by omega
 obtain⟨HN,HN2⟩:=h_2 hN hN2
 have H0:Hid ((G_ t)[0]? =some (.num 2)):=hi_ rfl
 have hNb:N<=2000:=by omega
 clear hv hg hne hbl hN hN2 hq hl hpos
 go_enter Tryz.func93,Tryz.ntmps93
 go_wp2_with fail
 refine(eY_ _ (G_ t) _ HV.out HG.out (by have:=HBL.out;omega)).mono ?_
 rintro e W1 ⟨u,rfl,how,hE1,hu1⟩
 obtain⟨g,o,cap,hue⟩: ∃g o cap,u= .slice (some ⟨g,o,none⟩) N cap/\N<=cap:=by
  rcases how.rd with ⟨_,h⟩ | ⟨g,o,c,h,h2,_⟩
  ·have:=congrArg List.length h
   rw [List.length_map,<-HN.out,List.length_nil] at this
   omega
  ·rw [List.length_map,<-HN.out] at h h2
   exact⟨g,o,c,h,h2⟩
 obtain⟨rfl,hcap⟩:=hue
 have hrd:=how.rd
 obtain⟨HR,HE1⟩:=h_2 hrd hE1
 have h0:=cY_ hrd 0 _ H0.out
 simp only [Nat.zero_mul,Nat.add_zero,itmV] at h0
 obtain⟨k00,k01, -⟩:=h0
 have hrd2:=hrd.dropS (k:=1)
 rw [<-List.map_drop,show o+1*EIt.k=o+3 from rfl] at hrd2
 have HR2:=hi_ hrd2
 have z1: ¬((N:Int) < 2):=by omega
 have z2: ¬cap=1:=by omega
 have z3:(1:Int)<=(N:Int):=by omega
 have z4:(1:Int)<=(cap:Int):=by omega
 have z5:(0:Int) < (N:Int):=by omega
 have z6: ¬cap=0:=by omega
 clear how hrd hE1 hu1 hrd2
 go_wp2_with fail
 go_loopw [7,35] (fun _ iv wr=> ∃i:Nat,i<=N - 1/\iv= .int .i64 i/\Ext [] W1 wr) (fun _ iv _=> N - (intOf iv).toNat)
 case atStart=> exact⟨0,Nat.zero_le _,rfl,Ext.refl _ _⟩
 case round=>
  obtain⟨i,hi,rfl,hE⟩:=hrel
  by_cases hlt:i < N - 1
  ·have y1:(i:Int) < ((N - 1:Nat):Int):=by omega
   obtain⟨s,hs⟩:=txt1 t (i+1) (by omega) (by rw [<-HN.out];omega)
   have hd:((G_ t).drop 1)[i]? =some (.txt s):=by rw [List.getElem?_drop,Nat.add_comm];exact hs
   have hc:=cY_ (HR2.out.ext0 hE) i _ hd
   simp only [itmV] at hc
   obtain⟨m1,m2,m3⟩:=hc
   have hE2:Ext [] W1 (wr.alloc (.cells #[.int .i64 2,.int .i64 0,.string ⟨s.toArray⟩] 215)):=hE.alloc _
   clear hs hd
   go_wp2_with fail
   go_roundw
   case rel=> exact⟨i+1,by omega,by go_num,hE2⟩
   case measure=> simp [intOf];omega
  ·have y1: ¬((i:Int) < ((N - 1:Nat):Int)):=by omega
   have k00':=hE.cell k00 (by simp)
   have k01':=hE.cell k01 (by simp)
   have hrem:((N:Int) % 2)=0:=by have:=HN2.out;omega
   have hrem2:((N:Int).tmod 2)=0:=by rw [Int.tmod_eq_emod_of_nonneg (by omega)];exact hrem
   have HE2:=hi_ (HE1.out.trans hE)
   have HRr:=hi_ (HR.out.ext0 hE)
   clear hi hlt hE k00 k01 HR HE1 HR2
   have hb0:=heap_alloc_new wr (.cells #[.bool false,.slice none 0 0,.slice none 0 0,.slice none 0 0] 125)
   have hEb:Ext [] wr (wr.alloc (.cells #[.bool false,.slice none 0 0,.slice none 0 0,.slice none 0 0] 125)):=(Ext.refl [] wr).alloc _
   have hnb:NodeU wr.heap.size (wr.alloc (.cells #[.bool false,.slice none 0 0,.slice none 0 0,.slice none 0 0] 125)) wr.heap.size false [] [] []:=⟨Nat.le_refl _,_,_,_,hb0,.inl ⟨rfl,rfl⟩,.inl ⟨rfl,rfl⟩,.inl ⟨rfl,rfl⟩,by simp [blkL],by simp [blkL],by simp [blkL]⟩
   have k01b:=hEb.cell k01' (by simp)
   go_wp2_with fail
   obtain⟨wo,hwo⟩: ∃wo,wo=wr:=⟨_,rfl⟩
   obtain⟨bn,hbn⟩: ∃b,b=wr.heap.size:=⟨_,rfl⟩
   obtain⟨HNB,HEb⟩:=h_2 hnb hEb
   have HBN:Hid (bn=wo.heap.size):=hi_ (by rw [hwo];exact hbn)
   have hbw:w.heap.size<=bn:=by have:=HE2.out.size;omega
   have hgb:g < bn:=by have:=HRr.out.lt g (by simp [blkL]);omega
   have HEo:Hid (Ext [] w wo):=hi_ (by rw [hwo];exact HE2.out)
   have HRo:Hid (EIt.Rd wo (.slice (some ⟨g,o,none⟩) N cap) ((G_ t).map itmV)):=hi_ (by rw [hwo];exact HRr.out)
   clear hnb hb0 k00' k01' HRr HE2 hEb k01b
   revert HNB HEb
   generalize World.alloc _ _=W2
   rw [<-hbn,<-hwo]
   intro HNB HEb
   try simp only [<-hbn]
   clear hbn hwo
   obtain⟨M,hM⟩: ∃M,M=t.length:=⟨_,rfl⟩
   have HM:=hi_ hM
   have hNM:N=2*M:=by have:=HN2.out;omega
   have hM9:M<=900:=by have:=HT.out;omega
   clear hM
   go_loopw [10,11,12] (fun iv _ _ wr=> ∃i j:Nat,j<=M/\i=1+2*j/\iv= .int .i64 i/\Hid (NodeU bn wr bn false [] ((o_ t).take j) ((t.take j).map refF))/\Hid (Ext [] wo wr)) (fun iv _ _ _=> N+2 - (intOf iv).toNat)
   case atStart=> exact⟨1,0,Nat.zero_le _,rfl,rfl,HNB,HEb⟩
   case round=>
    obtain⟨i,j,hj,hij,rfl,HB,HE⟩:=hrel
    by_cases hlt:j < M
    ·have hjt:j < t.length:=by rw [<-HM.out];exact hlt
     obtain⟨q,hqe,hgq⟩:=HQ.out t[j] (List.getElem_mem hjt)
     have y9:(i:Int) < (N:Int):=by omega
     have hi1:=is_ t j hjt
     rw [<-hij,show kidB t[j]=ptrB q by rw [kidB,hqe];rfl] at hi1
     obtain⟨-, -,m1⟩:=cY_ (HRo.out.ext0 HE.out) i _ hi1
     simp only [itmV] at m1
     have hrs1:(t.take (j+1)).map refF=(t.take j).map refF++ [(q,none)]:=by
      rw [List.take_succ_eq_append_getElem hjt,List.map_append]
      simp [refF,hqe]
     obtain⟨HRS1,HGQ,HIJ,HNM,HJT⟩:=h_5 hrs1 hgq hij hNM hjt
     clear hi1 hrs1 hgq hij hNM hjt hqe
     go_wp2_with fail
     refine(pkunptr_c q _ HGQ.out).mono ?_
     rintro e W5 ⟨rfl,hE5⟩
     have hb5:=heap_alloc_new W5 (.cells #[.int .i64 q.1,.int .i64 q.2.1,.int .i64 q.2.2.1,.string ⟨q.2.2.2.toArray⟩] 34)
     have hE5b:=hE5.alloc (.cells #[.int .i64 q.1,.int .i64 q.2.1,.int .i64 q.2.2.1,.string ⟨q.2.2.2.toArray⟩] 34)
     have HBb:=hi_ (HB.out.ext0 hE5b)
     have HEb2:=hi_ (HE.out.trans hE5b)
     have HB5:=hi_ hb5
     clear m1 hE5 hE5b hb5 HB HE
     go_wp2_with fail
     obtain⟨bx,hbx⟩: ∃b,b=W5.heap.size:=⟨_,rfl⟩
     revert HBb HEb2 HB5
     generalize World.alloc _ _=W6
     rw [<-hbx]
     intro HBb HEb2 HB5
     try simp only [<-hbx]
     clear hbx
     obtain⟨pp,cp,pk,ck,pr,cr, -, -, -,c3,hps,hks,hrs,hbb,hu1,hu2,hu3⟩:=HBb.out.cells
     obtain⟨x0,x1,x2,x3, -⟩:=M_ HB5.out
     have el:((t.take j).map refF).length=j:=by rw [List.length_map,List.length_take];have:=HJT.out;omega
     rw [el] at c3 hrs hbb hu3
     obtain⟨HPS,HKS,HRS,HBB,HU1,HU2,HU3⟩:=h_7 hps hks hrs hbb hu1 hu2 hu3
     have hbl9:bn < W6.heap.size:=g_ hbb
     clear hps hks hrs hbb hu1 hu2 hu3 el
     have hD:=(Ext.refl [] W6).drew
     refine e_ (fun W=> W.cell? ⟨bn,3,none⟩=some (.slice pr j cr)/\W.cell? ⟨bx,0,none⟩=some (.int .i64 q.1)/\W.cell? ⟨bx,1,none⟩=some (.int .i64 q.2.1)/\W.cell? ⟨bx,2,none⟩=some (.int .i64 q.2.2.1)/\W.cell? ⟨bx,3,none⟩=some (.string ⟨q.2.2.2.toArray⟩)) (fun i=> i==4 || i==5 || i==7) (by kernel_rfl) ⟨hD.cell c3 (by simp),hD.cell x0 (by simp),hD.cell x1 (by simp),hD.cell x2 (by simp),hD.cell x3 (by simp)⟩ (fun hS=> ?_)
     refine PUq 0 ?_;(try go_frame)
     refine PUq 1 ?_;(try go_frame)
     refine PUq 2 ?_;(try go_frame)
     refine PUq 3 ?_;(try go_frame)
     refine ta 5 ?_;(try go_frame)
     refine PUq 6 ?_;(try go_frame)
     refine ta 4 ?_;(try go_frame)
     refine a_ (i:=7) (by kernel_rfl) rfl (fun K hK=> ?_)
     (try simp only [Act.put,zA,zB,zC,List.setIfInBounds_toArray,zD,zE]);refine iw rfl ?_
     go_simp
     have hE7:Ext [] W6 (W6.alloc (.cells #[.int .i64 q.1,.int .i64 q.2.1,.int .i64 q.2.2.1,.string ⟨q.2.2.2.toArray⟩,.pointer none] 89)).drew:=((Ext.refl [] W6).alloc _).drew
     have hrd7:=(one_rdRf (T:=89) W6 q).drew
     refine hK.out _ _ (fun _=> ⟨hE7.cell c3 (by simp),hE7.cell x0 (by simp),hE7.cell x1 (by simp),hE7.cell x2 (by simp),hE7.cell x3 (by simp)⟩) (fun _=> ?_)
     obtain⟨HE7,HRD7⟩:=h_2 hE7 hrd7
     clear hK hS c3 x0 x1 x2 x3 hE7 hrd7 hD
     revert HE7 HRD7
     generalize World.drew _=W7
     intro HE7 HRD7
     refine a_ (i:=8) (by kernel_rfl) rfl (fun K hK=> ?_)
     (try simp only [Act.put,zA,zB,zC,List.setIfInBounds_toArray,zD,zE]);refine iw rfl ?_
     refine b_ (s:= .tmp 123) (x:= .tmp 126) (E:=ERf) (T:=89) (zero:=R0) (bytes:=48) (v:= .slice pr j cr) (xs:=(t.take j).map refF) (ys:= [(q,none)]) tiRf Tryz.underlying123 Tryz.underlying123 rfl rfl rfl (HRS.out.ext0 HE7.out) HRD7.out (by simp;omega) (by simp;omega) ?_
     intro v8 w8 how hext hnear _
     rw [<-HRS1.out] at how
     obtain⟨p8,c8,hv8,_⟩:=how.rd.len_eq
     have el2:((t.take (j+1)).map refF).length=j+1:=by rw [List.length_map,List.length_take];have:=HJT.out;omega
     rw [el2] at hv8
     subst hv8
     have hpb: ∀q∈blkL (.slice pr j cr),q≠bn:=HRS.out.ne HBB.out (by decide)
     have hb8:=hext.blk (HE7.out.blk HBB.out (by simp)) (fun hm=> hpb bn hm rfl)
     have hps8:=(HPS.out.ext0 HE7.out).apart (HRS.out.ext0 HE7.out) hext (by decide)
     have hks8:=(HKS.out.ext0 HE7.out).apart (HRS.out.ext0 HE7.out) hext (by decide)
     obtain⟨hE8,hu8⟩:=bY_ hext hnear (Nat.le_trans (Nat.le_of_lt hbl9) HE7.out.size) HU3.out wo HBN.out.symm (HEb2.out.trans HE7.out) (by simp)
     have hnode:=NodeU.setKids (Nat.le_refl bn) hb8 hps8 hks8 how HU1.out HU2.out hu8
     have HN8:=hi_ hnode
     have HE8:Hid (Ext [] wo (w8.setCell ⟨bn,3,none⟩ (.slice p8 (j+1) c8))):=hi_ (hE8.setCell (.inr (show wo.heap.size<=bn by have:=HBN.out;omega)) _)
     have hfz8: ∀q,w8.frozen? ⟨bn,q,none⟩=false:=fun q=> frozen_of_row _ _ _ _ _ hb8
     have c38:w8.cell? ⟨bn,3,none⟩=some (.slice pr j cr):=by rw [cell_of_row w8 bn 3 _ _ _ hb8];rfl
     refine nk hK ?_
     clear hK how hext hnear hpb hb8 hps8 hks8 hE8 hu8 hnode el2 HE7 HRD7 HBB HPS HKS HRS HU1 HU2 HU3 HBb HEb2 HB5
     refine PUq 9 ?_;(try go_frame)
     refine PUq 10 ?_;(try go_frame)
     simp only [zA,zB,zC,zD,zE]
     refine a_ (i:=11) (by kernel_rfl) rfl (fun K hK=> ?_)
     refine iw rfl ?_
     go_simp
     refine nk hK ?_
     refine c_ (by kernel_rfl) ?_ _
     clear hK hfz8 c38
     revert HN8 HE8
     generalize World.setCell _ _ _=W9
     intro HN8 HE8
     have hks': ¬(j+1 < M)->(o_ t).take (j+1)=(o_ t).take j:=fun h=> by
      rw [List.take_of_length_le (by rw [t_,<-HM.out];omega),List.take_of_length_le (by rw [t_,<-HM.out];omega)]
     by_cases hmore:j+1 < M
     ·have y10:(i:Int)+1 < (N:Int):=by have:=HNM.out;have:=HIJ.out;omega
      have y11:IntKind.i64.wrap ((i:Int)+1)=(i:Int)+1:=IntWalk.i64_in _ (by omega)
      have y12:((i:Int)+1).toNat=i+1:=by omega
      have y13:(0:Int)<=(i:Int)+1:=by omega
      have hi2:=it_ t j (by rw [<-HM.out];exact hmore)
      rw [<-HIJ.out] at hi2
      obtain⟨-, -,m2⟩:=cY_ (HRo.out.ext0 HE8.out) (i+1) _ hi2
      simp only [itmV] at m2
      obtain⟨pp,cp,pk,ck,pr,cr, -, -,c2, -,hps,hks,hrs,hbb,hu1,hu2,hu3⟩:=HN8.out.cells
      have el:((o_ t).take j).length=j:=by rw [List.length_take,t_,<-HM.out];omega
      rw [el] at c2 hks hbb hu2
      have hks1:(o_ t).take (j+1)=(o_ t).take j++ [y_ t (j+1)]:=by
       rw [List.take_succ_eq_append_getElem (by rw [t_,<-HM.out];omega)]
       congr 2
       have h:=bl_ t j (by rw [<-HM.out];exact hmore)
       simpa [List.getD,show j < (o_ t).length by rw [t_,<-HM.out];omega] using h
      obtain⟨ky,hky⟩: ∃k,k=y_ t (j+1):=⟨_,rfl⟩
      rw [<-hky] at hks1 m2
      obtain⟨HKS1,HPS,HKS,HRS,HBB,HU1,HU2,HU3⟩:=h_8 hks1 hps hks hrs hbb hu1 hu2 hu3
      have hbl9':bn < W9.heap.size:=g_ hbb
      clear hps hks hrs hbb hu1 hu2 hu3 el hks1 hky hi2 hks' hbl9
      go_wp2_with fail
      have hD:=(Ext.refl [] W9).drew
      refine e_ (fun W=> W.cell? ⟨bn,2,none⟩=some (.slice pk j ck)/\W.cell? ⟨g,o+(i+1)*3+2,none⟩=some (.string ⟨ky.toArray⟩)) (fun i=> i==4 || i==10 || i==11) (by kernel_rfl) ⟨hD.cell c2 (by simp),hD.cell m2 (by simp)⟩ (fun hS=> ?_)
      refine PUq 0 ?_;(try go_frame)
      refine PUq 1 ?_;(try go_frame)
      refine PUq 5 ?_;(try go_frame)
      refine PUq 6 ?_;(try go_frame)
      refine PUq 2 ?_;(try go_frame)
      refine PUq 3 ?_;(try go_frame)
      refine PUq 7 ?_;(try go_frame)
      refine PUq 8 ?_;(try go_frame)
      refine PUq 9 ?_;(try go_frame)
      refine ta 10 ?_;(try go_frame)
      simp only [zA,zB,zC,zD,zE]
      refine ta 4 ?_;(try go_frame)
      refine a_ (i:=11) (by kernel_rfl) rfl (fun K hK=> ?_)
      (try simp only [Act.put,zA,zB,zC,List.setIfInBounds_toArray,zD,zE]);refine iw rfl ?_
      go_simp
      have hE7:Ext [] W9 (W9.alloc (.cells #[.string ⟨ky.toArray⟩] 9)).drew:=((Ext.refl [] W9).alloc _).drew
      have hrd7:=(hz_ (T:=9) W9 ky).drew
      refine hK.out _ _ (fun _=> ⟨hE7.cell c2 (by simp),hE7.cell m2 (by simp)⟩) (fun _=> ?_)
      obtain⟨HE7,HRD7⟩:=h_2 hE7 hrd7
      clear hK hS c2 m2 hE7 hrd7 hD
      revert HE7 HRD7
      generalize World.drew _=W7
      intro HE7 HRD7
      refine a_ (i:=12) (by kernel_rfl) rfl (fun K hK=> ?_)
      (try simp only [Act.put,zA,zB,zC,List.setIfInBounds_toArray,zD,zE]);refine iw rfl ?_
      refine b_ (s:= .tmp 139) (x:= .tmp 146) (E:=EKy) (T:=9) (zero:= []) (bytes:=16) (v:= .slice pk j ck) (xs:=(o_ t).take j) (ys:= [ky]) tiKy Tryz.underlying122 Tryz.underlying122 rfl rfl rfl (HKS.out.ext0 HE7.out) HRD7.out (by simp;omega) (by simp;omega) ?_
      intro v8 w8 how hext hnear _
      rw [<-HKS1.out] at how
      obtain⟨p8,c8,hv8,_⟩:=how.rd.len_eq
      have el2:((o_ t).take (j+1)).length=j+1:=by rw [List.length_take,t_,<-HM.out];omega
      rw [el2] at hv8
      subst hv8
      have hpb: ∀q∈blkL (.slice pk j ck),q≠bn:=HKS.out.ne HBB.out (by decide)
      have hb8:=hext.blk (HE7.out.blk HBB.out (by simp)) (fun hm=> hpb bn hm rfl)
      have hps8:=(HPS.out.ext0 HE7.out).apart (HKS.out.ext0 HE7.out) hext (by decide)
      have hrs8:=(HRS.out.ext0 HE7.out).apart (HKS.out.ext0 HE7.out) hext (by decide)
      obtain⟨hE8,hu8⟩:=bY_ hext hnear (Nat.le_trans (Nat.le_of_lt hbl9') HE7.out.size) HU2.out wo HBN.out.symm (HE8.out.trans HE7.out) (by simp)
      have hnode:=NodeU.setKeys (Nat.le_refl bn) hb8 hps8 how hrs8 HU1.out hu8 HU3.out
      have HN9:=hi_ hnode
      have HE9:Hid (Ext [] wo (w8.setCell ⟨bn,2,none⟩ (.slice p8 (j+1) c8))):=hi_ (hE8.setCell (.inr (show wo.heap.size<=bn by have:=HBN.out;omega)) _)
      have hfz8: ∀q,w8.frozen? ⟨bn,q,none⟩=false:=fun q=> frozen_of_row _ _ _ _ _ hb8
      have c28:w8.cell? ⟨bn,2,none⟩=some (.slice pk j ck):=by rw [cell_of_row w8 bn 2 _ _ _ hb8];rfl
      refine nk hK ?_
      clear hK how hext hnear hpb hb8 hps8 hrs8 hE8 hu8 hnode el2 HE7 HRD7 HBB HPS HKS HRS HU1 HU2 HU3 HN8 HE8
      refine PUq 13 ?_;(try go_frame)
      simp only [zA,zB,zC,zD,zE]
      refine PUq 14 ?_;(try go_frame)
      simp only [zA,zB,zC,zD,zE]
      refine a_ (i:=15) (by kernel_rfl) rfl (fun K hK=> ?_)
      refine iw rfl ?_
      go_simp
      refine nk hK ?_
      refine c_ (by kernel_rfl) ?_ _
      clear hK hfz8 c28
      go_wp2_with fail
      go_roundw
      case rel=> exact⟨i+2,j+1,by omega,by have:=HIJ.out;omega,by go_num,HN9,HE9⟩
      case measure=> simp [intOf];omega
     ·have y10: ¬((i:Int)+1 < (N:Int)):=by have:=HNM.out;have:=HIJ.out;omega
      have hks2:=hks' hmore
      rw [<-hks2] at HN8
      clear hks' hks2
      go_wp2_with fail
      go_roundw
      case rel=> exact⟨i+2,j+1,by omega,by have:=HIJ.out;omega,by go_num,HN8,HE8⟩
      case measure=> simp [intOf];omega
    ·obtain rfl:j=M:=by omega
     have y9: ¬((i:Int) < (N:Int)):=by omega
     have e:t.take j=t:=List.take_of_length_le (by rw [<-HM.out];exact Nat.le_refl _)
     have e2:(o_ t).take j=o_ t:=List.take_of_length_le (by rw [t_,<-HM.out];omega)
     rw [e,e2] at HB
     clear e e2 hij hNM
     go_wp2
     go_ret2
     exact⟨bn,rfl,HB.out.toI hbw,HEo.out.trans HE.out⟩
end Go.Proofs.YtkpgjkekmdecbaaGreat
