/- Lemmas for the claim. No conditions beside those that each states. -/
import Derived.Test.YtkpgjkekmdecbaaGreatOrdAB
import Derived.Test.YtkpgjkekmdecbaaGreatOrdAC
import Derived.Test.YtkpgjkekmdecbaaGreatOrdAL
import Derived.Test.YtkpgjkekmdecbaaGreatOrdAG
import Derived.Test.YtkpgjkekmdecbaaGreatOrdAR
import Derived.Test.YtkpgjkekmdecbaaGreatOrdAV
set_option maxRecDepth 100000
set_option maxHeartbeats 8000000
set_option linter.all false

namespace Go.Proofs.YtkpgjkekmdecbaaGreat
open Go.RowKit Go.ChangeShapes Go.WideShapes Go.Deep
variable {n i k:Nat} {zs:List (List UInt8)} {ws:List (Nat × Nat × List UInt8)} {err:Int} {key:Ky} {q:Ptr4} {ms:List Ptr4} {f:List Pr -> Except Int (List Pr)} {y:Sy} {v v':Sv} {L L':List Blk} {r:Root}
section
variable {H:Type} {enc:TypeId×Value->H} {P:Program} {w:World} {base:Nat} {spare:Nat->Bool} {held:Bool}
theorem field_str {e:TypeId} {fs:Array Field} {cs:List Value} {x:DataW H×List MemPlace} {a:Addr} (he:P.underlying e=some (.struct fs)) (hone:oneCellFields P fs=true)
  (hC:P.cellsOf e=fs.size) (hc:w.cells? base a (P.cellsOf e)=some cs) (h:DataW.trod enc P w base spare held n e cs=some x) {j:Nat} {f:Field} (hj:fs[j]? =some f) (hi:P.underlying f.type=some .string):
  ∃z:List UInt8,w.cell? (a.add j)=some (.string ⟨z.toArray⟩):=by
 obtain⟨v,y,m,h1,h2⟩:=gQ_ he hone hC hc h hj
 obtain⟨z,h3,_⟩:=DataW.trod_string hi h2
 obtain rfl:v= .string z:=by simpa using h3
 exact⟨z.data.toList,by rw [h1]⟩
end
end Go.Proofs.YtkpgjkekmdecbaaGreat
namespace Go.Proofs.YtkpgjkekmdecbaaGreat
open Go.RowKit
variable {n i k:Nat} {zs:List (List UInt8)} {ws:List (Nat × Nat × List UInt8)} {err:Int} {key:Ky} {q:Ptr4} {ms:List Ptr4} {f:List Pr -> Except Int (List Pr)} {y:Sy} {v v':Sv} {L L':List Blk} {r:Root}
def GivePostS (y:Sy) (v:Sv) (pa size:Nat) (w:World) (e:Ending) (w':World):Prop:=
 ∃err v',e= .returned (.int .i64 err)/\SyR w' y v'/\SyF y w w'/\v'.ws=v.ws/\fl_ v.spc pa (B_ y.k size) v'.spc err/\((err≠0/\v'.st=v.st)\/(err=0/\v'.st={v.st with mem:=aW_ v.st.mem pa}))
theorem hm_ (y:Sy) (v:Sv) (pa size:Nat) (birth:Int) (sum:List UInt8) (w:World) (h:SyR w y v) (h1:1<=size) (h2:size<=1024) (hpa:pa<=1000000):
  Calls Tryz.prog 30 #[.pointer (some ⟨y.b,0,none⟩),pagg pa size birth sum] w (GivePostS y v pa size w):=by
 have hEa:Ext [] w (w.alloc (.cells #[.int .i64 pa,.int .i64 size,.int .i64 birth,.string ⟨sum.toArray⟩] 34)):=(Ext.refl [] w).alloc _
 have hb4:=heap_alloc_new w (.cells #[.int .i64 pa,.int .i64 size,.int .i64 birth,.string ⟨sum.toArray⟩] 34)
 obtain⟨c0,c1,_⟩:=(h.st.ext0 hEa).cells
 have HS:=hi_ (h.ext0 hEa)
 have HB4:=hi_ hb4
 have hcb:=aP_ y.k size h1 h2
 obtain⟨q0,q1,q2,q3,_⟩:=M_ hb4
 rw [pagg]
 clear h hb4
 go_enter Tryz.func30,Tryz.ntmps30
 go_wp2_with fail
 revert hEa c0 c1 HS HB4 q0 q1 q2 q3
 generalize World.alloc _ _=W0
 obtain⟨bp,hbp⟩: ∃b,b=w.heap.size:=⟨_,rfl⟩
 simp only [<-hbp]
 clear hbp
 intro hEa c0 c1 HS HB4 q0 q1 q2 q3
 have hD:=(Ext.refl [] W0).drew
 refine e_ (fun W=> W.cell? ⟨y.b,0,none⟩=some (.pointer (some ⟨y.a,0,none⟩))/\W.cell? ⟨bp,1,none⟩=some (.int .i64 size)) (fun i=> i==3 || i==5) (by kernel_rfl) ⟨hD.cell c0 (by simp),hD.cell q1 (by simp)⟩ (fun hS=> ?_)
 refine PUq 0 ?_;(try go_frame)
 refine PUq 1 ?_;(try go_frame)
 refine PUq 2 ?_;(try go_frame)
 refine PUq 4 ?_;(try go_frame)
 refine ta 3 ?_;(try go_frame)
 refine ta 5 ?_;(try go_frame)
 refine a_ (i:=6) (by kernel_rfl) rfl (fun K hK=> ?_)
 (try simp only [Act.put,zA,zB,zC,List.setIfInBounds_toArray,zD,zE]);refine iw rfl ?_
 go_simp
 refine(fh_ y.a y.r y.k y.F size _ (HS.out.ar.ext0 hD) (by have:=HS.out.k8;omega) h1 h2).mono ?_
 rintro e W1 ⟨rfl,hE1⟩
 have hE01:=hD.trans hE1
 have HS1:=hi_ (HS.out.ext0 hE01)
 have HB41:=hi_ (hE01.blk HB4.out (by simp))
 have c11:=hE01.cell c1 (by simp)
 have q01:=hE01.cell q0 (by simp)
 have hEw:=hEa.trans hE01
 obtain⟨C,hC⟩: ∃C,C=B_ y.k size:=⟨_,rfl⟩
 rw [<-hC] at hcb ⊢
 have HC:=hi_ hC
 refine nk hK ?_
 clear hK hC HS HB4 c0 c1 q0 q1 q2 q3 hS hE1 hE01 hEa hD
 refine PUq 7 ?_;(try go_frame)
 refine PUq 8 ?_;(try go_frame)
 refine PUq 9 ?_;(try go_frame)
 refine PUq 10 ?_;(try go_frame)
 simp only [zA,zB,zC,zD,zE]
 refine PUq 11 ?_;(try go_frame)
 simp only [zA,zB,zC,zD,zE]
 refine c_ (by kernel_rfl) ?_ _
 go_wp2_with fail
 have hD:=(Ext.refl [] W1).drew
 refine e_ (fun W=> W.cell? ⟨y.b,1,none⟩=some (.pointer (some ⟨y.sp,0,none⟩))/\W.cell? ⟨bp,0,none⟩=some (.int .i64 pa)) (fun i=> i==3 || i==5) (by kernel_rfl) ⟨hD.cell c11 (by simp),hD.cell q01 (by simp)⟩ (fun hS=> ?_)
 refine PUq 0 ?_;(try go_frame)
 refine PUq 1 ?_;(try go_frame)
 refine PUq 2 ?_;(try go_frame)
 refine PUq 4 ?_;(try go_frame)
 refine PUq 6 ?_;(try go_frame)
 refine ta 3 ?_;(try go_frame)
 refine ta 5 ?_;(try go_frame)
 refine a_ (i:=7) (by kernel_rfl) rfl (fun K hK=> ?_)
 (try simp only [Act.put,zA,zB,zC,List.setIfInBounds_toArray,zD,zE]);refine iw rfl ?_
 go_simp
 refine(give_c y.sp v.spc pa C _ (HS1.out.sp.ext0 hD) HS1.out.spi (by omega) (by omega) (by omega) (by omega)).mono ?_
 rintro e W2 ⟨s',err,rfl,hr2,hi2,hE2,hrel⟩
 have hcl:s'.cells=v.spc.cells:=by
  rcases hrel with ⟨_,rfl,_⟩ | ⟨_,_,rfl,_⟩ | ⟨_,_,_,hg⟩
  ·rfl
  ·rfl
  ·exact hg.cells
 have hs2:=(HS1.out.ext0 hD).onSp hE2 hr2 hi2 hcl
 have hF2:=(SyF.of0 (hEw.trans hD):SyF y w W1.drew).trans (SyF.sp hE2)
 have hb42:=SyF.blk (HS1.out.ext0 hD) (SyF.sp hE2) (hD.blk HB41.out (by simp)) (by decide)
 obtain⟨q0,_,_,_,_⟩:=M_ hb42
 obtain⟨HS2,HF2,HREL⟩:=h_3 hs2 hF2 hrel
 refine nk hK ?_
 clear hK hs2 hF2 hb42 hrel hcl hr2 hi2 hE2 hS hD HS1 HB41 c11 q01 hEw
 refine PUq 8 ?_;(try go_frame)
 refine c_ (by kernel_rfl) ?_ _
 by_cases he:err=0
 ·subst he
  go_wp2_with fail
  refine(forget_c y.b y.a y.sp v.st pa _ HS2.out.st (by have h:=HS2.out.mem;simp only at h;omega)).mono ?_
  rintro e W3 ⟨rfl,hst3,hE3⟩
  have hml:(aW_ v.st.mem pa).length<=64:=by
   have h3:(aW_ v.st.mem pa).length<=v.st.mem.length:=List.length_filter_le _ _
   have h:=HS2.out.mem
   simp only at h
   omega
  have hs3:=HS2.out.onSt hE3 hst3 hml
  have HS3:=hi_ hs3
  have HF3:=hi_ (HF2.out.trans (SyF.st hE3))
  clear hst3 hE3 hml hs3 q0
  go_wp2
  go_ret
  exact⟨0,⟨_,v.ws,s'⟩,rfl,HS3.out,HF3.out,rfl,by rw [<-HC.out];exact HREL.out,.inr ⟨rfl,rfl⟩⟩
 ·have hne:(err==0)=false:=beq_eq_false_iff_ne.2 he
  have hne2:(err !=0)=true:=by simpa using he
  clear q0
  go_wp2
  go_ret
  exact⟨err,_,rfl,HS2.out,HF2.out,rfl,by rw [<-HC.out];exact HREL.out,.inl ⟨he,rfl⟩⟩
theorem gn_ {D F c d:Nat} (h1:c % D=d % D) (h2:F+c / D=F+d / D):c=d:=by
 have h3:=Nat.div_add_mod c D
 have h4:=Nat.div_add_mod d D
 have h5:c / D=d / D:=by omega
 rw [h1,h5] at h3
 omega
theorem fs_ (D F a:Nat) (zs:List (List UInt8)) (j:Nat) (z:List UInt8) (h:zs[j]? =some z):(wsOf D F a zs)[j]? =some ((a+j) % D,F+(a+j) / D,z):=by
 rw [wsOf,List.getElem?_map,List.getElem?_zipIdx,h]
 simp
theorem ha_ {D F a:Nat} {j:Nat} {x:Nat×Nat×List UInt8} (hx:(wsOf D F a zs)[j]? =some x):j < zs.length/\x.1=(a+j) % D/\x.2.1=F+(a+j) / D:=by
 have hj:j < (wsOf D F a zs).length:=(List.getElem?_eq_some_iff.1 hx).1
 rw [eu_] at hj
 rw [fs_ D F a zs j _ (List.getElem?_eq_getElem hj)] at hx
 cases hx
 exact⟨hj,rfl,rfl⟩
theorem Stands.keep {D F a a':Nat} {zs zs':List (List UInt8)} (h:Stands ws D F a zs) (hd: ∀i j,i < zs.length->j < zs'.length->a+i≠a'+j):Stands (ws++wsOf D F a' zs') D F a zs:=by
 intro i z hi
 have hil:=(List.getElem?_eq_some_iff.1 hi).1
 obtain⟨h1,n,h2,h3⟩:=h i z hi
 have hn:=(List.getElem?_eq_some_iff.1 h2).1
 refine⟨h1,n,by rw [List.getElem?_append_left hn];exact h2,fun m x hm hx=> ?_⟩
 by_cases hml:m < ws.length
 ·rw [List.getElem?_append_left hml] at hx
  exact h3 m x hm hx
 ·rw [List.getElem?_append_right (by omega)] at hx
  obtain⟨h5,h6,h7⟩:=ha_ hx
  intro h8
  rw [h6,h7] at h8
  exact hd i _ hil h5 (gn_ h8.1 h8.2).symm
theorem Stands.new {D F a:Nat} (hz: ∀z∈zs,z.length=128):Stands (ws++wsOf D F a zs) D F a zs:=by
 intro j z hj
 refine⟨hz z (List.mem_of_getElem? hj),ws.length+j, ?_,fun n x hn hx=> ?_⟩
 ·rw [List.getElem?_append_right (by omega),Nat.add_sub_cancel_left]
  exact fs_ D F a zs j z hj
 ·rw [List.getElem?_append_right (by omega)] at hx
  obtain⟨h1,h2,h3⟩:=ha_ hx
  intro h4
  rw [h2,h3] at h4
  have:=gn_ h4.1 h4.2
  omega
def gu_ (k:Nat) (x:Blk) (c:Int):Prop:=(x.1:Int)<=c/\c < x.1+B_ k x.2.length
structure DkS (y:Sy) (v:Sv) (L:List Blk):Prop where
 dsk:Dsk y v L
 used: ∀x∈L,∀c,gu_ y.k x c->Mem v.spc.used c
 apart: ∀x∈L,∀x'∈L,x.1≠x'.1-> ∀c,¬(gu_ y.k x c/\gu_ y.k x' c)
theorem StdAt.cost {x:Blk} (h:StdAt y ws x):4<=B_ y.k x.2.length/\B_ y.k x.2.length<=32:=aP_ _ _ h.1 h.2.1
theorem LayOf.cost {P:List UInt8} {size:Nat} (h:LayOf k P ((size+127) / 128) zs):zs.length=B_ k size:=by
 have h1:=h.len 0
 have h2:=dg_ k size 0
 omega
theorem PutRel.took {bs:List UInt8} {a:Nat} (p:PutRel y v v' bs a):Took v.spc v'.spc a (B_ y.k bs.length)/\(B_ y.k bs.length:Int)<=cntL v.spc.free - v.spc.back:=by
 rcases p.take with ⟨_,_,_,h⟩ | ⟨_,_,_,_,h⟩ | ⟨_,h1,_,_,h⟩
 ·cases h
 ·cases h
 ·exact⟨h,h1⟩
theorem DkS.put {bs:List UInt8} {a:Nat} (h:DkS y v L) (hi:SpI v.spc) (hc:v.spc.cells=(((y.k+4)*(y.S - y.F):Nat):Int)) (p:PutRel y v v' bs a) (h1:1<=bs.length) (h2:bs.length<=1024) (hw:v'.ws.length<=900000):DkS y v' ((a,bs)::L):=by
 obtain⟨tk, -⟩:=p.took
 obtain⟨zs,hl,hz,hws⟩:=p.sec
 have hcb:=aP_ y.k bs.length h1 h2
 have hbd:=tk.bound hi (by omega)
 have hzl:=hl.cost
 have hnew: ∀x∈L,∀c,¬(gu_ y.k x c/\gu_ y.k (a,bs) c):=fun x hx c hcc=> by
  have h3:=h.used x hx c hcc.1
  have h4:=tk.at1 c ⟨hcc.2.1,hcc.2.2⟩
  exact hi.fu c ⟨h4,h3⟩
 have hne: ∀x∈L,x.1≠a:=fun x hx e=> by
  have h3:=(h.dsk.std x hx).cost
  exact hnew x hx (a:Int) ⟨⟨by omega,by omega⟩,⟨by simp,by simp;omega⟩⟩
 refine⟨⟨fun x hx=> ?_,fun m hm=> ?_,fun x hx x' hx' he=> ?_,hw⟩,fun x hx c hcc=> ?_,fun x hx x' hx' he c hcc=> ?_⟩
 ·rcases List.mem_cons.1 hx with rfl | hx
  ·refine⟨h1,h2, ?_,zs,hl,by rw [hws];exact Stands.new hz⟩
   rw [hc] at hbd
   show a+B_ y.k bs.length<=_
   omega
  ·obtain⟨a1,a2,a3,zx,a4,a5⟩:=h.dsk.std x hx
   refine⟨a1,a2,a3,zx,a4, ?_⟩
   rw [hws]
   refine a5.keep (fun i j hi hj e=> ?_)
   have h3:=a4.cost
   exact hnew x hx ((x.1+i:Nat):Int) ⟨⟨by omega,by omega⟩,⟨by simp only;omega,by simp only;omega⟩⟩
 ·rw [p.st] at hm
  rcases hr_ hm with hm | hm
  ·obtain⟨x,hx,he⟩:=h.dsk.mem m hm
   exact⟨x,List.mem_cons_of_mem _ hx,he⟩
  ·exact⟨(a,bs),by simp,hm⟩
 ·rcases List.mem_cons.1 hx with rfl | hx <;> rcases List.mem_cons.1 hx' with rfl | hx'
  ·rfl
  ·exact absurd he.symm (hne x' hx')
  ·exact absurd he (hne x hx)
  ·exact h.dsk.uniq x hx x' hx' he
 ·rw [tk.used]
  rcases List.mem_cons.1 hx with rfl | hx
  ·exact .inr ⟨hcc.1,hcc.2⟩
  ·exact .inl (h.used x hx c hcc)
 ·rcases List.mem_cons.1 hx with rfl | hx <;> rcases List.mem_cons.1 hx' with rfl | hx'
  ·exact he rfl
  ·exact hnew x' hx' c ⟨hcc.2,hcc.1⟩
  ·exact hnew x hx c hcc
  ·exact h.apart x hx x' hx' he c hcc
def offL (L:List Blk) (a:Nat):List Blk:=L.filter (fun x=> !(x.1==a))
theorem aN_ {a:Nat} {x:Blk}:x∈offL L a↔x∈L/\x.1≠a:=by simp [offL]
theorem DkS.give {x:Blk} (h:DkS y v L) (hi:SpI v.spc) (hc:v.spc.cells=(((y.k+4)*(y.S - y.F):Nat):Int)) (hx:x∈L) (hg:fl_ v.spc x.1 (B_ y.k x.2.length) v'.spc err) (hw:v'.ws=v.ws) (hm:(err≠0/\v'.st=v.st)\/(err=0/\v'.st={v.st with mem:=aW_ v.st.mem x.1})):
  err=0/\Given v.spc v'.spc x.1 (B_ y.k x.2.length)/\DkS y v' (offL L x.1):=by
 have hsd:=h.dsk.std x hx
 have hcb:=hsd.cost
 have hin:inB v.spc x.1 (B_ y.k x.2.length)=true:=by
  have h3:=hsd.2.2.1
  simp only [inB,Bool.and_eq_true,decide_eq_true_eq]
  rw [hc]
  omega
 have hhas:hasB v.spc.used ((x.1:Int),(x.1:Int)+B_ y.k x.2.length)=true:=
  dB_ hi.okU (by simp;omega) (fun c hcc=> h.used x hx c hcc)
 rcases hg with ⟨h3,_⟩ | ⟨_,h3,_⟩ | ⟨_,_,he,gv⟩
 ·rw [hin] at h3;cases h3
 ·rw [hhas] at h3;cases h3
 ·refine⟨he,gv,⟨fun z hz=> ?_,fun m hmm=> ?_,fun z hz z' hz'=> h.dsk.uniq z (aN_.1 hz).1 z' (aN_.1 hz').1,by rw [hw];exact h.dsk.wl⟩,fun z hz c hcc=> ?_,fun z hz z' hz'=> h.apart z (aN_.1 hz).1 z' (aN_.1 hz').1⟩
  ·rw [hw];exact h.dsk.std z (aN_.1 hz).1
  ·rcases hm with ⟨h4,_⟩ | ⟨_,h4⟩
   ·exact absurd he h4
   ·rw [h4] at hmm
    have h5:=List.mem_filter.1 hmm
    obtain⟨z,hz,hze⟩:=h.dsk.mem m h5.1
    refine⟨z,aN_.2 ⟨hz,fun e=> ?_⟩,hze⟩
    have h6:=h5.2
    rw [hze] at h6
    simp [e] at h6
  ·obtain⟨hz1,hz2⟩:=aN_.1 hz
   rw [gv.used]
   refine⟨h.used z hz1 c hcc,fun h4=> ?_⟩
   exact h.apart z hz1 x hx hz2 c ⟨hcc,h4⟩
theorem DkS.same (h:DkS y v L) (hs:SameV v v') (hd:Dsk y v' L):DkS y v' L:=⟨hd,fun x hx c hc=> by rw [hs.spc];exact h.used x hx c hc,h.apart⟩
def nN (i:Nat):(n:Nat)->List (El n)->Nat
 | 0,_=> if i=0 then 1 else 0
 | n+1,t=> (if i=n+1 then 1 else 0)+(List.map (fun k:Pc n=> nN i n k.2.2) t).sum
def nP (i:Nat) {n:Nat} (l:List (Pc n)):Nat:=(l.map (fun k=> nN i n k.2.2)).sum
def pN:(n:Nat)->List (El n)->Nat
 | 0,_=> 0
 | 1,t=> max t.length 7
 | n+2,t=> (List.map (fun k:Pc (n+1)=> pN (n+1) k.2.2) t).sum
def pP {n:Nat} (l:List (Pc n)):Nat:=(l.map (fun k=> pN n k.2.2)).sum
structure Shp (n:Nat) (a b:List (El n)):Prop where
 len:a.length=b.length
 nn: ∀i,nN i n a=nN i n b
 pn:pN n a=pN n b
theorem Shp.refl (n:Nat) (a:List (El n)):Shp n a a:=⟨rfl,fun _=> rfl,rfl⟩
theorem map_pw {α:Type} (f:α->Nat) {l l':List α} (hl:l'.length=l.length) (h: ∀(j:Nat) k k',l[j]? =some k->l'[j]? =some k'->f k'=f k):l'.map f=l.map f:=by
 refine List.ext_getElem (by simpa using hl) (fun j h1 h2=> ?_)
 rw [List.length_map] at h1 h2
 rw [List.getElem_map,List.getElem_map]
 exact h j _ _ (List.getElem?_eq_getElem h2) (List.getElem?_eq_getElem h1)
theorem Shp.kids {t t':List (Pc n)} (hl:t'.length=t.length) (h: ∀(j:Nat) k k',t[j]? =some k->t'[j]? =some k'->Shp n k'.2.2 k.2.2):Shp (n+1) t' t:=by
 refine⟨hl,fun i=> ?_, ?_⟩
 ·have e:nP i t'=nP i t:=congrArg List.sum (map_pw (fun k:Pc n=> nN i n k.2.2) hl (fun j k k' h1 h2=> (h j k k' h1 h2).nn i))
  show (if i=n+1 then 1 else 0)+nP i t'=(if i=n+1 then 1 else 0)+nP i t
  rw [e]
 ·match n,t,t',hl,h with
  | 0,t,t',hl,_=>
   have e1:pN 1 t'=max t'.length 7:=rfl
   have e2:pN 1 t=max t.length 7:=rfl
   show pN 1 t'=pN 1 t
   rw [e1,e2,hl]
  | n+1,t,t',hl,h=>
   have e:pP t'=pP t:=congrArg List.sum (map_pw (fun k:Pc (n+1)=> pN (n+1) k.2.2) hl (fun j k k' h1 h2=> (h j k k' h1 h2).pn))
   exact e
theorem DskK.mono {r:Rf n} (h:DskK L n r) (hL: ∀x∈L,x∈L'):DskK L' n r:=fun q hq=> ⟨hL _ (h q hq).1,(h q hq).2⟩
theorem NdT.mono:{L L':List Blk}->{n:Nat}->{t:List (El n)}->NdT L n t->(∀x∈L,x∈L')->NdT L' n t
 | _,_,0,_,h,_=> h
 | _,_,_+1,_,h,hL=> ⟨h.1,h.2.1,h.2.2.1,fun k hk=> ⟨(h.2.2.2 k hk).1,(h.2.2.2 k hk).2.1.mono hL,NdT.mono (h.2.2.2 k hk).2.2 hL⟩⟩
theorem RtOk.mono (h:RtOk L r) (hL: ∀x∈L,x∈L'):RtOk L' r:=by
 cases r with
 | none=> trivial
 | some x=> exact⟨h.1.mono hL,h.2.mono hL⟩
theorem TakeRel.head1 {s s':Spc} {n a q C:Int} (h:TakeRel s n s' a 0) (hf:s.free= [(q,C)]) (hi:SpI s') (hq:0<=q) (hn:1<=n) (hle:q+n < C) (hC:C<=40000):s'.free= [(q+n,C)]:=by
 rcases h with ⟨_,_,_,h⟩ | ⟨_,_,_,_,h⟩ | ⟨_,_,⟨f,h1,h2⟩,_,t⟩
 ·cases h
 ·cases h
 ·have hfi:s.free.find? (cG_ n)=some (q,C):=by rw [hf];simp [cG_];omega
  rw [hfi] at h1
  cases h1
  have h2:a=q:=h2
  subst h2
  refine Ok.ext hi.okF ⟨by simp,by simp;omega⟩ (fun c=> ?_)
  rw [t.free,hf]
  constructor
  ·rintro⟨⟨x,hx,h1⟩,h2⟩
   simp at hx
   subst hx
   exact⟨(a+n,C),by simp,by simp only at h1 ⊢;omega⟩
  ·rintro⟨x,hx,h1⟩
   simp at hx
   subst hx
   simp only at h1
   exact⟨⟨(a,C),by simp,by simp only;omega⟩,by omega⟩
def NoRoomZ (k:Nat) (v:Sv) (z:Nat):Prop:= ∃size:Nat,1<=size/\size<=1024/\B_ k size<=z/\(cntL v.spc.free - v.spc.back < B_ k size\/v.spc.free.find? (cG_ (B_ k size))=none)
theorem NoRoomZ.not {k z:Nat} {q C:Int} (h:NoRoomZ k v z) (hf:v.spc.free= [(q,C)]) (hb:v.spc.back=0) (hle:q+z<=C):False:=by
 obtain⟨size,h1,h2,h4,h3⟩:=h
 rcases h3 with h3 | h3
 ·rw [hf,hb] at h3
  simp [cntL] at h3
  omega
 ·rw [hf] at h3
  simp [cG_] at h3
  omega
theorem iF_ (k:Nat): ∀(l l':Nat) (a b:Int),l<=l'->aI_ (ax_ k a l)<=aI_ (ax_ k b l'):=by
 intro l
 induction l using Nat.strongRecOn with
 | _ l ih=>
  intro l' a b hl
  by_cases h:l=0
  ·subst h
   rw [ao_]
   have:=(bo_ k l' b b).2.2.2
   simpa [aI_] using this
  ·rw [Y_ k a l h,Y_ k b l' (by omega)]
   have:=ih (l - min l (k+1)) (by omega) (l' - min l' (k+1)) (a+(min l (k+1):Nat)+3) (b+(min l' (k+1):Nat)+3) (by omega)
   simp only [aI_,List.map_cons,List.sum_cons] at this ⊢
   omega
theorem iG_ (k:Nat) {s s':Nat} (h:s<=s'):B_ k s<=B_ k s':=by
 have:=iF_ k ((s+127) / 128) ((s'+127) / 128) 0 0 (by omega)
 rw [B_,B_]
 omega
theorem costF_le (k size:Nat) (h:size<=1024):B_ k size<=32:=by
 have h:=bo_ k ((size+127) / 128) 0 0
 rw [B_]
 omega
def unwC (c:Nat):(n:Nat)->Rf n->Nat
 | 0,r=> if r.1.isSome then 0 else B_ c (szF 0 r.2)
 | n+1,r=> if r.1.isSome then 0 else B_ c (szF (n+1) r.2)+((r.2:List (Pc n)).map (fun k=> unwC c n k.2)).sum
def unwR (c:Nat):Root->Nat
 | none=> 0
 | some ⟨n,r⟩=> unwC c n r
def F_ (k:Nat) (ms:List Ptr4):Nat:=(ms.map (fun q=> B_ k q.2.1)).sum
theorem dE_ (k:Nat) (ms ns:List Ptr4):F_ k (ms++ns)=F_ k ms+F_ k ns:=by simp [F_]
structure PutsR (y:Sy) (v v':Sv) (L L':List Blk) (ms:List Ptr4):Prop where
 dk:DkS y v' L'
 sub: ∀x∈L,x∈L'
 new: ∀q∈ms,∃bs,(q.1,bs)∈L'/\PtAt q bs
 nodup:(ms.map (fun q=> q.1)).Nodup
 fresh: ∀q∈ms,∀x∈L,x.1≠q.1
 old: ∀x∈L',x∈L\/ ∃q∈ms,q.1=x.1
 txg:v'.st.txg=v.st.txg
 cnt:cntL v'.spc.free+F_ y.k ms=cntL v.spc.free
 sum:v'.ws.length+cntL v'.spc.free=v.ws.length+cntL v.spc.free
 cells:v'.spc.cells=v.spc.cells
 back:v'.spc.back=v.spc.back
 leaving:v'.spc.leaving=v.spc.leaving
 one: ∀q C,v.spc.free= [(q,C)]->0<=q->C<=40000->q+F_ y.k ms < C->v'.spc.free= [(q+F_ y.k ms,C)]
theorem PutsR.refl (h:DkS y v L):PutsR y v v L L []:=⟨h,fun _ h=> h,by simp,by simp,by simp,fun x hx=> .inl hx,rfl,by simp [F_],rfl,rfl,rfl,rfl,fun q C h _ _ _=> by simpa [F_] using h⟩
theorem PutsR.trans {a b c:Sv} {L M N:List Blk} {ms ns:List Ptr4} (h:PutsR y a b L M ms) (k:PutsR y b c M N ns):PutsR y a c L N (ms++ns):=by
 refine⟨k.dk,fun x hx=> k.sub x (h.sub x hx),fun q hq=> ?_, ?_,fun q hq x hx=> ?_,fun x hx=> ?_,k.txg.trans h.txg, ?_,k.sum.trans h.sum,k.cells.trans h.cells,k.back.trans h.back,k.leaving.trans h.leaving,fun q C hf hq hC hlt=> ?_⟩
 ·rcases List.mem_append.1 hq with hq | hq
  ·obtain⟨bs,h1,h2⟩:=h.new q hq;exact⟨bs,k.sub _ h1,h2⟩
  ·exact k.new q hq
 ·rw [List.map_append,List.nodup_append]
  refine⟨h.nodup,k.nodup,fun x hx z hz e=> ?_⟩
  obtain⟨q,hq,rfl⟩:=List.mem_map.1 hx
  obtain⟨p,hp,rfl⟩:=List.mem_map.1 hz
  obtain⟨bs,h1,_⟩:=h.new q hq
  exact k.fresh p hp _ h1 e
 ·rcases List.mem_append.1 hq with hq | hq
  ·exact h.fresh q hq x hx
  ·exact k.fresh q hq x (h.sub x hx)
 ·rcases k.old x hx with h1 | ⟨q,h1,h2⟩
  ·rcases h.old x h1 with h1 | ⟨q,h1,h2⟩
   ·exact .inl h1
   ·exact .inr ⟨q,List.mem_append_left _ h1,h2⟩
  ·exact .inr ⟨q,List.mem_append_right _ h1,h2⟩
 ·have h1:=h.cnt
  have h2:=k.cnt
  have e:F_ y.k (ms++ns)=F_ y.k ms+F_ y.k ns:=by simp [F_]
  rw [e]
  omega
 ·have e:F_ y.k (ms++ns)=F_ y.k ms+F_ y.k ns:=by simp [F_]
  rw [e] at hlt ⊢
  have h1:=h.one q C hf hq hC (by omega)
  have h2:=k.one _ C h1 (by omega) hC (by omega)
  rw [h2]
  congr 2
  omega
theorem PutsR.single {bs:List UInt8} {a:Nat} (h:DkS y v L) (hi:SpI v.spc) (hc:v.spc.cells=(((y.k+4)*(y.S - y.F):Nat):Int)) (p:PutRel y v v' bs a) (h1:1<=bs.length) (h2:bs.length<=1024) (hw:v.ws.length+cntL v.spc.free<=900000) (hi':SpI v'.spc):PutsR y v v' L ((a,bs)::L) [(a,bs.length,v.st.txg,shaF bs)]:=by
 obtain⟨tk,hle⟩:=p.took
 obtain⟨zs,hl,hz,hws⟩:=p.sec
 have hzl:=hl.cost
 have hcb:=aP_ y.k bs.length h1 h2
 have hb0:=hi.b0
 have hwl:v'.ws.length=v.ws.length+B_ y.k bs.length:=by rw [hws,List.length_append,eu_,hzl]
 have hcf:=tk.cntF
 have hF:0<=cntL v'.spc.free:=by omega
 refine⟨h.put hi hc p h1 h2 (by omega),fun x hx=> List.mem_cons_of_mem _ hx,fun q hq=> ?_,by simp,fun q hq x hx e=> ?_,fun x hx=> ?_,by rw [p.st], ?_,by omega,tk.cells,tk.back,tk.leaving,fun q C hf hq hC hlt=> ?_⟩
 ·rw [List.mem_singleton.1 hq];exact⟨bs,by simp,rfl,rfl⟩
 ·rw [List.mem_singleton.1 hq] at e
  have e:x.1=a:=e
  have h3:=(h.dsk.std x hx).cost
  have h4:=h.used x hx (a:Int) ⟨by omega,by omega⟩
  have h5:=tk.at1 (a:Int) ⟨by omega,by omega⟩
  exact hi.fu _ ⟨h5,h4⟩
 ·rcases List.mem_cons.1 hx with rfl | hx
  ·exact .inr ⟨(a,bs.length,v.st.txg,shaF bs),by simp,rfl⟩
  ·exact .inl hx
 ·simp [F_];omega
 ·have e:F_ y.k [(a,bs.length,v.st.txg,shaF bs)]=B_ y.k bs.length:=by simp [F_]
  rw [e] at hlt ⊢
  exact p.take.head1 hf hi' hq (by omega) hlt hC
structure WrOk (L':List Blk) (n:Nat) (r r':Rf n) (ms:List Ptr4):Prop where
 dk:DskK L' n r'
 nd:NdT L' n r'.2
 pr:prs n r'.2=prs n r.2
 bk:(bkR r').Perm (bkR r++ms)
 some:r'.1.isSome=true
 shp:Shp n r'.2 r.2
theorem WrOk.same {r:Rf n} (hk:DskK L n r) (hn:NdT L n r.2) (h:r.1.isSome=true):WrOk L n r r []:=⟨hk,hn,rfl,by simp,h,Shp.refl _ _⟩
structure WrL (L':List Blk) (n:Nat) (t t':List (Pc n)) (i:Nat) (ms:List Ptr4):Prop where
 len:t'.length=t.length
 key: ∀(j:Nat) k k',t[j]? =some k->t'[j]? =some k'->k'.1=k.1/\prs n k'.2.2=prs n k.2.2
 lo: ∀(j:Nat) k',j < i->t'[j]? =some k'->k'.2.1.isSome=true/\DskK L' n k'.2/\NdT L' n k'.2.2
 hi: ∀(j:Nat),i<=j->t'[j]? =t[j]?
 same: ∀(j:Nat) k k',t[j]? =some k->t'[j]? =some k'->k.2.1.isSome=true->k'.2.1=k.2.1
 bk:(bkP t').Perm (bkP t++ms)
 shp: ∀(j:Nat) k k',t[j]? =some k->t'[j]? =some k'->Shp n k'.2.2 k.2.2
theorem WrL.start (L:List Blk) (t:List (Pc n)):WrL L n t t 0 []:=⟨rfl,fun j k k' h1 h2=> by rw [h1] at h2;cases h2;exact⟨rfl,rfl⟩,fun j k' hj=> by omega,fun _ _=> rfl,fun j k k' h1 h2 _=> by rw [h1] at h2;cases h2;rfl,by simp,fun j k k' h1 h2=> by rw [h1] at h2;cases h2;exact Shp.refl _ _⟩
theorem WrL.step {t t':List (Pc n)} {ms ns:List Ptr4} {k:Pc n} {r':Rf n} (h:WrL L n t t' i ms) (hk:t[i]? =some k) (hw:WrOk L' n k.2 r' ns) (hsm:k.2.1.isSome=true->r'.1=k.2.1) (hL: ∀x∈L,x∈L'):WrL L' n t (t'.set i (k.1,r')) (i+1) (ms++ns):=by
 have hi:i < t.length:=(List.getElem?_eq_some_iff.1 hk).1
 have hi':i < t'.length:=by rw [h.len];exact hi
 have hki:t'[i]? =some k:=by rw [h.hi i (Nat.le_refl _)];exact hk
 refine⟨by rw [List.length_set];exact h.len,fun j a b ha hb=> ?_,fun j b hj hb=> ?_,fun j hj=> ?_,fun j a b ha hb hs=> ?_, ?_,fun j a b ha hb=> ?_⟩
 rotate_right 1
 ·rw [List.getElem?_set] at hb
  by_cases e:i=j
  ·subst e
   rw [if_pos rfl,if_pos hi'] at hb
   rw [hk] at ha
   cases ha;cases hb
   exact hw.shp
  ·rw [if_neg e] at hb
   exact h.shp j a b ha hb
 ·rw [List.getElem?_set] at hb
  by_cases e:i=j
  ·subst e
   rw [if_pos rfl,if_pos hi'] at hb
   rw [hk] at ha
   cases ha;cases hb
   exact⟨rfl,hw.pr⟩
  ·rw [if_neg e] at hb
   exact h.key j a b ha hb
 ·rw [List.getElem?_set] at hb
  by_cases e:i=j
  ·subst e
   rw [if_pos rfl,if_pos hi'] at hb
   cases hb
   exact⟨hw.some,hw.dk,hw.nd⟩
  ·rw [if_neg e] at hb
   obtain⟨h1,h2,h3⟩:=h.lo j b (by omega) hb
   exact⟨h1,h2.mono hL,h3.mono hL⟩
 ·rw [List.getElem?_set,if_neg (by omega)]
  exact h.hi j (by omega)
 ·rw [List.getElem?_set] at hb
  by_cases e:i=j
  ·subst e
   rw [if_pos rfl,if_pos hi'] at hb
   rw [hk] at ha
   cases ha;cases hb
   exact hsm hs
  ·rw [if_neg e] at hb
   exact h.same j a b ha hb hs
 ·have e1:=bk_at hki
  have e2:bkP (t'.set i (k.1,r'))=bkP (t'.take i)++bkR r'++bkP (t'.drop (i+1)):=by
   have h3:(t'.set i (k.1,r'))[i]? =some (k.1,r'):=by rw [List.getElem?_set,if_pos rfl,if_pos hi']
   have h4:=bk_at h3
   rw [List.take_set_of_le (Nat.le_refl _),List.drop_set_of_lt (by omega)] at h4
   exact h4
  have h5:=h.bk
  have h6:=hw.bk
  rw [e1] at h5
  rw [e2]
  rw [List.perm_iff_count] at h5 h6 ⊢
  intro a
  have:=h5 a
  have:=h6 a
  simp only [List.count_append] at*
  omega
theorem hx_ (t:List (Pc n)):prsP t=(t.map (fun k=> (k.1,prs n k.2.2))).flatMap (fun z=> z.2):=by
 rw [prsP,List.flatMap_map]
theorem spW_map (t:List (Pc n)):SpW t↔(t.map (fun k=> (k.1,prs n k.2.2))).Pairwise (fun x y:Ky×List Pr=> (∀p∈x.2,p.1 < y.1)/\(∀p∈y.2,¬p.1 < y.1)):=by
 rw [List.pairwise_map];exact Iff.rfl
theorem WrL.map {t t':List (Pc n)} (h:WrL L n t t' i ms):t'.map (fun k=> (k.1,prs n k.2.2))=t.map (fun k=> (k.1,prs n k.2.2)):=by
 apply List.ext_getElem?
 intro j
 rw [List.getElem?_map,List.getElem?_map]
 by_cases hj:j < t.length
 ·have h1:=List.getElem?_eq_getElem hj
  have h2:=List.getElem?_eq_getElem (show j < t'.length by rw [h.len];exact hj)
  obtain⟨h3,h4⟩:=h.key j _ _ h1 h2
  rw [h1,h2]
  simp only [Option.map_some,h3,h4]
 ·rw [List.getElem?_eq_none (by rw [h.len];omega:t'.length<=j),List.getElem?_eq_none (by omega:t.length<=j)]
theorem dA_:(ptrB ca_).length=50:=by
 have hlt: ∀c,128<=c->(A_ c).length=(A_ (c / 128)).length+1:=fun c hc=> by rw [ar_ hc];simp
 simp only [ptrB,ca_,encL,encI,List.map_cons,List.map_nil,List.flatten_cons,List.flatten_nil,List.length_append,List.length_cons,List.length_nil,List.length_replicate]
 rw [hlt (2*40000) (by omega),hlt (2*40000 / 128) (by omega),w_ (c:=2*40000 / 128 / 128) (by omega),hlt (2*1024) (by omega),w_ (c:=2*1024 / 128) (by omega),w_ (c:=32) (by omega)]
 have e:(2*(1125899906842624:Int).toNat)=2251799813685248:=rfl
 rw [e,hlt 2251799813685248 (by omega),hlt (2251799813685248 / 128) (by omega),hlt (2251799813685248 / 128 / 128) (by omega),hlt (2251799813685248 / 128 / 128 / 128) (by omega),hlt (2251799813685248 / 128 / 128 / 128 / 128) (by omega),hlt (2251799813685248 / 128 / 128 / 128 / 128 / 128) (by omega),hlt (2251799813685248 / 128 / 128 / 128 / 128 / 128 / 128) (by omega),w_ (c:=2251799813685248 / 128 / 128 / 128 / 128 / 128 / 128 / 128) (by omega)]
 rfl
theorem kidB_le {k k':Pc n} (h:k'.2.1=k.2.1\/(k.2.1=none/\ ∀q,k'.2.1=some q->GoodPt q)):(kidB k').length<=(kidB k).length:=by
 rcases h with h | ⟨h1,h2⟩
 ·rw [kidB,kidB,h];exact Nat.le_refl _
 ·rw [kidB,kidB,h1]
  show _<=(ptrB ca_).length
  rw [dA_]
  cases hk:k'.2.1 with
  | none=> show (ptrB ca_).length<=50;rw [dA_];exact Nat.le_refl _
  | some q=> exact eM_ (h2 q hk)
def gi_ {n:Nat} (t:List (Pc n)):List Itm:=t.flatMap (fun k=> [Itm.txt k.1,Itm.txt (kidB k)])
theorem aT_ (k:Pc n) (r:List (Pc n)):gi_ (k::r)=Itm.txt k.1::Itm.txt (kidB k)::gi_ r:=rfl
theorem hH_: ∀(t t':List (Pc n)),t'.length=t.length->(∀k∈t,k.1.length<=24/\(kidB k).length<=50)->(∀(j:Nat) k k',t[j]? =some k->t'[j]? =some k'->k'.1=k.1/\(kidB k').length<=(kidB k).length)->(encL (gi_ t')).length<=(encL (gi_ t)).length
 | [],[],_,_,_=> Nat.le_refl _
 | [],_::_,h,_,_=> by simp at h
 | _::_,[],h,_,_=> by simp at h
 | k::r,k'::r',h,hg,hk=> by
  have ih:=hH_ r r' (by simpa using h) (fun x hx=> hg x (List.mem_cons_of_mem _ hx)) (fun j a b ha hb=> hk (j+1) a b (by simpa using ha) (by simpa using hb))
  obtain⟨h1,h2⟩:=hk 0 k k' rfl rfl
  obtain⟨g1,g2⟩:=hg k (by simp)
  rw [aT_,aT_,q_,q_,q_,q_,h1]
  simp only [List.length_append]
  rw [aO_ (kidB k) (by omega),aO_ (kidB k') (by omega)]
  omega
theorem sz_le {t t':List (Pc n)} (hl:t'.length=t.length) (hg: ∀k∈t,k.1.length<=24/\(kidB k).length<=50) (hk: ∀(j:Nat) k k',t[j]? =some k->t'[j]? =some k'->k'.1=k.1/\(kidB k').length<=(kidB k).length):szF (n+1) t'<=szF (n+1) t:=by
 show (encL (.num 2::(gi_ t').drop 1)).length<=(encL (.num 2::(gi_ t).drop 1)).length
 rw [q_,q_,List.length_append,List.length_append]
 refine Nat.add_le_add_left ?_ _
 cases t with
 | nil=> cases t' with
  | nil=> exact Nat.le_refl _
  | cons a r=> simp at hl
 | cons k r=> cases t' with
  | nil=> simp at hl
  | cons k' r'=>
   have ih:=hH_ r r' (by simpa using hl) (fun x hx=> hg x (List.mem_cons_of_mem _ hx)) (fun j a b ha hb=> hk (j+1) a b (by simpa using ha) (by simpa using hb))
   obtain⟨h1,h2⟩:=hk 0 k k' rfl rfl
   obtain⟨g1,g2⟩:=hg k (by simp)
   rw [aT_,aT_,List.drop_succ_cons,List.drop_zero,List.drop_succ_cons,List.drop_zero,q_,q_]
   simp only [List.length_append]
   rw [aO_ (kidB k) (by omega),aO_ (kidB k') (by omega)]
   omega
structure WrNode (L:List Blk) (n:Nat) (t t':List (Pc n)):Prop where
 nd:NdT L (n+1) t'
 all:allW (n+1) t'
 pr:prsP t'=prsP t
 szl:szF (n+1) t'<=szF (n+1) t
theorem WrL.node {L0 L:List Blk} {t t':List (Pc n)} (h:WrL L n t t' i ms) (hi:t.length<=i) (hn:NdT L0 (n+1) t):WrNode L n t t':=by
 have hall: ∀k'∈t',k'.2.1.isSome=true/\DskK L n k'.2/\NdT L n k'.2.2:=fun k' hk'=> by
  obtain⟨j,hj⟩:=List.getElem?_of_mem hk'
  have hl:=(List.getElem?_eq_some_iff.1 hj).1
  rw [h.len] at hl
  exact h.lo j k' (by omega) hj
 have hkey: ∀k'∈t',k'.1.length<=24:=fun k' hk'=> by
  obtain⟨j,hj⟩:=List.getElem?_of_mem hk'
  have hl:=(List.getElem?_eq_some_iff.1 hj).1
  rw [h.len] at hl
  have h1:=List.getElem?_eq_getElem hl
  rw [(h.key j _ _ h1 hj).1]
  exact(hn.kid (t:=t) (List.getElem_mem hl)).key
 have hmap:=h.map
 have hsz:szF (n+1) t'<=szF (n+1) t:=by
  refine sz_le h.len (fun k hk=> ⟨(hn.kid (t:=t) hk).key,dc_ (fun q hq=> ((hn.kid (t:=t) hk).dk q hq).2.2.1)⟩) (fun j k k' hk hk'=> ⟨(h.key j k k' hk hk').1,kidB_le ?_⟩)
  cases hkk:k.2.1 with
  | none=> exact .inr ⟨rfl,fun q hq=> ((hall k' (List.mem_of_getElem? hk')).2.1 q hq).2.2.1⟩
  | some q=>
   left
   have hkq:=h.same j k k' hk hk' (by rw [hkk];rfl)
   rw [hkq,hkk]
 refine⟨⟨?_,Nat.le_trans hsz hn.sz, ?_,fun k hk=> ⟨hkey k hk,(hall k hk).2.1,(hall k hk).2.2⟩⟩, ?_, ?_,hsz⟩
 ·intro e
  have h1:=h.len
  have e:t'= []:=e
  rw [e] at h1
  exact hn.nil (List.eq_nil_of_length_eq_zero h1.symm)
 ·have h1:SpW t:=hn.nb.sp
  show SpW t'
  rw [spW_map] at h1 ⊢
  rw [hmap];exact h1
 ·exact fun k hk e=> by have h1:=(hall k hk).1;rw [e] at h1;cases h1
 ·rw [hx_,hx_,hmap]
theorem cg_: ∀(m:Nat) (l:List (Pc n)),l.length<=m->(n_ n l).1.length<=l.length
 | _,[],_=> by rw [do_];exact Nat.le_refl _
 | _,[x],_=> by rw [bC_];exact Nat.le_refl _
 | 0,_::_::_,h=> by simp at h
 | m+1,x::y::r,h=> by
  have hr:r.length+1<=m:=by simp only [List.length_cons] at h;omega
  have ih:=cg_ m (y::r) (by simpa using hr)
  by_cases h1:x.2.1.isSome=true/\y.2.1.isSome=true
  ·rw [bK_ r h1.1 h1.2];simp only [List.length_cons] at ih ⊢;omega
  by_cases h2:szF n (s_ n x.2.2 y.1 y.2.2)<=1024
  ·rw [aS_ r h1 h2]
   have ih2:=cg_ m ((x.1,none,s_ n x.2.2 y.1 y.2.2)::r) (by simpa using hr)
   simp only [List.length_cons] at ih2 ⊢;omega
  ·rw [bf_ r h2];simp only [List.length_cons] at ih ⊢;omega
def wP (t:List Pr):Nat:=(encL (t.flatMap (fun p=> [Itm.txt p.1,Itm.txt p.2]))).length
theorem cP_ (a b:List Pr):wP (a++b)=wP a+wP b:=by
 rw [wP,List.flatMap_append,bw_,List.length_append];rfl
theorem wP_nil:wP []=0:=rfl
theorem sz0 (t:List Pr):szF 0 t=2+wP t:=by
 have e:szF 0 t=(encL (V_ t)).length:=rfl
 have h3:(encI (.num 1)).length=2:=by simp [encI,w_]
 rw [e,V_,q_,List.length_append,h3];rfl
theorem sz0' (t:List (El 0)):szF 0 t=2+wP (prs 0 t):=sz0 t
def wX (x:Pc 0):Nat:=wP (prs 0 x.2.2)
def wL (l:List (Pc 0)):Nat:=wP (prsP l)
theorem wL_cons (x:Pc 0) (l:List (Pc 0)):wL (x::l)=wX x+wL l:=by rw [wL,u_,cP_];rfl
theorem wX_join (k:Ky) (x y:Pc 0):wX (k,none,s_ 0 x.2.2 y.1 y.2.2)=wX x+wX y:=by
 show wP (prs 0 (s_ 0 x.2.2 y.1 y.2.2))=_
 rw [co_,cP_];rfl
theorem sz_join (x y:Pc 0):szF 0 (s_ 0 x.2.2 y.1 y.2.2)=2+wX x+wX y:=by
 rw [sz0',co_,cP_,Nat.add_assoc];rfl
theorem ey_: ∀(s:List (Pc 0)) (x:Pc 0) (B:List (Pc 0)),(∀y∈s,y.2.1=none)->(n_ 0 (x::(s++B))).1.length<=1+(wX x+2*wL s) / 1023+B.length
 | [],x,B,_=> by
  have:=cg_ _ (x::B) (Nat.le_refl _)
  simp only [List.nil_append,List.length_cons] at this ⊢
  omega
 | y::s,x,B,h=> by
  have hy:y.2.1=none:=h y (by simp)
  have hs: ∀z∈s,z.2.1=none:=fun z hz=> h z (List.mem_cons_of_mem _ hz)
  have hnb: ¬(x.2.1.isSome=true/\y.2.1.isSome=true):=fun hh=> by rw [hy] at hh;exact absurd hh.2 (by simp)
  rw [List.cons_append,wL_cons]
  by_cases hj:szF 0 (s_ 0 x.2.2 y.1 y.2.2)<=1024
  ·rw [aS_ _ hnb hj]
   have ih:=ey_ s (x.1,none,s_ 0 x.2.2 y.1 y.2.2) B hs
   rw [wX_join] at ih
   simp only at ih ⊢
   omega
  ·rw [bf_ _ hj]
   have ih:=ey_ s y B hs
   rw [sz_join] at hj
   simp only [List.length_cons] at ih ⊢
   omega
theorem ez_: ∀(m:Nat) (A s B:List (Pc 0)),A.length<=m->s≠ []->(∀y∈s,y.2.1=none)->(∀x∈A,wX x<=1022)->wL s<=1534->(n_ 0 (A++s++B)).1.length<=A.length+3+B.length
 | _,[],s,B,_,h0,hs,_,hw=> by
  cases s with
  | nil=> exact absurd rfl h0
  | cons y s=>
   have h1:=ey_ s y B (fun z hz=> hs z (List.mem_cons_of_mem _ hz))
   rw [wL_cons] at hw
   simp only [List.nil_append,List.cons_append,List.length_nil] at h1 ⊢
   omega
 | _,[x],s,B,_,_,hs,hA,hw=> by
  have h1:=ey_ s x B hs
  have h2:=hA x (by simp)
  simp only [List.cons_append,List.nil_append,List.length_cons,List.length_nil] at h1 ⊢
  omega
 | 0,_::_::_,_,_,hm,_,_,_,_=> by simp at hm
 | m+1,x::x'::A,s,B,hm,h0,hs,hA,hw=> by
  have hm':A.length+1<=m:=by simp only [List.length_cons] at hm;omega
  have ih:=ez_ m (x'::A) s B (by simpa using hm') h0 hs (fun z hz=> hA z (List.mem_cons_of_mem _ hz)) hw
  simp only [List.cons_append] at ih ⊢
  by_cases h1:x.2.1.isSome=true/\x'.2.1.isSome=true
  ·rw [bK_ _ h1.1 h1.2];simp only [List.length_cons] at ih ⊢;omega
  by_cases h2:szF 0 (s_ 0 x.2.2 x'.1 x'.2.2)<=1024
  ·rw [aS_ _ h1 h2]
   have ih2:=ez_ m ((x.1,none,s_ 0 x.2.2 x'.1 x'.2.2)::A) s B (by simpa using hm') h0 hs (fun z hz=> by
    rcases List.mem_cons.1 hz with rfl | hz
    ·rw [wX_join];rw [sz_join] at h2;omega
    ·exact hA z (List.mem_cons_of_mem _ (List.mem_cons_of_mem _ hz))) hw
   simp only [List.cons_append,List.length_cons] at ih2 ⊢
   omega
  ·rw [bf_ _ h2];simp only [List.length_cons] at ih ⊢;omega
theorem eo_ (c:Nat):1<=(A_ c).length:=by
 rw [A_];split <;> simp
theorem bx_ (z:Nat):2<=(encI (.num z)).length:=by
 have:=eo_ (2*z)
 simp only [encI,List.length_cons]
 omega
theorem ptrB_ge (h:GoodPt q):40<=(ptrB q).length:=by
 have h1:=bx_ q.1
 have h2:=bx_ q.2.1
 have h3:=bx_ q.2.2.1.toNat
 have h4:=aO_ q.2.2.2 (by rw [h.sum];decide)
 have h5:=h.sum
 rw [ptrB,q_,q_,q_,q_]
 simp only [List.length_append]
 omega
theorem kidB_ge {k:Pc n} (h: ∀q,k.2.1=some q->GoodPt q):40<=(kidB k).length:=by
 rw [kidB]
 cases hk:k.2.1 with
 | none=> show 40<=(ptrB ca_).length;rw [dA_];decide
 | some q=> exact ptrB_ge (h q hk)
theorem cc_ (s:Ky):s.length+2<=(encI (.txt s)).length:=by
 have:=eo_ s.length
 simp only [encI,List.length_cons,List.length_append]
 omega
theorem flatK_ge (t:List (Pc n)) (h: ∀k∈t,∀q,k.2.1=some q->GoodPt q):44*t.length<=(encL (gi_ t)).length:=by
 induction t with
 | nil=> simp
 | cons k r ih=>
  have ih:=ih (fun x hx=> h x (List.mem_cons_of_mem _ hx))
  have h1:=kidB_ge (h k (by simp))
  have h2:=cc_ k.1
  have h3:=cc_ (kidB k)
  rw [aT_,q_,q_]
  simp only [List.length_append,List.length_cons]
  omega
theorem sz_many {t:List (Pc n)} (h:PcsOk L n t):44*t.length<=szF (n+1) t:=by
 show _<=(encL (.num 2::(gi_ t).drop 1)).length
 cases t with
 | nil=> simp
 | cons k r=>
  have hg: ∀k'∈k::r,∀q,k'.2.1=some q->GoodPt q:=fun k' hk' q hq=> ((h.all k' hk').dk q hq).2.2.1
  have ih:=flatK_ge r (fun x hx=> hg x (List.mem_cons_of_mem _ hx))
  have h1:=kidB_ge (hg k (by simp))
  have h2:=cc_ (kidB k)
  have h3:=bx_ 2
  rw [aT_,List.drop_succ_cons,List.drop_zero,q_,q_]
  simp only [List.length_append,List.length_cons]
  omega
theorem NdT.few {t:List (Pc n)} (h:NdT L (n+1) t):t.length<=23:=by
 have h1:PcsOk L n t:=h.nb
 have h2:=sz_many h1
 have h3:szF (n+1) t<=1024:=h.sz
 omega
def pcI {n:Nat} (k:Ky) (t:List (Pc n)):Pc (n+1):=(k,none,t)
theorem eP_ {t:List (Pc n)} (key:Ky) (h:PcsOk L n t) (hl:t.length<=26):
  (t= []/\i_ (n+1) t key=([]:List (Pc (n+1))))\/(t≠ []/\i_ (n+1) t key= [pcI key t])\/(14<=t.length/\ ∃(a b:List (Pc n)) (k2:Ky),i_ (n+1) t key= [pcI key a,pcI k2 b]/\a.length+b.length=t.length/\1<=a.length/\1<=b.length):=by
 by_cases h0:t= []
 ·subst h0
  exact .inl ⟨rfl,X_ (n+1) key⟩
 by_cases hs:szF (n+1) t<=1024
 ·exact .inr (.inl ⟨h0,K_ (n:=n+1) (t:=t) key h0 hs⟩)
 ·have h2:14<=t.length:=by have:=fG_ h;omega
  have e:=dz_ (t:=t) key (by omega) hs
  obtain⟨A,hA⟩: ∃A:List (Pc n),A=t.take (t.length / 2):=⟨_,rfl⟩
  obtain⟨B,hB⟩: ∃B:List (Pc n),B=t.drop (t.length / 2):=⟨_,rfl⟩
  rw [<-hA,<-hB] at e
  have ha:PcsOk L n A:=by rw [hA];exact h.sub (List.take_sublist _ _)
  have hb:PcsOk L n B:=by rw [hB];exact h.sub (List.drop_sublist _ _)
  have la:A.length=t.length / 2:=by rw [hA,List.length_take];omega
  have lb:B.length=t.length - t.length / 2:=by rw [hB,List.length_drop]
  have sa:=fG_ ha
  have sb:=fG_ hb
  have sa':szF (n+1) A<=1024:=by omega
  have sb':szF (n+1) B<=1024:=by omega
  have na:A≠ []:=fun e=> by rw [e,List.length_nil] at la;omega
  have nb:B≠ []:=fun e=> by rw [e,List.length_nil] at lb;omega
  have fa:=K_ (n:=n+1) (t:=A) key na sa'
  have fb:=K_ (n:=n+1) (t:=B) (y_ t (t.length / 2)) nb sb'
  exact .inr (.inr ⟨h2,A,B,_,by rw [e];exact congr (congrArg (fun x y:List (Pc (n+1))=> x++y) fa) fb,by omega,by omega,by omega⟩)
theorem gk_ (k size:Nat):B_ k size<=4*((size+127) / 128):=by
 have h:=bo_ k ((size+127) / 128) 0 0
 rw [B_]
 omega
theorem hL_ (s:Ky) (h:s.length<=300):(encI (.txt s)).length<=s.length+3:=by
 have h1:=(x_ 1 s.length (by omega)).2
 simp only [encI,List.length_cons,List.length_append]
 omega
theorem wP_le: ∀(l:List Pr),(∀p∈l,bd_ p)->wP l<=329*l.length
 | [],_=> by simp [wP_nil]
 | p::l,h=> by
  have ih:=wP_le l (fun x hx=> h x (List.mem_cons_of_mem _ hx))
  obtain⟨h1,h2,h3⟩:=h p (by simp)
  have h4:=aO_ p.1 (by omega)
  have h5:=hL_ p.2 h3
  have e:wP (p::l)=wP [p]+wP l:=cP_ [p] l
  have e2:wP [p]=(encI (.txt p.1)).length+(encI (.txt p.2)).length:=by
   rw [wP,List.flatMap_cons,List.flatMap_nil,List.append_nil,q_,q_]
   simp [encL]
  rw [e,e2,List.length_cons]
  omega
theorem hB_: ∀(t:List (Pc n)),(∀k∈t,NdT L n k.2.2)->t.length<=(prsP t).length
 | [],_=> Nat.le_refl _
 | k::t,h=> by
  have ih:=hB_ t (fun x hx=> h x (List.mem_cons_of_mem _ hx))
  have h1:=List.length_pos_iff.2 (h k (by simp)).ne
  rw [u_,List.length_append,List.length_cons]
  omega
theorem unwC_le: ∀(n:Nat) (r:Rf n),NdT L n r.2->unwC 1 n r<=(12+4*n)*(prs n r.2).length
 | 0,r,h=> by
  have h1:=gk_ 1 (szF 0 r.2)
  have h2:szF 0 r.2=2+wP (prs 0 r.2):=sz0' r.2
  have h3:=wP_le (prs 0 r.2) h.srt.2
  have h4:1<=(prs 0 r.2).length:=List.length_pos_iff.2 h.ne
  rw [unwC]
  split <;> omega
 | n+1,r,h=> by
  have hk: ∀k∈(r.2:List (Pc n)),NdT L n k.2.2:=fun k hk=> (h.kid (t:=r.2) hk).nd
  have h1:=gk_ 1 (szF (n+1) r.2)
  have hok:PcsOk L n r.2:=h.nb
  have h2:szF (n+1) r.2<=78*List.length (α:=Pc n) r.2+2:=fG_ hok
  have h3:List.length (α:=Pc n) r.2<=(prsP (n:=n) r.2).length:=hB_ _ hk
  have h0:1<=List.length (α:=Pc n) r.2:=List.length_pos_iff.2 h.nil
  have h4: ∀t:List (Pc n),(∀k∈t,NdT L n k.2.2)->(t.map (fun k=> unwC 1 n k.2)).sum<=(12+4*n)*(prsP t).length:=fun t ht=> by
   induction t with
   | nil=> simp
   | cons k t ih=>
    have ih:=ih (fun x hx=> ht x (List.mem_cons_of_mem _ hx))
    have hk:=unwC_le n k.2 (ht k (by simp))
    rw [List.map_cons,List.sum_cons,u_,List.length_append,Nat.mul_add]
    omega
  have h5:=h4 r.2 hk
  have e:(prs (n+1) r.2).length=(prsP (n:=n) r.2).length:=rfl
  have e2:(12+4*(n+1))*(prsP (n:=n) r.2).length=(12+4*n)*(prsP (n:=n) r.2).length+4*(prsP (n:=n) r.2).length:=by
   rw [show 12+4*(n+1)=(12+4*n)+4 by omega,Nat.add_mul]
  have key:B_ 1 (szF (n+1) r.2)+List.sum (List.map (α:=Pc n) (fun k=> unwC 1 n k.2) r.2)<=(12+4*(n+1))*(prs (n+1) r.2).length:=by
   rw [e,e2]
   omega
  show unwC 1 (n+1) r<=_
  unfold unwC
  split
  ·exact Nat.zero_le _
  ·exact key
theorem fb_ (o:Option Ptr4) (t:List (Pc n)) (ih: ∀k:Pc n,(ae_ n k.2).1<=n):(ae_ (n+1) (o,t)).1<=n+1:=by
 cases o with
 | some q=> rw [aa_ (some q) t (.inl rfl)];exact Nat.le_refl _
 | none=>
  match t with
  | []=> rw [aa_ none [] (.inr (.inr rfl))];exact Nat.le_refl _
  | [k]=> exact Nat.le_succ_of_le (ih k)
  | x::y::r=> rw [aa_ none (x::y::r) (.inr (.inl (by simp)))];exact Nat.le_refl _
theorem hO_: ∀(n:Nat) (r:Rf n),(ae_ n r).1<=n
 | 0,_=> Nat.le_refl _
 | n+1,r=> fb_ r.1 r.2 (fun k=> hO_ n k.2)
def HtOk (m:Nat):Root->Prop
 | none=> True
 | some ⟨n,x⟩=> ∃H,n<=H/\(1<=H->12*H+2<=2*m+7)/\(n=H->1<=H->12*H+x.2.length<=2*m+7)
theorem HtOk.mono {m m':Nat} (h:HtOk m r) (hm:m<=m'):HtOk m' r:=by
 cases r with
 | none=> trivial
 | some x=>
  obtain⟨n,x⟩:=x
  obtain⟨H,h1,h2,h3⟩:=h
  exact⟨H,h1,fun h=> by have:=h2 h;omega,fun e h=> by have:=h3 e h;omega⟩
theorem gm_ (o:Option Ptr4) (t:List (Pc n)) {m H:Nat} (hn:n+1<=H) (h1:1<=H->12*H+2<=2*m+7) (h2:n+1=H->1<=H->12*H+t.length<=2*m+7):HtOk m (some (ae_ (n+1) (o,t))):=by
 have same:ae_ (n+1) (o,t)=⟨n+1,(o,t)⟩->HtOk m (some (ae_ (n+1) (o,t))):=fun e=> by
  rw [e];exact⟨H,hn,h1,h2⟩
 cases o with
 | some q=> exact same (aa_ _ _ (.inl rfl))
 | none=>
  match t,same with
  | [],same=> exact same (aa_ _ _ (.inr (.inr rfl)))
  | x::y::r,same=> exact same (aa_ _ _ (.inr (.inl (by simp))))
  | [k],_=>
   have h3:=hO_ n k.2
   show HtOk m (some (ae_ n k.2))
   revert h3
   generalize ae_ n k.2=z
   intro h3
   obtain⟨n',x'⟩:=z
   have h3:n'<=n:=h3
   exact⟨H,by omega,h1,fun e=> by omega⟩
theorem cd_:{n:Nat}->(r:Rf n)->{m H:Nat}->(hn:n<=H)->(h1:1<=H->12*H+2<=2*m+7)->(h2:n=H->1<=H->12*H+r.2.length<=2*m+7)->HtOk m (some (ae_ n r))
 | 0,_,_,H,hn,h1,h2=> ⟨H,hn,h1,h2⟩
 | _+1,r,_,_,hn,h1,h2=> gm_ r.1 r.2 hn h1 h2
theorem bN_: ∀(m:Nat) (t:List (El n)) (key:Ky),t.length<=m-> ∀x∈i_ n t key,x.2.1=none
 | m,t,key,hm,x,hx=> by
  by_cases h0:t= []
  ·subst h0;rw [X_] at hx;cases hx
  by_cases hs:szF n t<=1024
  ·rw [K_ key h0 hs] at hx
   rw [List.mem_singleton.1 hx]
  by_cases h2:2<=t.length
  ·obtain⟨c1,c2⟩:=cu_ n t.length h2
   rw [bt_ key h2 hs] at hx
   match m,hm with
   | 0,hm=> omega
   | m+1,hm=>
   rcases List.mem_append.1 hx with hx | hx
   ·exact bN_ m _ _ (by rw [List.length_take];omega) x hx
   ·exact bN_ m _ _ (by rw [List.length_drop];omega) x hx
  ·have h1:=List.length_pos_iff.2 h0
   rw [i_,if_neg (by omega),if_neg hs,dif_pos (by omega)] at hx
   cases hx
def WOk (f:List Pr->Except Int (List Pr)):Prop:= ∀t l,wP t<=1022->f t= .ok l->wP l<=1351
def EdC (L:List Blk):(n:Nat)->Rf n->List (Pc n)->Prop
 | 0,_,l=> ∃t':List Pr,l=i_ 0 t' []/\wP t'<=1351
 | n+1,r,l=> ∃T:List (Pc n),l=i_ (n+1) T []/\PcsOk L n T/\T.length<=List.length (α:=Pc n) r.2+2
theorem ft_ {k:Ky} {l:List (Pc n)} (h: ∀x∈l,x.2.1=none): ∀x∈j_ k l,x.2.1=none:=by
 cases l with
 | nil=> exact h
 | cons a r=>
  intro x hx
  rcases List.mem_cons.1 hx with rfl | hx
  ·exact h a (by simp)
  ·exact h x (List.mem_cons_of_mem _ hx)
theorem tid_lvl0 {t sub:List (Pc 0)} (ht:PcsOk L 0 t) (hi:i < t.length) (hn: ∀x∈sub,x.2.1=none) (hw:wL sub<=1351):(n_ 0 (allF t i sub)).1.length<=t.length+2:=by
 by_cases h0:sub= []
 ·subst h0
  have h1:=cg_ _ (allF t i []) (Nat.le_refl _)
  have h2:=fi_ t i [] hi
  simp only [List.length_nil] at h2
  omega
 ·have h3:PcsOk L 0 (j_ [] t):=ht.withKey (k:= []) (by simp)
  have h1:=ez_ _ ((j_ [] t).take i) (j_ (y_ (j_ [] t) i) sub) (t.drop (i+1)) (Nat.le_refl _) (fun e=> h0 (by cases sub with
   | nil=> rfl
   | cons a r=> cases e)) (ft_ hn) (fun x hx=> by
    have h4:=(h3.all x (List.mem_of_mem_take hx)).nd.sz
    rw [sz0'] at h4
    show wP (prs 0 x.2.2)<=_
    omega) (by rw [wL,ap_];exact Nat.le_trans hw (by decide))
  rw [List.length_take,List.length_drop,Q_] at h1
  rw [allF]
  omega
theorem eW_ (hf:EdF key f) (hw:WOk f) (o:Option Ptr4) (t:List (Pc n)) (h:NdT L (n+1) t) (ih: ∀k:Pc n,NdT L n k.2.2-> ∀l',f (prs n k.2.2)= .ok l'-> ∀sub g,ay_ n k.2 key f= .ok (sub,g)->EdC L n k.2 sub) (l':List Pr) (hl:f (prsP t)= .ok l') (sub:List (Pc (n+1))) (g:List Ptr4) (he:ay_ (n+1) (o,t) key f= .ok (sub,g)):EdC L (n+1) (o,t) sub:=by
 have hko:=h.kidOk (t:=t) key
 obtain⟨i,hi⟩: ∃i,i=kidF t key:=⟨_,rfl⟩
 rw [<-hi] at hko
 have hnb:PcsOk L n t:=h.nb
 obtain⟨k,hk⟩: ∃k:Pc n,t[i]? =some k:=⟨_,List.getElem?_eq_getElem hko.lt⟩
 have hpk:=hnb.all k (List.mem_of_getElem? hk)
 have hpr:prsP t=prsP (t.take i)++prs n k.2.2++prsP (t.drop (i+1)):=prs_at hk
 have hloc:=hf.loc _ (prs n k.2.2) _ hko.A hko.B
 rw [<-hpr] at hloc
 have hes:=cI_ (o,t) key f (k:=k) (by show t[kidF t key]? =some k;rw [<-hi];exact hk)
 have hes:ay_ (n+1) (o,t) key f=(match ay_ n k.2 key f with | .error e=> .error e | .ok (sub,g)=> .ok (i_ (n+1) (n_ n (allF t (kidF t key) sub)).1 [],o.toList++g++(n_ n (allF t (kidF t key) sub)).2)):=hes
 rw [<-hi] at hes
 rw [hloc] at hl
 cases hfk:f (prs n k.2.2) with
 | error e2=> rw [hfk] at hl;cases hl
 | ok l2=>
  obtain⟨sub1,g1,hed,hok⟩:=(cH_ hf n k.2 hpk.nd).2 l2 hfk
  have hcnt:=ih k hpk.nd l2 hfk sub1 g1 hed
  rw [hes,hed] at he
  injection he with he
  have he:=(Prod.mk.inj he).1
  obtain⟨⟨ha1, -, -⟩, -⟩:=eX_ hf h hko hk hfk hok
  have htd:=bs_ _ _ (Nat.le_refl _) ha1
  refine⟨(n_ n (allF t i sub1)).1,he.symm,htd.ok, ?_⟩
  show _<=t.length+2
  clear hes hed he hloc hl hpr htd ha1
  cases n with
  | zero=>
   obtain⟨t',hs,hw'⟩:=hcnt
   have hpn:prsP sub1=l2:=hok.pr
   have h5:wP (prs 0 k.2.2)<=1022:=by
    have h4:szF 0 k.2.2<=1024:=hpk.nd.sz
    rw [sz0'] at h4
    omega
   exact tid_lvl0 hnb hko.lt (by rw [hs];exact bN_ _ _ _ (Nat.le_refl _)) (by rw [wL,hpn];exact hw _ _ h5 hfk)
  | succ n=>
   obtain⟨T',hs,hok',hle⟩:=hcnt
   have h6:List.length (α:=Pc n) k.2.2<=23:=NdT.few (t:=k.2.2) hpk.nd
   have h7:sub1.length<=2:=by
    rcases eP_ [] hok' (by omega) with ⟨_,e⟩ | ⟨_,e⟩ | ⟨_,a,b,k2,e,_⟩ <;> (rw [hs,e];simp)
   have h1:=cg_ _ (allF t i sub1) (Nat.le_refl _)
   have h2:=fi_ t i sub1 hko.lt
   omega
theorem hM_ (hf:EdF key f) (hw:WOk f): ∀(n:Nat) (r:Rf n),NdT L n r.2-> ∀l',f (prs n r.2)= .ok l'-> ∀sub g,ay_ n r key f= .ok (sub,g)->EdC L n r sub
 | 0,r,h,l',hl,sub,g,he=> by
  have hl:f r.2= .ok l':=hl
  rw [bn_,hl] at he
  injection he with he
  have he:=(Prod.mk.inj he).1
  have h1:szF 0 r.2<=1024:=h.sz
  rw [sz0'] at h1
  exact⟨l',he.symm,hw r.2 l' (by show wP (prs 0 r.2)<=_;omega) hl⟩
 | n+1,r,h,l',hl,sub,g,he=> eW_ hf hw r.1 r.2 h (fun k hk=> hM_ hf hw n k.2 hk) l' hl sub g he
theorem hF_ (l:List (Pc 0)) (hn: ∀x∈l,x.2.1=none) (hw:wL l<=1351) (hok:PcsOk L 0 l) (fuel:Nat) (hfu:l.length<=fuel) {m H:Nat} (h1:1<=H->12*H+2<=2*m+7) (h2:2<=l.length->4<=m):HtOk m (O_ fuel 0 l).1:=by
 have hd: ∀l':List (Pc 0),l'.length<=1->HtOk m (gP_ l'):=fun l' hl=> by
  match l',hl with
  | [],_=> trivial
  | [y],_=> exact cd_ (n:=0) y.2 (H:=H) (Nat.zero_le _) h1 (fun e h=> by omega)
 by_cases hl:l.length<=1
 ·rw [aV_ fuel l hl]
  exact hd l hl
 match fuel,hfu with
 | 0,hfu=> omega
 | fuel+1,hfu=>
 have ht:=bs_ l.length l (Nat.le_refl _) hok
 by_cases hl2:(n_ 0 l).1.length<=1
 ·rw [bR_ fuel l hl hl2]
  exact hd _ hl2
 ·rw [bS_ fuel l hl hl2]
  have h3:=ez_ 0 [] l [] (Nat.le_refl _) (fun e=> by rw [e] at hl;simp at hl) hn (fun x hx=> by cases hx) (by omega)
  simp only [List.nil_append,List.append_nil,List.length_nil] at h3
  obtain⟨T,hT⟩: ∃T,T=(n_ 0 l).1:=⟨_,rfl⟩
  have hto:=ht.ok
  rw [<-hT] at h3 hl2 hto
  rw [<-hT]
  rcases eP_ [] hto (by omega) with ⟨e,_⟩ | ⟨_,e⟩ | ⟨h4,_⟩
  ·rw [e] at hl2;simp at hl2
  ·rw [show i_ (0+1) T []= [pcI [] T] from e]
   rw [aV_ fuel [pcI [] T] (by simp)]
   have h4:=h2 (by omega)
   show HtOk m (some (ae_ 1 (none,T)))
   rcases Nat.eq_zero_or_pos H with hH | hH
   ·exact cd_ (n:=1) (none,T) (H:=1) (Nat.le_refl _) (fun _=> by omega) (fun _ _=> by show 12*1+T.length<=_;omega)
   ·have h5:=h1 hH
    exact cd_ (n:=1) (none,T) (H:=H) hH h1 (fun e _=> by subst e;show 12*1+T.length<=_;omega)
  ·omega
theorem do_ht (hf:EdF key f) (hw:WOk f) (r:Root) (h:RtOk L r) {m:Nat} (hm:HtOk m r) (hp:(p_ r).length<=m) {l':List Pr} (hl:f (p_ r)= .ok l') {r':Root} {g:List Ptr4} (hd:doF r key f= .ok (r',g)):HtOk (m+1) r':=by
 cases r with
 | none=>
  have hl:f []= .ok l':=hl
  obtain⟨h1,h2, -,h4⟩:=hf.ok [] l' List.Pairwise.nil (fun p hp=> by cases hp) hl
  simp only [List.length_nil] at h4
  have hp:=av_ (L:=L) (n:=0) l'.length l' [] (Nat.le_refl _) ⟨h1,h2⟩ (by show l'.length<=900;omega) (by simp)
  have hwp:=hw [] l' (by simp [wP_nil]) hl
  rw [doF] at hd
  simp only [hl] at hd
  injection hd with hd
  have hd:=congrArg Prod.fst hd
  subst hd
  refine hF_ (H:=0) _ hp.new (by rw [wL,hp.pr];exact hwp) hp.ok _ (Nat.le_refl _) (fun h=> by omega) (fun h2l=> ?_)
  exfalso
  have hwl:=wP_le l' h2
  by_cases h0:l'= []
  ·have e:i_ 0 l' []= []:=by rw [h0];exact X_ 0 []
   rw [e] at h2l;simp at h2l
  ·have e:=K_ (n:=0) (t:=l') [] h0 (by rw [sz0];omega)
   rw [e] at h2l;simp at h2l
 | some x=>
  obtain⟨n,x⟩:=x
  have hl:f (prs n x.2)= .ok l':=hl
  obtain⟨sub,g1,hs,hok⟩:=(cH_ hf n x h.2).2 l' hl
  have hcnt:=hM_ hf hw n x h.2 l' hl sub g1 hs
  rw [doF] at hd
  simp only [hs] at hd
  injection hd with hd
  have hd:=(Prod.mk.inj hd).1
  subst hd
  obtain⟨H,hH1,hH2,hH3⟩:=hm
  have hH2':1<=H->12*H+2<=2*(m+1)+7:=fun h=> by have:=hH2 h;omega
  cases n with
  | zero=>
   have hsub:sub=i_ 0 l' []:=by
    have e:=hs
    rw [bn_,show f x.2= .ok l' from hl] at e
    injection e with e
    exact(Prod.mk.inj e).1.symm
   have hnew: ∀x∈sub,x.2.1=none:=by rw [hsub];exact bN_ _ _ _ (Nat.le_refl _)
   have h1:szF 0 x.2<=1024:=h.2.sz
   rw [sz0'] at h1
   have hsr:=h.2.srt
   obtain⟨-,h2, -,h4⟩:=hf.ok _ l' hsr.1 hsr.2 hl
   have hp':(prs 0 x.2).length<=m:=hp
   refine hF_ sub hnew (by rw [wL,hok.pr];exact hw _ _ (by omega) hl) hok.ok _ (Nat.le_refl _) hH2' (fun h2l=> ?_)
   by_cases h0:l'= []
   ·have e:i_ 0 l' []= []:=by rw [h0];exact X_ 0 []
    rw [hsub,e] at h2l;simp at h2l
   ·by_cases hz:szF 0 l'<=1024
    ·have e:=K_ (n:=0) (t:=l') [] h0 hz
     rw [hsub,e] at h2l;simp at h2l
    ·have hwl:=wP_le l' h2
     rw [sz0] at hz
     omega
  | succ n=>
   obtain⟨T,hsub,hTok,hTl⟩:=hcnt
   have hc:List.length (α:=Pc n) x.2<=23:=h.2.few (t:=x.2)
   have hx2:List.length (α:=El (n+1)) x.2=List.length (α:=Pc n) x.2:=rfl
   rcases eP_ [] hTok (by omega) with ⟨_,e⟩ | ⟨_,e⟩ | ⟨h14,a,b,k2,e,hab,ha1,hb1⟩
   ·rw [hsub,e]
    trivial
   ·rw [hsub,e,aV_ _ [pcI [] T] (by simp)]
    show HtOk (m+1) (some (ae_ (n+1) (none,T)))
    exact cd_ (n:=n+1) (none,T) hH1 hH2' (fun e h=> by
     have h3:=hH3 e h
     show 12*H+T.length<=_
     omega)
   ·have hsp:PcsOk L (n+1) sub:=hok.ok
    have e':sub= [pcI [] a,pcI k2 b]:=by rw [hsub,e]
    subst e'
    have hno: ¬([pcI [] a,pcI k2 b].length<=1):=by simp
    have hnb: ¬((pcI [] a).2.1.isSome=true/\(pcI k2 b).2.1.isSome=true):=by simp [pcI]
    by_cases hj:szF (n+1) (s_ (n+1) a k2 b)<=1024
    ·have et:n_ (n+1) [pcI [] a,pcI k2 b]=([((([]:Ky),none,s_ (n+1) a k2 b):Pc (n+1))],[]):=by
      have e1:=aS_ (x:=pcI [] a) (y:=pcI k2 b) [] hnb hj
      rw [bC_] at e1
      exact e1
     rw [show [pcI [] a,pcI k2 b].length=1+1 from rfl,bR_ 1 _ hno (by rw [et];simp),et]
     show HtOk (m+1) (some (ae_ (n+1) (none,s_ (n+1) a k2 b)))
     exact cd_ (n:=n+1) (none,s_ (n+1) a k2 b) hH1 hH2' (fun e h=> by
      have h3:=hH3 e h
      have h4:=congrArg (List.length (α:=Pc n)) (em_ a b k2)
      rw [List.length_append,Q_] at h4
      show 12*H+List.length (α:=Pc n) (s_ (n+1) a k2 b)<=_
      omega)
    ·have et:n_ (n+1) [pcI [] a,pcI k2 b]=([pcI [] a,pcI k2 b],[]):=by
      have e1:=bf_ (x:=pcI [] a) (y:=pcI k2 b) [] hj
      rw [bC_] at e1
      exact e1
     rw [show [pcI [] a,pcI k2 b].length=1+1 from rfl,bS_ 1 _ hno (by rw [et];simp),et]
     rcases eP_ [] hsp (by simp) with ⟨e3,_⟩ | ⟨_,e3⟩ | ⟨h4,_⟩
     ·cases e3
     ·show HtOk (m+1) (O_ 1 (n+1+1) (i_ (n+1+1) [pcI [] a,pcI k2 b] [])).1
      rw [show i_ (n+1+1) [pcI [] a,pcI k2 b] []= [pcI [] [pcI [] a,pcI k2 b]] from e3,aV_ 1 [pcI [] [pcI [] a,pcI k2 b]] (by simp)]
      show HtOk (m+1) (some (ae_ (n+2) (none,[pcI [] a,pcI k2 b])))
      rcases Nat.lt_or_ge (n+1) H with hlt | hge
      ·exact cd_ (n:=n+2) (none,[pcI [] a,pcI k2 b]) (H:=H) hlt hH2' (fun _ h=> by
        have:=hH2 h
        show 12*H+2<=_
        omega)
      ·have hHe:n+1=H:=by omega
       have h3:=hH3 hHe (by omega)
       refine cd_ (n:=n+2) (none,[pcI [] a,pcI k2 b]) (H:=n+2) (Nat.le_refl _) (fun _=> by omega) (fun _ _=> ?_)
       show 12*(n+2)+2<=_
       omega
     ·simp at h4
theorem wP_cut (t:List Pr) {a b:Nat} (h:a<=b):wP (t.take a)+wP (t.drop b)<=wP t:=by
 have h1:wP t=wP (t.take a)+wP (t.drop a):=by rw [<-cP_,List.take_append_drop]
 have h2:wP (t.drop a)=wP ((t.drop a).take (b - a))+wP (t.drop b):=by
  rw [<-cP_]
  have e:t.drop b=(t.drop a).drop (b - a):=by rw [List.drop_drop];congr 1;omega
  rw [e,List.take_append_drop]
 omega
theorem put_w {key val:Ky} (hk:key.length<=24) (hv:val.length<=300):WOk (putF key val):=by
 intro t l ht hl
 rw [putF] at hl
 injection hl with hl
 subst hl
 have h1:=wP_cut t (show atF t key<=atF t key+(if U_ t key then 1 else 0) by omega)
 have h2:wP [(key,val)]<=329:=by
  have h4:=aO_ key (by omega)
  have h5:=hL_ val hv
  have e2:wP [(key,val)]=(encI (.txt key)).length+(encI (.txt val)).length:=by
   rw [wP,List.flatMap_cons,List.flatMap_nil,List.append_nil,q_,q_]
   simp [encL]
  rw [e2]
  omega
 rw [cP_,cP_]
 omega
theorem unwR_le (h:RtOk L r) {m:Nat} (hm:HtOk m r) (hp:(p_ r).length<=m):unwR 1 r<=(12+4*((2*m+5) / 12))*(p_ r).length:=by
 cases r with
 | none=> exact Nat.zero_le _
 | some x=>
  obtain⟨n,x⟩:=x
  obtain⟨H,h1,h2,h3⟩:=hm
  have h4:=unwC_le n x h.2
  refine Nat.le_trans h4 (Nat.mul_le_mul_right _ ?_)
  rcases Nat.eq_zero_or_pos H with h5 | h5
  ·omega
  ·have:=h2 h5
   omega
theorem PutsR.room (p:PutsR y v v' L L' ms) {q C:Int} (hf:v.spc.free= [(q,C)]) (hq:0<=q) (hC:C<=40000) (hb:v.spc.back=0) {z U:Nat} (hz:F_ y.k ms+z<=U) (hU:q+U < C): ¬NoRoomZ y.k v' z:=fun hno=> by
 have h1:=p.one q C hf hq hC (by omega)
 exact hno.not h1 (by rw [p.back];exact hb) (by omega)
end Go.Proofs.YtkpgjkekmdecbaaGreat
