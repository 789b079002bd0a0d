/- Lemmas for the claim. No conditions beside those that each states. -/
import Derived.Test.YtkpgjkekmdecbaaGreatOrdAX
import Derived.Test.YtkpgjkekmdecbaaGreatOrdAV
import Derived.Test.YtkpgjkekmdecbaaGreatOrdAY
set_option maxRecDepth 100000
set_option maxHeartbeats 8000000
set_option linter.all false

namespace Go.Proofs.YtkpgjkekmdecbaaGreat
open Go.RowKit
variable {w w' W:World} {T:TypeId} {gv:Value} {n i g tb cb k:Nat} {S:List Nat} {leaf:Bool} {Av:Nat -> Prop} {err:Int} {key:Ky} {q:Ptr4} {ks:List Ky} {yv:Rfm} {rs:List Rfm} {ms:List Ptr4} {f:List Pr -> Except Int (List Pr)} {y:Sy} {v v':Sv} {L L':List Blk} {s:TS} {r:Root}
def DF (y:Sy) (tb:Nat) (w w':World):Prop:= ∃S,Ext S w w'/\ ∀k∈S,SyOk y w k\/k=tb
theorem DF.of (h:SyF y w w'):DF y tb w w':=by
 obtain⟨S,h1,h2⟩:=h
 exact⟨S,h1,fun k hk=> .inl (h2 k hk)⟩
theorem DF.of0 (h:Ext [] w w'):DF y tb w w':=⟨[],h,by simp⟩
theorem DF.tree {a b c:World} (h:SyF y a b) (k:Ext [tb] b c):DF y tb a c:=by
 obtain⟨S,h1,h2⟩:=h
 refine⟨tb::S,h1.trans' k (fun x hx=> .inl (List.mem_cons_of_mem _ hx)) (fun x hx=> .inl (by simp at hx;simp [hx])),fun x hx=> ?_⟩
 rcases List.mem_cons.1 hx with rfl | hx
 ·exact .inr rfl
 ·exact .inl (h2 x hx)
def DoPost (y:Sy) (v:Sv) (L:List Blk) (tb:Nat) (yv:Rfm) (gv:Value) (s:TS) (res:Except Int (Root×List Ptr4)) (w:World) (e:Ending) (w':World):Prop:=
 match res with
 | .error k=> ∃v',e= .returned (.int .i64 k)/\SyR w' y v'/\SameV v v'/\Dsk y v' L/\TreeR w' y tb yv gv s/\DF y tb w w'
 | .ok z=> ∃yv' gv' v',e= .returned (.int .i64 0)/\SyR w' y v'/\SameV v v'/\Dsk y v' L/\TreeR w' y tb yv' gv' ⟨z.1,s.gone++z.2,true⟩/\DF y tb w w'/\ ∀g∈blkL gv',w.heap.size<=g
theorem set8 {a0 a1 a2 a3 a4 a5 a6 a7:Value} (h:W.heap[g]? =some (.cells #[a0,a1,a2,a3,a4,a5,a6,a7] T (0,0))) (b1 b2 b3 b4 b5 b6 b7:Value):
  (((((((W.setCell ⟨g,1,none⟩ b1).setCell ⟨g,2,none⟩ b2).setCell ⟨g,3,none⟩ b3).setCell ⟨g,4,none⟩ b4).setCell ⟨g,5,none⟩ b5).setCell ⟨g,6,none⟩ b6).setCell ⟨g,7,none⟩ b7).heap[g]? =some (.cells #[a0,b1,b2,b3,b4,b5,b6,b7] T (0,0))/\
  Ext [g] W (((((((W.setCell ⟨g,1,none⟩ b1).setCell ⟨g,2,none⟩ b2).setCell ⟨g,3,none⟩ b3).setCell ⟨g,4,none⟩ b4).setCell ⟨g,5,none⟩ b5).setCell ⟨g,6,none⟩ b6).setCell ⟨g,7,none⟩ b7):=by
 have h1:(W.setCell ⟨g,1,none⟩ b1).heap[g]? =some (.cells #[a0,b1,a2,a3,a4,a5,a6,a7] T (0,0)):=heap_setCell_same W g 1 _ _ b1 h
 have h2:((W.setCell ⟨g,1,none⟩ b1).setCell ⟨g,2,none⟩ b2).heap[g]? =some (.cells #[a0,b1,b2,a3,a4,a5,a6,a7] T (0,0)):=heap_setCell_same _ g 2 _ _ b2 h1
 have h3:=heap_setCell_same _ g 3 _ _ b3 h2
 have h3:(((W.setCell ⟨g,1,none⟩ b1).setCell ⟨g,2,none⟩ b2).setCell ⟨g,3,none⟩ b3).heap[g]? =some (.cells #[a0,b1,b2,b3,a4,a5,a6,a7] T (0,0)):=h3
 have h4:((((W.setCell ⟨g,1,none⟩ b1).setCell ⟨g,2,none⟩ b2).setCell ⟨g,3,none⟩ b3).setCell ⟨g,4,none⟩ b4).heap[g]? =some (.cells #[a0,b1,b2,b3,b4,a5,a6,a7] T (0,0)):=heap_setCell_same _ g 4 _ _ b4 h3
 have h5:(((((W.setCell ⟨g,1,none⟩ b1).setCell ⟨g,2,none⟩ b2).setCell ⟨g,3,none⟩ b3).setCell ⟨g,4,none⟩ b4).setCell ⟨g,5,none⟩ b5).heap[g]? =some (.cells #[a0,b1,b2,b3,b4,b5,a6,a7] T (0,0)):=heap_setCell_same _ g 5 _ _ b5 h4
 have h6:((((((W.setCell ⟨g,1,none⟩ b1).setCell ⟨g,2,none⟩ b2).setCell ⟨g,3,none⟩ b3).setCell ⟨g,4,none⟩ b4).setCell ⟨g,5,none⟩ b5).setCell ⟨g,6,none⟩ b6).heap[g]? =some (.cells #[a0,b1,b2,b3,b4,b5,b6,a7] T (0,0)):=heap_setCell_same _ g 6 _ _ b6 h5
 exact⟨heap_setCell_same _ g 7 _ _ b7 h6,(((((((Ext.refl [g] W).setCell (.inl (by simp)) _).setCell (.inl (by simp)) _).setCell (.inl (by simp)) _).setCell (.inl (by simp)) _).setCell (.inl (by simp)) _).setCell (.inl (by simp)) _).setCell (.inl (by simp)) _⟩
theorem TreeR.cf (h:TreeR w y tb yv gv s) (hy:SyR w y v) (hf:CF y cb w w') (hlt: ∀g∈blkL gv,g < cb):TreeR w' y tb yv gv s:=by
 obtain⟨S,h1,h2⟩:=hf.noNode hy
 obtain⟨S',h1',h2'⟩:=hf
 refine⟨h1.blk h.blk (fun hm=> h2 tb hm _ (by decide) (d_ h.blk)), ?_, ?_⟩
 ·have hr:=h.root
  cases hs:s.root with
  | none=> rw [hs] at hr;exact hr
  | some x=>
   rw [hs] at hr
   exact KidR.mono hr (fun b hn=> NodeR.ext h1 (fun k hk T hT=> h2 k hk T (by revert T;decide)) _ b _ hn)
 ·refine h.gone.ext h1' (fun g hg hm=> ?_)
  have htg:=h.gone.tagOf g hg
  rcases h2' g hm with h3 | h3
  ·rcases h3 with h3 | ⟨T,h3,h4,_⟩
   ·simp only [List.mem_cons,List.not_mem_nil,or_false] at h3
    rcases h3 with rfl | rfl | rfl
    ·rw [hy.st.tag] at htg;cases htg
    ·rw [hy.rk.tag.1] at htg;cases htg
    ·rw [hy.sp.tag] at htg;cases htg
   ·rw [h4] at htg
    cases htg
    revert h3
    decide
  ·have:=hlt g hg;omega
theorem trdo_c (hf:EdF key f) (he7: ∀l e,f l= .error e->e=7) (fk:Fk) (y:Sy) (v:Sv) (tb:Nat) (yv:Rfm) (gv:Value) (s:TS) (w:World) (h:SyR w y v) (hd:Dsk y v L) (ht:TreeR w y tb yv gv s) (hr:RtOk L s.root) (hfk:FkR w key f fk) (hbl:(au_ s.root).length<=40000) (hgl:s.gone.length<=900000):
  Calls Tryz.prog 41 #[.pointer (some ⟨tb,0,none⟩),.string ⟨key.toArray⟩,fkV fk] w (DoPost y v L tb yv gv s (doF s.root key f) w):=by
 obtain⟨res,hres⟩: ∃z,z=doF s.root key f:=⟨_,rfl⟩
 rw [<-hres]
 have HRES:=hi_ hres
 have hE0:Ext [] w (w.alloc (.cells #[.pointer (some ⟨y.b,0,none⟩),.slice none 0 0] 146)):=(Ext.refl [] w).alloc _
 have hch:ChR (w.alloc (.cells #[.pointer (some ⟨y.b,0,none⟩),.slice none 0 0] 146)) y w.heap.size []:=⟨.slice none 0 0,heap_alloc_new w _,.inl ⟨rfl,rfl⟩,by simp [blkL]⟩
 have hcs:CS y v L w.heap.size [] (w.alloc (.cells #[.pointer (some ⟨y.b,0,none⟩),.slice none 0 0] 146)):=⟨h.ext0 hE0,hd,hch⟩
 have ht0:=ht.ext0 hE0
 obtain⟨c0, -⟩:=ht.cells
 obtain⟨-,c1,c2,c3,c4,c5,c6,c7⟩:=ht0.cells
 obtain⟨pv,hpv⟩: ∃q,q=Option.map (fun b=> (⟨b,0,none⟩:Addr)) yv.2:=⟨_,rfl⟩
 simp only [ptV] at c5
 rw [<-hpv] at c5
 have hnone:=fun W=> hg_ W _ yv s.root L ht0.root hr.good (fun x hx=> (hd.std x hx).1)
 simp only [refV,ptV] at hnone
 rw [<-hpv] at hnone
 obtain⟨HN,HPV,HCS,HT,HR,HF,HE7⟩:=h_7 hnone hpv hcs ht0 hr hf he7
 have HFK:=hi_ (hfk.ext0 hE0)
 have HE0:=hi_ hE0
 obtain⟨cb,hcb⟩: ∃b,b=w.heap.size:=⟨_,rfl⟩
 have HCB:=hi_ hcb
 rw [<-hcb] at HCS
 have HLT:Hid (∀g∈blkL gv,g < cb):=hi_ (fun g hg=> by rw [hcb];exact ht.gone.lt g hg)
 obtain⟨pg,cg,hgv,_⟩:=ht.gone.rd.len_eq
 obtain⟨G,hG⟩: ∃G,G=s.gone.length:=⟨_,rfl⟩
 have HG:=hi_ hG
 rw [<-hG] at hgl hgv
 subst hgv
 clear h hd ht hr hf he7 hfk hres hE0 hch hcs ht0 hpv hnone hcb hG
 go_enter Tryz.func41,Tryz.ntmps41
 go_wp2_with fail
 simp only [<-HCB.out]
 refine(HN.out _).mono ?_
 rintro e W1 ⟨rfl,hE1⟩
 have HCS1:=hi_ (HCS.out.ext0 hE1)
 have HT1:=hi_ (HT.out.ext0 hE1)
 have HFK1:=hi_ (HFK.out.ext0 hE1)
 have HE1:=hi_ (HE0.out.trans hE1)
 have k1:=hE1.cell c1 (by simp)
 have k2:=hE1.cell c2 (by simp)
 have k3:=hE1.cell c3 (by simp)
 have k4:=hE1.cell c4 (by simp)
 have k5:=hE1.cell c5 (by simp)
 clear hE1 HN HCS HT HFK HE0 c0 c1 c2 c3 c4 c5 c6 c7
 cases hroot:s.root with
 | none=>
  simp only [decide_true]
  have hres0:res=(match f [] with | .error e=> .error e | .ok l=> .ok (O_ (i_ 0 l []).length 0 (i_ 0 l []))):=by
   rw [HRES.out,hroot];rfl
  have HRES0:=hi_ hres0
  clear hres0
  cases fk with
  | drop kb=>
   simp only [fkV]
   obtain⟨hs1,hfe⟩:=HFK1.out
   have hf0:f []= .error 7:=by rw [hfe];rfl
   have hc:=fB_ kb key (.slice none 0 0) [] W1 hs1 (.inl ⟨rfl,rfl⟩) List.Pairwise.nil (by simp)
   rw [<-hfe,hf0] at hc
   have hr0:=HRES0.out
   rw [hf0] at hr0
   obtain⟨HC0,HR0⟩:=h_2 hc hr0
   clear hs1 hfe hf0 hc hr0 k1 k2 k3 k4 k5
   go_wp2_with fail
   refine HC0.out.mono ?_
   rintro e W2 ⟨rfl,hE2⟩
   go_wp2
   go_ret
   rw [HR0.out]
   exact⟨v,rfl,HCS1.out.sy.ext0 hE2,SameV.refl _,HCS1.out.dsk,HT1.out.ext0 hE2,DF.of0 (HE1.out.trans hE2)⟩
  | put kb vb=>
   simp only [fkV]
   obtain⟨val,hs1,hs2,hfe⟩:=HFK1.out
   obtain⟨l2,hf0⟩: ∃l2,f []= .ok l2:=⟨_,by rw [hfe];rfl⟩
   have hc:=he_ kb vb key val (.slice none 0 0) [] W1 hs1 hs2 (.inl ⟨rfl,rfl⟩) List.Pairwise.nil (by simp)
   rw [<-hfe,hf0] at hc
   have hr0:=HRES0.out
   rw [hf0] at hr0
   obtain⟨g1,g2, -,g4⟩:=HF.out.ok [] l2 List.Pairwise.nil (fun p hp=> by cases hp) hf0
   simp only [List.length_nil] at g4
   have HC0:=hi_ hc
   have hpo:=av_ (L:=L) (n:=0) l2.length l2 [] (Nat.le_refl _) ⟨g1,g2⟩ (by show l2.length<=900;omega) (by simp)
   have hpl:=aC_ (n:=0) l2.length l2 [] (Nat.le_refl _)
   have hll:List.length (α:=El 0) l2=l2.length:=rfl
   have hgo:GoodT 0 l2:=⟨by show l2.length<=900;omega,g2⟩
   have hbk0:(bkP (i_ 0 l2 [])).length=0:=by rw [hpo.bk];rfl
   have hgg:(([]:List Ptr4)++(O_ (i_ 0 l2 []).length 0 (i_ 0 l2 [])).2).length<=40000:=by
    have h1:=(dC_ (L:=L) (i_ 0 l2 []).length 0 (i_ 0 l2 []) hpo.ok (Nat.le_refl _) (by omega)).bk.length_eq
    simp only [List.length_append] at h1 ⊢
    simp only [List.length_nil]
    omega
   have HGG:=hi_ hgg
   have HOK:Hid (PcsOk L 0 (i_ 0 l2 [])/\(i_ 0 l2 []).length<=260/\([]:List Ptr4).length+(bkP (i_ 0 l2 [])).length<=40000):=hi_ ⟨hpo.ok,by omega,by rw [hbk0];simp⟩
   have HRR:Hid (res= .ok ((O_ (i_ 0 l2 []).length 0 (i_ 0 l2 [])).1,([]:List Ptr4)++(O_ (i_ 0 l2 []).length 0 (i_ 0 l2 [])).2)):=hi_ hr0
   have HGO:=hi_ hgo
   clear hs1 hs2 hfe hf0 hc hr0 g1 g2 g4 hpo hpl hll hgo hbk0 hgg HRES0
   go_wp2_with fail
   refine HC0.out.mono ?_
   rintro e W1b ⟨u0,rfl,how,hfr,hE2⟩
   obtain⟨pu0,cu0,rfl,_⟩:=how.rd.len_eq
   obtain⟨HOW,HE2⟩:=h_2 how hE2
   clear how hfr hE2 HC0
   go_wp2_with fail
   have hEa:=(Ext.refl [] W1b).alloc (.cells #[.bool true,.slice pu0 l2.length cu0,.slice none 0 0,.slice none 0 0] 125)
   have hnb:NodeR (W1b.alloc (.cells #[.bool true,.slice pu0 l2.length cu0,.slice none 0 0,.slice none 0 0] 125)) 0 W1b.heap.size l2:=⟨.slice pu0 l2.length cu0,.slice none 0 0,.slice none 0 0,heap_alloc_new W1b _,HOW.out.ext0 hEa,.inl ⟨rfl,rfl⟩,.inl ⟨rfl,rfl⟩⟩
   refine(be_ 0 _ W1b.heap.size l2 [] _ (Nat.le_refl _) hnb HGO.out).mono ?_
   rintro e W2 ⟨u,xs,rfl,how3,hpc3,hE3, -⟩
   have hE12:=(HE2.out.trans hEa).trans hE3
   have HTS:Hid (TidS y v v L cb ([]++ []) 0 u xs (i_ 0 l2 []) W1 W2):=hi_ ⟨HCS1.out.ext0 hE12,how3,hpc3,SameV.refl _,CF.of0 hE12⟩
   clear how3 hpc3 hE3 hE12 hEa hnb HOW HE2
   -- grow, and the tree is another one
   have hgw:=hj_ y v L cb ([]++ []) 0 u xs (i_ 0 l2 []) W2 HTS.out.cs HTS.out.ow HTS.out.pcs HOK.out.1 (by have:=HOK.out.2.1;omega) (by have:=HOK.out.2.2;simpa using this)
   have HGW:=hi_ hgw
   have HT2:=hi_ (HT1.out.cf HCS1.out.sy HTS.out.cf HLT.out)
   obtain⟨pu,cu,hue,_⟩:=HTS.out.ow.rd.len_eq
   subst hue
   clear hgw
   go_wp2_with fail
   refine HGW.out.mono ?_
   rintro e W3 ⟨yw,v3,rfl,hroot3,hcs3,hsm3,hcf3⟩
   have ht3:=HT2.out.cf HTS.out.cs.sy hcf3 HLT.out
   obtain⟨pw,hpw⟩: ∃q,q=Option.map (fun b=> (⟨b,0,none⟩:Addr)) yw.2:=⟨_,rfl⟩
   simp only [refV,ptV]
   rw [<-hpw]
   have hbx:=heap_alloc_new W3 (.cells (refC yw pw) 89)
   have hEx:Ext [] W3 (W3.alloc (.cells (refC yw pw) 89)):=(Ext.refl [] W3).alloc _
   obtain⟨HBX,HEX,HPW,HR3,HCS3⟩:=h_5 hbx hEx hpw hroot3 hcs3
   have HSM3:=hi_ (HTS.out.same.trans hsm3)
   have HCF3:=hi_ (((CF.of0 HE1.out).trans HTS.out.cf).trans hcf3)
   have HT3:=hi_ ht3
   obtain⟨bx,hbxe⟩: ∃b,b=W3.heap.size:=⟨_,rfl⟩
   clear hbx hEx hpw hroot3 hcs3 hsm3 hcf3 ht3 HTS HT2 HGW k1 k2 k3 k4 k5
   go_wp2_with fail
   rw [<-hbxe] at HBX
   try simp only [<-hbxe]
   clear hbxe
   revert HEX HBX
   generalize World.alloc _ _=W4
   intro HEX HBX
   obtain⟨x0,x1,x2,x3,x4, -⟩:=aj_ HBX.out
   obtain⟨-, -, -, -, -, -,t6, -⟩:=(HT3.out.ext0 HEX.out).cells
   obtain⟨p5,c5, -,k1, -,kow, -⟩:=(HCS3.out.ext0 HEX.out).ch.cells
   obtain⟨C,hC⟩: ∃C,C=([]++ []++(O_ ((i_ 0 l2 [])).length 0 (i_ 0 l2 [])).2).length:=⟨_,rfl⟩
   rw [<-hC] at k1 kow
   obtain⟨HC,HKO⟩:=h_2 hC kow
   have hCb:C<=40000:=by
    have h1:=HGG.out
    rw [hC];simpa using h1
   clear hC kow
   have hD:=(Ext.refl [] W4).drew
   refine e_ (fun W=> W.cell? ⟨tb,6,none⟩=some (.slice pg G cg)/\W.cell? ⟨cb,1,none⟩=some (.slice p5 C c5)/\W.cell? ⟨bx,0,none⟩=some (.int .i64 yw.1.1)/\W.cell? ⟨bx,1,none⟩=some (.int .i64 yw.1.2.1)/\W.cell? ⟨bx,2,none⟩=some (.int .i64 yw.1.2.2.1)/\W.cell? ⟨bx,3,none⟩=some (.string ⟨yw.1.2.2.2.toArray⟩)/\W.cell? ⟨bx,4,none⟩=some (.pointer pw)) (fun i=> i==3 || i==7 || i==8 || i==12 || i==13) (by kernel_rfl) ⟨hD.cell t6 (by simp),hD.cell k1 (by simp),hD.cell x0 (by simp),hD.cell x1 (by simp),hD.cell x2 (by simp),hD.cell x3 (by simp),hD.cell x4 (by simp)⟩ (fun hS=> ?_)
   refine PUq 0 ?_;(try go_frame);refine PUq 1 ?_;(try go_frame);refine PUq 2 ?_;(try go_frame);refine PUq 4 ?_;(try go_frame);refine PUq 9 ?_;(try go_frame);(try simp only [zA,zB,zC,zD,zE]);refine PUq 5 ?_;(try go_frame);refine PUq 10 ?_;(try go_frame);(try simp only [zA,zB,zC,zD,zE]);refine PUq 6 ?_;(try go_frame);(try simp only [zA,zB,zC,zD,zE]);refine PUq 11 ?_;(try go_frame);(try simp only [zA,zB,zC,zD,zE])
   refine ta 3 ?_;(try go_frame);refine ta 7 ?_;(try go_frame);(try simp only [zA,zB,zC,zD,zE]);refine ta 12 ?_;(try go_frame);(try simp only [zA,zB,zC,zD,zE])
   refine a_ (i:=8) (by kernel_rfl) rfl (fun K hK=> ?_)
   (try simp only [Act.put,zA,zB,zC,List.setIfInBounds_toArray,zD,zE]);refine iw rfl ?_
   go_simp
   refine(hP_ _ s.gone _ (by rw [<-HG.out];omega) ((HT3.out.ext0 HEX.out).gone.rd.ext0 hD)).mono ?_
   rintro e W5 ⟨u5,rfl,how5,hE5,hf5, -⟩
   obtain⟨p6,c6,rfl,_⟩:=how5.rd.len_eq
   rw [<-HG.out] at how5 hf5 ⊢
   obtain⟨HO5,HF5⟩:=h_2 how5 hf5
   have HE5:=hi_ (hD.trans hE5)
   have HKO5:=hi_ (HKO.out.ext0 (hD.trans hE5))
   refine hK.out _ _ (fun _=> ⟨hE5.cell hS.1 (by simp),hE5.cell hS.2.1 (by simp),hE5.cell hS.2.2.1 (by simp),hE5.cell hS.2.2.2.1 (by simp),hE5.cell hS.2.2.2.2.1 (by simp),hE5.cell hS.2.2.2.2.2.1 (by simp),hE5.cell hS.2.2.2.2.2.2 (by simp)⟩) (fun _=> ?_)
   clear hK hS how5 hE5 hf5 HKO HBX
   refine a_ (i:=13) (by kernel_rfl) rfl (fun K hK=> ?_)
   (try simp only [Act.put,zA,zB,zC,List.setIfInBounds_toArray,zD,zE]);refine iw rfl ?_
   refine b_ (s:= .tmp 68) (x:= .tmp 72) (E:=EP) (T:=34) (zero:=(0,0,0,[])) (bytes:=40) (v:= .slice p6 G c6) (xs:=s.gone) (ys:= []++ []++(O_ ((i_ 0 l2 [])).length 0 (i_ 0 l2 [])).2) tiEP Tryz.underlying38 Tryz.underlying38 rfl rfl rfl HO5.out HKO5.out.rd (by rw [<-HG.out,<-HC.out];omega) (by rw [<-HG.out,<-HC.out];omega) ?_
   intro v6 W6 how6 hext6 hnear6 _
   obtain⟨hE6,hf6⟩:=C_ HE5.out (fun q hq=> Nat.le_trans hD.size (HF5.out q hq)) hext6 hnear6
   have hE36:=HEX.out.trans hE6
   obtain⟨p7,c7,rfl,_⟩:=how6.rd.len_eq
   obtain⟨M6,hM6⟩: ∃m,m=(s.gone++([]++ []++(O_ ((i_ 0 l2 [])).length 0 (i_ 0 l2 [])).2)).length:=⟨_,rfl⟩
   rw [<-hM6] at how6 ⊢
   have HN6:=hi_ hf6
   have ht6:=HT3.out.ext0 hE36
   have hb6:=ht6.blk
   simp only [br_,ptV] at hb6
   obtain⟨q0,q1,q2,q3,q4,q5,q6,q7⟩:=ht6.cells
   simp only [ptV] at q5
   have hfz: ∀j,W6.frozen? ⟨tb,j,none⟩=false:=fun j=> frozen_of_row _ _ _ _ _ hb6
   obtain⟨HT6,HB6,HO6,HE36⟩:=h_4 ht6 hb6 how6 hE36
   refine hK.out _ _ (fun _=> ⟨hE6.cell t6 (by simp),hE6.cell k1 (by simp),hE6.cell x0 (by simp),hE6.cell x1 (by simp),hE6.cell x2 (by simp),hE6.cell x3 (by simp),hE6.cell x4 (by simp)⟩) (fun _=> ?_)
   clear hK hD hext6 hnear6 hE6 hf6 hE36 how6 ht6 hb6 HO5 HF5 HE5 HKO5 hM6 x0 x1 x2 x3 x4 t6 k1
   refine PUq 14 ?_;(try go_frame);(try simp only [zA,zB,zC,zD,zE]);refine PUq 15 ?_;(try go_frame);(try simp only [zA,zB,zC,zD,zE])
   refine a_ (i:=16) (by kernel_rfl) rfl (fun K hK=> ?_)
   rw [if_pos (show Region.wanted _ _=true from rfl)]
   go_simp
   refine nk hK ?_
   clear hK
   refine PUq 17 ?_;(try go_frame);(try simp only [zA,zB,zC,zD,zE]);refine PUq 18 ?_;(try go_frame);(try simp only [zA,zB,zC,zD,zE])
   refine a_ (i:=19) (by kernel_rfl) rfl (fun K hK=> ?_)
   rw [if_pos (show Region.wanted _ _=true from rfl)]
   go_simp
   refine nk hK ?_
   clear hK
   refine PUq 20 ?_;(try go_frame);(try simp only [zA,zB,zC,zD,zE]);refine PUq 21 ?_;(try go_frame);(try simp only [zA,zB,zC,zD,zE])
   refine a_ (i:=22) (by kernel_rfl) rfl (fun K hK=> ?_)
   rw [if_pos (show Region.wanted _ _=true from rfl)]
   go_simp
   refine nk hK ?_
   refine c_ (by kernel_rfl) ?_ _
   clear hK
   obtain⟨hs,hE9⟩:=set8 HB6.out (.int .i64 yw.1.1) (.int .i64 yw.1.2.1) (.int .i64 yw.1.2.2.1) (.string ⟨yw.1.2.2.2.toArray⟩) (.pointer pw) (.slice p7 M6 c7) (.bool true)
   have htg:=d_ HB6.out
   obtain⟨HS9,HE9⟩:=h_2 hs hE9
   clear hs hE9 q0 q1 q2 q3 q4 q5 q6 q7 hfz
   revert HS9 HE9
   generalize World.setCell _ _ _=W9
   intro HS9 HE9
   go_wp2
   go_ret
   rw [HRR.out]
   have hn9: ∀k∈ [tb],∀T∈(34::aE_),r_ W6 k≠some T:=by simp only [List.mem_singleton,forall_eq,htg];decide
   refine⟨yw,.slice p7 M6 c7,v3,rfl,(HCS3.out.sy.ext0 HE36.out).otherT HE9.out (by simp only [List.mem_singleton,forall_eq,htg];decide),HSM3.out,HCS3.out.dsk,⟨?_, ?_, ?_⟩, ?_, ?_⟩
   ·have h9:=HS9.out
    rw [br_,ptV,<-HPW.out]
    exact h9
   ·exact(RootR.ext HR3.out HE36.out (by simp)).ext HE9.out (fun k hk T hT=> hn9 k hk T (List.mem_cons_of_mem _ hT))
   ·have h9:=HO6.out.ext HE9.out (fun q hq hm=> by
     have h1:=HO6.out.tagOf q hq
     exact hn9 q hm _ (by simp) h1)
    simpa using h9
   ·exact DF.tree ((HCF3.out.syf (by rw [HCB.out];exact Nat.le_refl _)).trans (SyF.of0 HE36.out)) HE9.out
   ·intro g hg
    have h1:=HN6.out g (by revert hg;cases p7 <;> exact id)
    have h2:=ExtT.size (HCF3.out.syf (by rw [HCB.out];exact Nat.le_refl _))
    have h3:=HEX.out.size
    omega
 | some x=>
  obtain⟨n,r⟩:=x
  have hdf:decide ((some ⟨n,r⟩:Root)=none)=false:=by simp
  rw [hdf]
  have hkid:KidR (NodeR W1 n) yv r:=by
   have h:=HT1.out.root
   rw [hroot] at h
   exact h
  have hrt:DskK L n r/\NdT L n r.2:=by
   have h:=HR.out
   rw [hroot] at h
   exact h
  have hbl2:(bkR r).length<=40000:=by rw [hroot] at hbl;exact hbl
  have hed:=hk_ HF.out HE7.out fk n y v cb [] yv r W1 HCS1.out hkid hrt.1 hrt.2 HFK1.out (by simpa using hbl2)
  have hres2:res=(match ay_ n r key f with | .error e=> .error e | .ok (l,g)=> .ok ((O_ l.length n l).1,g++(O_ l.length n l).2)):=by
   rw [HRES.out,hroot];rfl
  have hlaw:=cH_ HF.out n r hrt.2
  simp only [refV,ptV] at hed
  rw [<-HPV.out] at hed
  obtain⟨HED,HRES2,HLAW⟩:=h_3 hed hres2 hlaw
  obtain⟨fv,hfv⟩: ∃z,z=fkV fk:=⟨_,rfl⟩
  rw [<-hfv] at HED ⊢
  clear hed hres2 hlaw hkid hrt hdf hfv
  go_wp2_with fail
  refine HED.out.mono ?_
  intro e W2 hpost
  cases hef:ay_ n r key f with
  | error k=>
   rw [hef] at hpost
   obtain⟨v2,gs2,rfl,hcs2,hsm2,hcf2⟩:=hpost
   have hk7:k=7:=by
    cases hfr:f (prs n r.2) with
    | error e=> have h1:=HLAW.out.1 e hfr;rw [hef] at h1;cases h1;exact HE7.out _ _ hfr
    | ok l'=> obtain⟨sub,g,h1,_⟩:=HLAW.out.2 l' hfr;rw [hef] at h1;cases h1
   subst hk7
   have hr2:=HRES2.out
   rw [hef] at hr2
   have HR2:=hi_ hr2
   have ht2:=HT1.out.cf HCS1.out.sy hcf2 HLT.out
   have hdf:DF y tb w W2:=DF.of (((CF.of0 HE1.out).trans hcf2).syf (by rw [HCB.out];exact Nat.le_refl _))
   have HX:=hi_ (⟨hcs2.sy,hsm2,hcs2.dsk,ht2,hdf⟩:SyR W2 y v2/\SameV v v2/\Dsk y v2 L/\TreeR W2 y tb yv (.slice pg G cg) s/\DF y tb w W2)
   clear hr2 hcs2 hsm2 hcf2 ht2 hdf hef HLAW HED HRES2 k1 k2 k3 k4 k5
   go_wp2
   go_ret
   rw [HR2.out]
   exact⟨v2,rfl,HX.out⟩
  | ok z=>
   obtain⟨l,g⟩:=z
   rw [hef] at hpost
   obtain⟨u,xs,v2,rfl,hts⟩:=hpost
   have hr2:=HRES2.out
   rw [hef] at hr2
   have hok:EditOk L n r (prsP l) l g:=by
    cases hfr:f (prs n r.2) with
    | error e=> have h1:=HLAW.out.1 e hfr;rw [hef] at h1;cases h1
    | ok l'=>
     obtain⟨sub,g',h1,h2⟩:=HLAW.out.2 l' hfr
     rw [hef] at h1
     cases h1
     rw [h2.pr]
     exact h2
   have hgb:g.length+(bkP l).length<=40000:=by
    have h1:=hok.bk.length_eq
    rw [List.length_append] at h1
    omega
   have hgg:(g++(O_ l.length n l).2).length<=40000:=by
    have h1:=(dC_ (L:=L) l.length n l hok.ok (Nat.le_refl _) (by have:=hok.len;omega)).bk.length_eq
    simp only [List.length_append] at h1 ⊢
    omega
   have HGG:=hi_ hgg
   have HOK:Hid (PcsOk L n l/\l.length<=260/\g.length+(bkP l).length<=40000):=hi_ ⟨hok.ok,hok.len,hgb⟩
   obtain⟨HTS,HRR⟩:=h_2 hts hr2
   clear hr2 hok hgb hgg hts hef HLAW HED HRES2
   -- grow, and the tree is another one
   have hgw:=hj_ y v2 L cb ([]++g) n u xs l W2 HTS.out.cs HTS.out.ow HTS.out.pcs HOK.out.1 (by have:=HOK.out.2.1;omega) (by have:=HOK.out.2.2;simpa using this)
   have HGW:=hi_ hgw
   have HT2:=hi_ (HT1.out.cf HCS1.out.sy HTS.out.cf HLT.out)
   obtain⟨pu,cu,hue,_⟩:=HTS.out.ow.rd.len_eq
   subst hue
   clear hgw
   go_wp2_with fail
   refine HGW.out.mono ?_
   rintro e W3 ⟨yw,v3,rfl,hroot3,hcs3,hsm3,hcf3⟩
   have ht3:=HT2.out.cf HTS.out.cs.sy hcf3 HLT.out
   obtain⟨pw,hpw⟩: ∃q,q=Option.map (fun b=> (⟨b,0,none⟩:Addr)) yw.2:=⟨_,rfl⟩
   simp only [refV,ptV]
   rw [<-hpw]
   have hbx:=heap_alloc_new W3 (.cells (refC yw pw) 89)
   have hEx:Ext [] W3 (W3.alloc (.cells (refC yw pw) 89)):=(Ext.refl [] W3).alloc _
   obtain⟨HBX,HEX,HPW,HR3,HCS3⟩:=h_5 hbx hEx hpw hroot3 hcs3
   have HSM3:=hi_ (HTS.out.same.trans hsm3)
   have HCF3:=hi_ (((CF.of0 HE1.out).trans HTS.out.cf).trans hcf3)
   have HT3:=hi_ ht3
   obtain⟨bx,hbxe⟩: ∃b,b=W3.heap.size:=⟨_,rfl⟩
   clear hbx hEx hpw hroot3 hcs3 hsm3 hcf3 ht3 HTS HT2 HGW k1 k2 k3 k4 k5
   go_wp2_with fail
   rw [<-hbxe] at HBX
   try simp only [<-hbxe]
   clear hbxe
   revert HEX HBX
   generalize World.alloc _ _=W4
   intro HEX HBX
   obtain⟨x0,x1,x2,x3,x4, -⟩:=aj_ HBX.out
   obtain⟨-, -, -, -, -, -,t6, -⟩:=(HT3.out.ext0 HEX.out).cells
   obtain⟨p5,c5, -,k1, -,kow, -⟩:=(HCS3.out.ext0 HEX.out).ch.cells
   obtain⟨C,hC⟩: ∃C,C=([]++g++(O_ (l).length n l).2).length:=⟨_,rfl⟩
   rw [<-hC] at k1 kow
   obtain⟨HC,HKO⟩:=h_2 hC kow
   have hCb:C<=40000:=by
    have h1:=HGG.out
    rw [hC];simpa using h1
   clear hC kow
   have hD:=(Ext.refl [] W4).drew
   refine e_ (fun W=> W.cell? ⟨tb,6,none⟩=some (.slice pg G cg)/\W.cell? ⟨cb,1,none⟩=some (.slice p5 C c5)/\W.cell? ⟨bx,0,none⟩=some (.int .i64 yw.1.1)/\W.cell? ⟨bx,1,none⟩=some (.int .i64 yw.1.2.1)/\W.cell? ⟨bx,2,none⟩=some (.int .i64 yw.1.2.2.1)/\W.cell? ⟨bx,3,none⟩=some (.string ⟨yw.1.2.2.2.toArray⟩)/\W.cell? ⟨bx,4,none⟩=some (.pointer pw)) (fun i=> i==3 || i==7 || i==8 || i==12 || i==13) (by kernel_rfl) ⟨hD.cell t6 (by simp),hD.cell k1 (by simp),hD.cell x0 (by simp),hD.cell x1 (by simp),hD.cell x2 (by simp),hD.cell x3 (by simp),hD.cell x4 (by simp)⟩ (fun hS=> ?_)
   refine PUq 0 ?_;(try go_frame);refine PUq 1 ?_;(try go_frame);refine PUq 2 ?_;(try go_frame);refine PUq 4 ?_;(try go_frame);refine PUq 9 ?_;(try go_frame);(try simp only [zA,zB,zC,zD,zE]);refine PUq 5 ?_;(try go_frame);refine PUq 10 ?_;(try go_frame);(try simp only [zA,zB,zC,zD,zE]);refine PUq 6 ?_;(try go_frame);(try simp only [zA,zB,zC,zD,zE]);refine PUq 11 ?_;(try go_frame);(try simp only [zA,zB,zC,zD,zE])
   refine ta 3 ?_;(try go_frame);refine ta 7 ?_;(try go_frame);(try simp only [zA,zB,zC,zD,zE]);refine ta 12 ?_;(try go_frame);(try simp only [zA,zB,zC,zD,zE])
   refine a_ (i:=8) (by kernel_rfl) rfl (fun K hK=> ?_)
   (try simp only [Act.put,zA,zB,zC,List.setIfInBounds_toArray,zD,zE]);refine iw rfl ?_
   go_simp
   refine(hP_ _ s.gone _ (by rw [<-HG.out];omega) ((HT3.out.ext0 HEX.out).gone.rd.ext0 hD)).mono ?_
   rintro e W5 ⟨u5,rfl,how5,hE5,hf5, -⟩
   obtain⟨p6,c6,rfl,_⟩:=how5.rd.len_eq
   rw [<-HG.out] at how5 hf5 ⊢
   obtain⟨HO5,HF5⟩:=h_2 how5 hf5
   have HE5:=hi_ (hD.trans hE5)
   have HKO5:=hi_ (HKO.out.ext0 (hD.trans hE5))
   refine hK.out _ _ (fun _=> ⟨hE5.cell hS.1 (by simp),hE5.cell hS.2.1 (by simp),hE5.cell hS.2.2.1 (by simp),hE5.cell hS.2.2.2.1 (by simp),hE5.cell hS.2.2.2.2.1 (by simp),hE5.cell hS.2.2.2.2.2.1 (by simp),hE5.cell hS.2.2.2.2.2.2 (by simp)⟩) (fun _=> ?_)
   clear hK hS how5 hE5 hf5 HKO HBX
   refine a_ (i:=13) (by kernel_rfl) rfl (fun K hK=> ?_)
   (try simp only [Act.put,zA,zB,zC,List.setIfInBounds_toArray,zD,zE]);refine iw rfl ?_
   refine b_ (s:= .tmp 68) (x:= .tmp 72) (E:=EP) (T:=34) (zero:=(0,0,0,[])) (bytes:=40) (v:= .slice p6 G c6) (xs:=s.gone) (ys:= []++g++(O_ (l).length n l).2) tiEP Tryz.underlying38 Tryz.underlying38 rfl rfl rfl HO5.out HKO5.out.rd (by rw [<-HG.out,<-HC.out];omega) (by rw [<-HG.out,<-HC.out];omega) ?_
   intro v6 W6 how6 hext6 hnear6 _
   obtain⟨hE6,hf6⟩:=C_ HE5.out (fun q hq=> Nat.le_trans hD.size (HF5.out q hq)) hext6 hnear6
   have hE36:=HEX.out.trans hE6
   obtain⟨p7,c7,rfl,_⟩:=how6.rd.len_eq
   obtain⟨M6,hM6⟩: ∃m,m=(s.gone++([]++g++(O_ (l).length n l).2)).length:=⟨_,rfl⟩
   rw [<-hM6] at how6 ⊢
   have HN6:=hi_ hf6
   have ht6:=HT3.out.ext0 hE36
   have hb6:=ht6.blk
   simp only [br_,ptV] at hb6
   obtain⟨q0,q1,q2,q3,q4,q5,q6,q7⟩:=ht6.cells
   simp only [ptV] at q5
   have hfz: ∀j,W6.frozen? ⟨tb,j,none⟩=false:=fun j=> frozen_of_row _ _ _ _ _ hb6
   obtain⟨HT6,HB6,HO6,HE36⟩:=h_4 ht6 hb6 how6 hE36
   refine hK.out _ _ (fun _=> ⟨hE6.cell t6 (by simp),hE6.cell k1 (by simp),hE6.cell x0 (by simp),hE6.cell x1 (by simp),hE6.cell x2 (by simp),hE6.cell x3 (by simp),hE6.cell x4 (by simp)⟩) (fun _=> ?_)
   clear hK hD hext6 hnear6 hE6 hf6 hE36 how6 ht6 hb6 HO5 HF5 HE5 HKO5 hM6 x0 x1 x2 x3 x4 t6 k1
   refine PUq 14 ?_;(try go_frame);(try simp only [zA,zB,zC,zD,zE]);refine PUq 15 ?_;(try go_frame);(try simp only [zA,zB,zC,zD,zE])
   refine a_ (i:=16) (by kernel_rfl) rfl (fun K hK=> ?_)
   rw [if_pos (show Region.wanted _ _=true from rfl)]
   go_simp
   refine nk hK ?_
   clear hK
   refine PUq 17 ?_;(try go_frame);(try simp only [zA,zB,zC,zD,zE]);refine PUq 18 ?_;(try go_frame);(try simp only [zA,zB,zC,zD,zE])
   refine a_ (i:=19) (by kernel_rfl) rfl (fun K hK=> ?_)
   rw [if_pos (show Region.wanted _ _=true from rfl)]
   go_simp
   refine nk hK ?_
   clear hK
   refine PUq 20 ?_;(try go_frame);(try simp only [zA,zB,zC,zD,zE]);refine PUq 21 ?_;(try go_frame);(try simp only [zA,zB,zC,zD,zE])
   refine a_ (i:=22) (by kernel_rfl) rfl (fun K hK=> ?_)
   rw [if_pos (show Region.wanted _ _=true from rfl)]
   go_simp
   refine nk hK ?_
   refine c_ (by kernel_rfl) ?_ _
   clear hK
   obtain⟨hs,hE9⟩:=set8 HB6.out (.int .i64 yw.1.1) (.int .i64 yw.1.2.1) (.int .i64 yw.1.2.2.1) (.string ⟨yw.1.2.2.2.toArray⟩) (.pointer pw) (.slice p7 M6 c7) (.bool true)
   have htg:=d_ HB6.out
   obtain⟨HS9,HE9⟩:=h_2 hs hE9
   clear hs hE9 q0 q1 q2 q3 q4 q5 q6 q7 hfz
   revert HS9 HE9
   generalize World.setCell _ _ _=W9
   intro HS9 HE9
   go_wp2
   go_ret
   rw [HRR.out]
   have hn9: ∀k∈ [tb],∀T∈(34::aE_),r_ W6 k≠some T:=by simp only [List.mem_singleton,forall_eq,htg];decide
   refine⟨yw,.slice p7 M6 c7,v3,rfl,(HCS3.out.sy.ext0 HE36.out).otherT HE9.out (by simp only [List.mem_singleton,forall_eq,htg];decide),HSM3.out,HCS3.out.dsk,⟨?_, ?_, ?_⟩, ?_, ?_⟩
   ·have h9:=HS9.out
    rw [br_,ptV,<-HPW.out]
    exact h9
   ·exact(RootR.ext HR3.out HE36.out (by simp)).ext HE9.out (fun k hk T hT=> hn9 k hk T (List.mem_cons_of_mem _ hT))
   ·have h9:=HO6.out.ext HE9.out (fun q hq hm=> by
     have h1:=HO6.out.tagOf q hq
     exact hn9 q hm _ (by simp) h1)
    simpa using h9
   ·exact DF.tree ((HCF3.out.syf (by rw [HCB.out];exact Nat.le_refl _)).trans (SyF.of0 HE36.out)) HE9.out
   ·intro g hg
    have h1:=HN6.out g (by revert hg;cases p7 <;> exact id)
    have h2:=ExtT.size (HCF3.out.syf (by rw [HCB.out];exact Nat.le_refl _))
    have h3:=HEX.out.size
    omega
theorem SyOk.pre (he:Ext [] w W) (hk:k < w.heap.size) (h:SyOk y W k):SyOk y w k:=by
 have et:r_ W k=r_ w k:=by rw [r_,r_,he.block k hk (by simp)]
 rcases h with h | ⟨T,h1,h2,h3⟩
 ·exact .inl h
 ·exact .inr ⟨T,h1,by rw [<-et];exact h2,h3⟩
theorem DF.pre {a b c:World} (he:Ext [] a b) (h:DF y tb b c):DF y tb a c:=by
 obtain⟨S,h1,h2⟩:=h
 refine⟨S.filter (fun k=> decide (k < a.heap.size)),he.trans' h1 (by simp) (fun x hx=> ?_),fun k hk=> ?_⟩
 ·by_cases hl:x < a.heap.size
  ·exact .inl (by simp [hx,hl])
  ·exact .inr (by omega)
 ·simp only [List.mem_filter,decide_eq_true_eq] at hk
  rcases h2 k hk.1 with h | h
  ·exact .inl (h.pre he hk.2)
  ·exact .inr h
theorem DoPost.pre {res:Except Int (Root×List Ptr4)} {e:Ending} (he:Ext [] w W) (h:DoPost y v L tb yv gv s res W e w'):DoPost y v L tb yv gv s res w e w':=by
 unfold DoPost at h ⊢
 cases res with
 | error k=> obtain⟨v',h1,h2,h3,h4,h5,h6⟩:=h;exact⟨v',h1,h2,h3,h4,h5,h6.pre he⟩
 | ok z=> obtain⟨yv',gv',v',h1,h2,h3,h4,h5,h6,h7⟩:=h;exact⟨yv',gv',v',h1,h2,h3,h4,h5,h6.pre he,fun g hg=> Nat.le_trans he.size (h7 g hg)⟩
def bI_ (key val:Ky):Prop:=key= []\/24 < key.length\/300 < val.length
theorem putF_ok (key val:Ky): ∀l e,putF key val l= .error e->e=7:=fun l e h=> by cases h
theorem trput_bad (key val:Ky) (tb:Nat) (w:World) (h:bI_ key val):Calls Tryz.prog 14 #[.pointer (some ⟨tb,0,none⟩),.string ⟨key.toArray⟩,.string ⟨val.toArray⟩] w fun e w'=> e= .returned (.int .i64 2)/\Ext [] w w':=by
 have hE0:Ext [] w ((w.alloc (.cells #[.string ⟨key.toArray⟩] 9)).alloc (.cells #[.string ⟨val.toArray⟩] 9)):=((Ext.refl [] w).alloc _).alloc _
 by_cases h1:key= []
 ·have z1:(key== [])=true:=by simpa using h1
  clear h h1
  go_enter Tryz.func14,Tryz.ntmps14
  go_wp2_with fail
  go_ret
  exact⟨rfl,hE0⟩
 ·have z1:(key== [])=false:=by simpa using h1
  by_cases h2:24 < key.length
  ·clear h h1
   go_enter Tryz.func14,Tryz.ntmps14
   go_wp2_with fail
   go_ret
   exact⟨rfl,hE0⟩
  ·have h3:300 < val.length:=by
    rcases h with h | h | h
    ·exact absurd h h1
    ·exact absurd h h2
    ·exact h
   clear h h1
   go_enter Tryz.func14,Tryz.ntmps14
   go_wp2_with fail
   go_ret
   exact⟨rfl,hE0⟩
theorem gy_ (key val:Ky) (y:Sy) (v:Sv) (tb:Nat) (yv:Rfm) (gv:Value) (s:TS) (w:World) (hb: ¬bI_ key val) (h:SyR w y v) (hd:Dsk y v L) (ht:TreeR w y tb yv gv s) (hr:RtOk L s.root) (hbl:(au_ s.root).length<=40000) (hgl:s.gone.length<=900000):
  Calls Tryz.prog 14 #[.pointer (some ⟨tb,0,none⟩),.string ⟨key.toArray⟩,.string ⟨val.toArray⟩] w (DoPost y v L tb yv gv s (doF s.root key (putF key val)) w):=by
 have hmf: ∀(fn:Fn) (first cap:Array Value) (w:World),(Instr.makeFunc fn first cap).run Tryz.prog w= .ok (.func fn first cap) w:=fun _ _ _ _=> rfl
 have z1:(key== [])=false:=by
  have h1: ¬key= []:=fun e=> hb (.inl e)
  simpa using h1
 have z2: ¬24 < key.length:=fun e=> hb (.inr (.inl e))
 have z3: ¬300 < val.length:=fun e=> hb (.inr (.inr e))
 have hf:EdF key (putF key val):=ht_ (fun e=> hb (.inl e)) (by omega) (by omega)
 have hE1:Ext [] w (w.alloc (.cells #[.string ⟨key.toArray⟩] 9)):=(Ext.refl [] w).alloc _
 have hE0:Ext [] w ((w.alloc (.cells #[.string ⟨key.toArray⟩] 9)).alloc (.cells #[.string ⟨val.toArray⟩] 9)):=hE1.alloc _
 have hk1:strB ((w.alloc (.cells #[.string ⟨key.toArray⟩] 9)).alloc (.cells #[.string ⟨val.toArray⟩] 9)) w.heap.size key:=((Ext.refl [] _).alloc _).blk (heap_alloc_new w _) (by simp)
 have hk2:strB ((w.alloc (.cells #[.string ⟨key.toArray⟩] 9)).alloc (.cells #[.string ⟨val.toArray⟩] 9)) (w.heap.size+1) val:=am_ (by simp)
 have hdo:=trdo_c hf (putF_ok key val) (.put w.heap.size (w.heap.size+1)) y v tb yv gv s _ (h.ext0 hE0) hd (ht.ext0 hE0) hr ⟨val,hk1,hk2,rfl⟩ hbl hgl
 simp only [fkV] at hdo
 have HDO:=hi_ hdo
 obtain⟨P,hP⟩: ∃P,P=DoPost y v L tb yv gv s (doF s.root key (putF key val)) w:=⟨_,rfl⟩
 have HP:Hid (∀e w',DoPost y v L tb yv gv s (doF s.root key (putF key val)) ((w.alloc (.cells #[.string ⟨key.toArray⟩] 9)).alloc (.cells #[.string ⟨val.toArray⟩] 9)) e w'->P e w'):=hi_ (fun e w' hq=> by rw [hP];exact hq.pre hE0)
 have HRET:Hid (∀e w',DoPost y v L tb yv gv s (doF s.root key (putF key val)) ((w.alloc (.cells #[.string ⟨key.toArray⟩] 9)).alloc (.cells #[.string ⟨val.toArray⟩] 9)) e w'-> ∃k,e= .returned (.int .i64 k)):=hi_ (fun e w' hq=> by
  unfold DoPost at hq
  split at hq
  ·obtain⟨_,h1,_⟩:=hq;exact⟨_,h1⟩
  ·obtain⟨_,_,_,h1,_⟩:=hq;exact⟨_,h1⟩)
 rw [<-hP]
 clear hP hb h hd ht hr hbl hgl hf hdo hk1 hk2 hE0 hE1
 go_enter Tryz.func14,Tryz.ntmps14
 go_wp2_with fail
 refine HDO.out.mono ?_
 intro e W2 hq
 have hp:=HP.out e W2 hq
 obtain⟨k,rfl⟩:=HRET.out e W2 hq
 clear hq
 have HPP:=hi_ hp
 clear hp
 go_wp2
 exact HPP.out
theorem hf_ (y:Sy) (q:Ptr4) (w:World):Calls Tryz.prog 13 #[.pointer (some ⟨y.b,0,none⟩),bB_ q] w fun e w'=> ∃tb,e= .returned (.tuple #[.pointer (some ⟨tb,0,none⟩),.int .i64 0])/\w'.heap[tb]? =some (.cells (br_ y (q,none) (.slice none 0 0) false) 91 (0,0))/\Ext [] w w'/\w.heap.size<=tb:=by
 go_enter Tryz.func13,Tryz.ntmps13
 go_wp2_with fail
 go_ret2
 refine⟨_,rfl,am_ (by simp),((Ext.refl _ _).alloc _).alloc _,by simp⟩
def PutC (w:World) (pb:Nat) (ps:List Ptr4):Prop:= ∃gv,w.heap[pb]? =some (.cells #[gv] 38 (0,0))/\EP.Ow 34 w gv ps/\ ∀g∈blkL gv,pb<=g
theorem PutC.ext {pb:Nat} {ps:List Ptr4} (h:PutC w pb ps) (he:Ext S w w') (hS: ∀k∈S,∀T∈([38,34]:List TypeId),r_ w k≠some T):PutC w' pb ps:=by
 obtain⟨gv,h1,h2,h3⟩:=h
 exact⟨gv,he.blk h1 (fun hm=> hS pb hm _ (by simp) (d_ h1)),h2.ext he (fun g hg hm=> hS g hm _ (by simp) (h2.tagOf g hg)),h3⟩
theorem PutC.syf {pb:Nat} {ps:List Ptr4} (h:PutC w pb ps) (hy:SyR w y v) (hf:SyF y w w'):PutC w' pb ps:=by
 obtain⟨S,k1,k2⟩:=hf.tags hy
 exact h.ext k1 (fun k hk T hT=> k2 k hk T (by revert T;decide))
structure WS (y:Sy) (v:Sv) (L:List Blk) (pb:Nat) (ps:List Ptr4) (w:World):Prop where
 sy:SyR w y v
 dk:DkS y v L
 put:PutC w pb ps
theorem WS.ext {pb:Nat} {ps:List Ptr4} (h:WS y v L pb ps w) (he:Ext S w w') (hS: ∀k∈S,∀T∈(38::34::aH_),r_ w k≠some T):WS y v L pb ps w':=
 ⟨h.sy.otherT he (fun g hg T hT=> hS g hg T (List.mem_cons_of_mem _ (List.mem_cons_of_mem _ hT))),h.dk,h.put.ext he (fun k hk T hT=> hS k hk T (by revert T;decide))⟩
theorem WS.ext0 {pb:Nat} {ps:List Ptr4} (h:WS y v L pb ps w) (he:Ext [] w w'):WS y v L pb ps w':=h.ext he (by simp)
structure WrRes (y:Sy) (v:Sv) (L:List Blk) (pb:Nat) (ps:List Ptr4) (w:World) (v':Sv) (L':List Blk) (ms:List Ptr4) (w':World):Prop where
 ws:WS y v' L' pb (ps++ms) w'
 pr:PutsR y v v' L L' ms
 cf:CF y pb w w'
def WritePost (y:Sy) (v:Sv) (L:List Blk) (pb:Nat) (ps:List Ptr4) (n:Nat) (r:Rf n) (w:World) (e:Ending) (w':World):Prop:=
 ∃v' L' ms,WrRes y v L pb ps w v' L' ms w'/\((∃q r',e= .returned (.tuple #[refV (q,none),.int .i64 0])/\r'.1=some q/\WrOk L' n r r' ms/\(r.1.isSome=true->r'=r)/\F_ y.k ms<=unwC y.k n r)\/(e= .returned (.tuple #[refV (P0,none),.int .i64 5])/\ ∃z,F_ y.k ms+z<=unwC y.k n r/\NoRoomZ y.k v' z))
structure WrB (v:Sv) (ps:List Ptr4):Prop where
 ws:v.ws.length+cntL v.spc.free<=900000
 ps:ps.length+cntL v.spc.free<=500000
 t0:0<=v.st.txg
 t1:v.st.txg<=1125899906842624
theorem df_ (hk:y.k=k) (h: ∀q∈ms,∃bs,(q.1,bs)∈L/\PtAt q bs) (hd:DkS y v L):ms.length<=F_ k ms:=by
 subst hk
 induction ms with
 | nil=> simp [F_]
 | cons q r ih=>
  obtain⟨bs,h1,h2⟩:=h q (by simp)
  have h3:=(hd.dsk.std _ h1).cost
  have ih:=ih (fun q hq=> h q (List.mem_cons_of_mem _ hq))
  have e:F_ y.k (q::r)=B_ y.k q.2.1+F_ y.k r:=by simp [F_]
  rw [e,h2.1,List.length_cons]
  simp only at h3
  omega
theorem WrB.step {ps ms:List Ptr4} (h:WrB v ps) (p:PutsR y v v' L L' ms):WrB v' (ps++ms):=by
 have h1:=p.sum
 have h2:=p.cnt
 have h3:=df_ rfl p.new p.dk
 refine⟨by have:=h.ws;omega,by have:=h.ps;rw [List.length_append];omega,by rw [p.txg];exact h.t0,by rw [p.txg];exact h.t1⟩
def by_ (n:Nat) (r:Rf n):Prop:= ∀(y:Sy) (v:Sv) (L:List Blk) (pb:Nat) (ps:List Ptr4) (yv:Rfm) (w:World),WS y v L pb ps w->KidR (NodeR w n) yv r->DskK L n r->NdT L n r.2->WrB v ps->
 Calls Tryz.prog 46 #[.pointer (some ⟨y.b,0,none⟩),refV yv,.pointer (some ⟨pb,0,none⟩)] w (WritePost y v L pb ps n r w)
theorem dk_ (sv pv:Value) (q:Ptr4) (w:World):Calls Tryz.prog 46 #[sv,refV (q,none),pv] w fun e w'=> e= .returned (.tuple #[refV (q,none),.int .i64 0])/\Ext [] w w':=by
 simp only [refV,ptV,Option.map_none]
 go_enter Tryz.func46,Tryz.ntmps46
 go_wp2_with fail
 have hE:Ext [] w ((w.alloc (.cells #[.int .i64 q.1,.int .i64 q.2.1,.int .i64 q.2.2.1,.string ⟨q.2.2.2.toArray⟩,.pointer none] 89)).alloc (.cells #[.int .i64 q.1,.int .i64 q.2.1,.int .i64 q.2.2.1,.string ⟨q.2.2.2.toArray⟩,.pointer none] 89)):=((Ext.refl [] w).alloc _).alloc _
 have hb:((w.alloc (.cells #[.int .i64 q.1,.int .i64 q.2.1,.int .i64 q.2.2.1,.string ⟨q.2.2.2.toArray⟩,.pointer none] 89)).alloc (.cells #[.int .i64 q.1,.int .i64 q.2.1,.int .i64 q.2.2.1,.string ⟨q.2.2.2.toArray⟩,.pointer none] 89)).heap[w.heap.size+1]? =_:=am_ (by simp)
 obtain⟨s0,s1,s2,s3,s4,_⟩:=aj_ hb
 refine bodyPost_ret (v:= .tuple #[.agg #[.int .i64 q.1,.int .i64 q.2.1,.int .i64 q.2.2.1,.string ⟨q.2.2.2.toArray⟩,.pointer none],.int .i64 0]) (by simp [results,Tryz.results46,go_sem,s0,s1,s2,s3,s4]) rfl ?_
 exact⟨rfl,hE⟩
theorem cQ_ (r:Rf n) (q:Ptr4) (hq:r.1=some q):by_ n r:=by
 intro y v L pb ps yv w h hk hK hn hb
 unfold KidR at hk
 simp only [hq] at hk
 subst hk
 refine(dk_ _ _ q w).mono ?_
 rintro e w' ⟨rfl,hE⟩
 exact⟨v,L,[],⟨by rw [List.append_nil];exact h.ext0 hE,PutsR.refl h.dk,CF.of0 hE⟩,.inl ⟨q,r,rfl,hq,WrOk.same hK hn (by rw [hq];rfl),fun _=> rfl,by simp [F_]⟩⟩
theorem flat_set5 (l:List Rfm) (p:Nat) (hp:p < l.length) (y:Rfm) (a0 a1 a2 a3 a4:Value) (he:ERf.enc y= [a0,a1,a2,a3,a4]):
  (((((ERf.flat l).set (p*5) a0).set (p*5+1) a1).set (p*5+2) a2).set (p*5+3) a3).set (p*5+4) a4=ERf.flat (l.set p y):=by
 have e1:l=l.take p++l[p]::l.drop (p+1):=splitI hp
 have e2:l.set p y=l.take p++y::l.drop (p+1):=by
  rw [List.set_eq_take_append_cons_drop,if_pos hp]
 have hA:(ERf.flat (l.take p)).length=p*5:=by
  rw [ERf.length_flat,List.length_take,Nat.min_eq_left (by omega)];rfl
 have f1: ∀z,ERf.flat (l.take p++z::l.drop (p+1))=ERf.flat (l.take p)++(ERf.enc z++ERf.flat (l.drop (p+1))):=fun z=> by
  rw [ERf.flat_append]
  simp [Enc.flat]
 rw [e2,f1,he]
 conv=> lhs;rw [e1,f1]
 obtain⟨b0,b1,b2,b3,b4,hb⟩: ∃b0 b1 b2 b3 b4,ERf.enc l[p]= [b0,b1,b2,b3,b4]:=⟨_,_,_,_,_,rfl⟩
 rw [hb]
 have hs: ∀(X:List Value) (j:Nat) (v:Value),(ERf.flat (l.take p)++X).set (p*5+j) v=ERf.flat (l.take p)++X.set j v:=fun X j v=> by
  rw [List.set_append_right _ _ (by omega),hA,Nat.add_sub_cancel_left]
 have hs0:(ERf.flat (l.take p)++([b0,b1,b2,b3,b4]++ERf.flat (l.drop (p+1)))).set (p*5) a0=ERf.flat (l.take p)++([b0,b1,b2,b3,b4]++ERf.flat (l.drop (p+1))).set 0 a0:=hs _ 0 a0
 rw [hs0,hs,hs,hs,hs]
 rfl
theorem rf_set {g q n cap:Nat} {xs:List Rfm} (y:Rfm) (how:ERf.Ow 89 w (.slice (some ⟨g,q,none⟩) n cap) xs) (hi:i < xs.length) (pv:Option Addr) (hp:pv=Option.map (fun b=> (⟨b,0,none⟩:Addr)) y.2)
  (hw:w'=((((w.setCell ⟨g,q+i*5,none⟩ (.int .i64 y.1.1)).setCell ⟨g,q+i*5+1,none⟩ (.int .i64 y.1.2.1)).setCell ⟨g,q+i*5+2,none⟩ (.int .i64 y.1.2.2.1)).setCell ⟨g,q+i*5+3,none⟩ (.string ⟨y.1.2.2.2.toArray⟩)).setCell ⟨g,q+i*5+4,none⟩ (.pointer pv)):
  ERf.Ow 89 w' (.slice (some ⟨g,q,none⟩) n cap) (xs.set i y)/\Ext [g] w w'/\(∀j,w.frozen? ⟨g,j,none⟩=false):=by
 subst hw hp
 refine⟨?_,(((((Ext.refl [g] w).setCell (.inl (by simp)) _).setCell (.inl (by simp)) _).setCell (.inl (by simp)) _).setCell (.inl (by simp)) _).setCell (.inl (by simp)) _, ?_⟩
 ·rcases how with ⟨h,_⟩ | ⟨g',p,c,l,h,h1,h2,h3,h4⟩
  ·cases h
  ·simp only [Value.slice.injEq,Option.some.injEq,Addr.mk.injEq] at h
   obtain⟨⟨rfl,rfl,_⟩,rfl,rfl⟩:=h
   have hk5:ERf.k=5:=rfl
   have hpl:p+i < l.length:=by omega
   have hE:=flat_set5 l (p+i) hpl y (.int .i64 y.1.1) (.int .i64 y.1.2.1) (.int .i64 y.1.2.2.1) (.string ⟨y.1.2.2.2.toArray⟩) (ptV y.2) rfl
   rw [Nat.add_mul] at hE
   refine .inr ⟨g,p,cap,l.set (p+i) y,by rw [List.length_set], ?_,by rw [List.length_set];exact h2,by rw [List.length_set];exact h3, ?_⟩
   ·rw [hk5]
    rw [<-hE]
    have k0:=heap_setCell_same w g (p*5+i*5) _ _ (.int .i64 y.1.1) h1
    have k1:=heap_setCell_same _ g (p*5+i*5+1) _ _ (.int .i64 y.1.2.1) k0
    have k2:=heap_setCell_same _ g (p*5+i*5+2) _ _ (.int .i64 y.1.2.2.1) k1
    have k3:=heap_setCell_same _ g (p*5+i*5+3) _ _ (.string ⟨y.1.2.2.2.toArray⟩) k2
    have k4:=heap_setCell_same _ g (p*5+i*5+4) _ _ (ptV y.2) k3
    rw [ptV] at k4
    refine k4.trans ?_
    simp [List.setIfInBounds_toArray,ptV]
   ·show ((l.set (p+i) y).drop p).take (xs.set i y).length=xs.set i y
    rw [List.length_set,List.drop_set,if_neg (by omega),Nat.add_sub_cancel_left,List.take_set]
    exact congrArg (fun z=> z.set i y) h4
 ·rcases how with ⟨h,_⟩ | ⟨g',p,c,l,h,h1,h2,h3,h4⟩
  ·cases h
  ·simp only [Value.slice.injEq,Option.some.injEq,Addr.mk.injEq] at h
   obtain⟨⟨rfl,rfl,_⟩,rfl,rfl⟩:=h
   exact fun j=> frozen_of_row _ _ _ _ _ h1
theorem NodeRI.cf (hy:SyR w y v) (h:CF y cb w w') (n b:Nat) (t:List (El n)) (hn:NodeRI Av w n b t):NodeRI Av w' n b t:=by
 obtain⟨S,h1,h2⟩:=h.noNode hy
 exact NodeRI.ext h1 (fun k hk _ T hT=> h2 k hk T (by revert T;decide)) n b t hn
theorem Enc.Ow.cf {α:Type} {E:Enc α} {u:Value} {xs:List α} (h:E.Ow T w u xs) (hy:SyR w y v) (hf:CF y cb w w') (hT:T∉([117,143,168,339,175,146,34,38]:List TypeId)):E.Ow T w' u xs:=by
 obtain⟨S,h1,h2⟩:=hf.noNode hy
 exact h.ext h1 (fun g hg hm=> h2 g hm T hT (h.tagOf g hg))
theorem KidsR.set {N:Nat->List (El n)->Prop} {t:List (Pc n)} (h:KidsR N rs t) (i:Nat) (y:Rfm) (x:Pc n) (hk:KidR N y x.2):KidsR N (rs.set i y) (t.set i x):=by
 refine⟨by rw [List.length_set,List.length_set];exact h.1,fun j a b ha hb=> ?_⟩
 rw [List.getElem?_set] at ha hb
 by_cases e:i=j
 ·subst e
  rw [if_pos rfl] at ha hb
  split at ha
  ·rename_i h1
   cases ha
   rw [if_pos (by rw [<-h.1];exact h1)] at hb
   cases hb
   exact hk
  ·cases ha
 ·rw [if_neg e] at ha hb
  exact h.2 j a b ha hb
structure WrI (y:Sy) (v:Sv) (L:List Blk) (pb:Nat) (ps:List Ptr4) {m:Nat} (t:List (Pc m)) (leaf:Bool) (pl:List Pr) (ks:List Ky) (pv kv clv:Value) (nb rb:Nat) (w wr:World) (i:Nat) (v':Sv) (L':List Blk) (ms:List Ptr4) (t':List (Pc m)) (rs':List Rfm):Prop where
 res:WrRes y v L pb ps w v' L' ms wr
 wl:WrL L' m t t' i ms
 nb:wr.heap[nb]? =some (.cells #[.bool leaf,pv,kv,clv] 125 (0,0))
 rb:wr.heap[rb]? =some (.cells #[.int .i64 0,.int .i64 0,.int .i64 0,.string ⟨#[]⟩,.pointer none] 89 (0,0))
 pv:EPr.Ow 36 wr pv pl
 kv:EKy.Ow 9 wr kv ks
 cl:ERf.Ow 89 wr clv rs'
 kids:KidsR (NodeRI (fun k=> k < w.heap.size) wr m) rs' t'
 cnt:F_ y.k ms<=((t.take i).map (fun k=> unwC y.k m k.2)).sum
theorem WrI.ext0 {pb:Nat} {ps:List Ptr4} {m:Nat} {t:List (Pc m)} {pl:List Pr} {pv kv clv:Value} {nb rb:Nat} {w wr wr':World} {t':List (Pc m)} {rs':List Rfm} (h:WrI y v L pb ps t leaf pl ks pv kv clv nb rb w wr i v' L' ms t' rs') (he:Ext [] wr wr'):WrI y v L pb ps t leaf pl ks pv kv clv nb rb w wr' i v' L' ms t' rs':=
 ⟨⟨h.res.ws.ext0 he,h.res.pr,h.res.cf.trans (CF.of0 he)⟩,h.wl,he.blk h.nb (by simp),he.blk h.rb (by simp),h.pv.ext0 he,h.kv.ext0 he,h.cl.ext0 he,h.kids.mono (fun b t hn=> NodeRI.ext he (by simp) _ _ _ hn),h.cnt⟩
theorem fy_ (r:Rf n) (hr:r.1=none) {m:Nat} (t:List (Pc m)) (leaf:Bool) (pl:List Pr) (ks:List Ky)
  (hnode: ∀w b,NodeR w n b r.2-> ∃rs,NodeB w b leaf pl ks rs/\KidsR (NodeR w m) rs t) (htl:t.length<=256)
  (hkid: ∀L,NdT L n r.2-> ∀k∈t,DskK L m k.2/\NdT L m k.2.2)
  (hfin: ∀L0 L t' ms,NdT L0 n r.2->WrL L m t t' t.length ms->(∀x∈L0,x∈L)-> ∃u:List (El n),(∀W nb rs',NodeB W nb leaf pl ks rs'->KidsR (NodeR W m) rs' t'->NodeR W n nb u)/\NdT L n u/\allW n u/\prs n u=prs n r.2/\(bkT n u).Perm (bkT n r.2++ms)/\szF n u<=szF n r.2/\Shp n u r.2)
  (hun: ∀c,unwC c n r=B_ c (szF n r.2)+(t.map (fun k=> unwC c m k.2)).sum)
  (ih: ∀k∈t,by_ m k.2):by_ n r:=by
 intro y v L pb ps yv w h hk hK hn hb
 unfold KidR at hk
 simp only [hr] at hk
 obtain⟨b,rfl,hnr⟩:=hk
 obtain⟨rs,hnb,hkr⟩:=hnode w b hnr
 obtain⟨pp,cp,pk,ck,pr,cr,c0,c1,c2,c3,hps,hks,hrs, -⟩:=hnb.cells
 obtain⟨M,hM⟩: ∃M,M=rs.length:=⟨_,rfl⟩
 have hMt:M=t.length:=by rw [hM,hkr.1]
 rw [<-hM] at c3 hrs
 have hM9:M<=256:=by omega
 simp only [refV,ptV,Option.map_some]
 obtain⟨PL,hPL⟩: ∃z,z=pl.length:=⟨_,rfl⟩
 obtain⟨KL,hKL⟩: ∃z,z=ks.length:=⟨_,rfl⟩
 rw [<-hPL] at c1 hps
 rw [<-hKL] at c2 hks
 have hE0:Ext [] w (((w.alloc (.cells #[.int .i64 0,.int .i64 0,.int .i64 0,.string ⟨#[]⟩,.pointer (some ⟨b,0,none⟩)] 89)).alloc (.cells #[.int .i64 0,.int .i64 0,.int .i64 0,.string ⟨#[]⟩,.pointer none] 89)).alloc (.cells #[.bool leaf,.slice pp PL cp,.slice pk KL ck,.slice pr M cr] 125)):=(((Ext.refl [] w).alloc _).alloc _).alloc _
 have hrb0:(((w.alloc (.cells #[.int .i64 0,.int .i64 0,.int .i64 0,.string ⟨#[]⟩,.pointer (some ⟨b,0,none⟩)] 89)).alloc (.cells #[.int .i64 0,.int .i64 0,.int .i64 0,.string ⟨#[]⟩,.pointer none] 89)).alloc (.cells #[.bool leaf,.slice pp PL cp,.slice pk KL ck,.slice pr M cr] 125)).heap[w.heap.size+1]? =some (.cells #[.int .i64 0,.int .i64 0,.int .i64 0,.string ⟨#[]⟩,.pointer none] 89 (0,0)):=((Ext.refl [] _).alloc _).blk (am_ (by simp)) (by simp)
 have hnb0:(((w.alloc (.cells #[.int .i64 0,.int .i64 0,.int .i64 0,.string ⟨#[]⟩,.pointer (some ⟨b,0,none⟩)] 89)).alloc (.cells #[.int .i64 0,.int .i64 0,.int .i64 0,.string ⟨#[]⟩,.pointer none] 89)).alloc (.cells #[.bool leaf,.slice pp PL cp,.slice pk KL ck,.slice pr M cr] 125)).heap[w.heap.size+1+1]? =some (.cells #[.bool leaf,.slice pp PL cp,.slice pk KL ck,.slice pr M cr] 125 (0,0)):=am_ (by simp)
 have hEa:Ext [] w ((w.alloc (.cells #[.int .i64 0,.int .i64 0,.int .i64 0,.string ⟨#[]⟩,.pointer (some ⟨b,0,none⟩)] 89)).alloc (.cells #[.int .i64 0,.int .i64 0,.int .i64 0,.string ⟨#[]⟩,.pointer none] 89)):=((Ext.refl [] w).alloc _).alloc _
 have c0:=hEa.cell c0 (by simp)
 have c1:=hEa.cell c1 (by simp)
 have c2:=hEa.cell c2 (by simp)
 have c3:=hEa.cell c3 (by simp)
 obtain⟨HE0,HRB0,HNB0,HPS,HKS,HRS⟩:=h_6 hE0 hrb0 hnb0 hps hks hrs
 have HKR:Hid (KidsR (NodeRI (fun k=> k < w.heap.size) w m) rs t):=hi_ (hkr.mono (fun b t hn=> NodeR.toI _ _ _ hn))
 obtain⟨HMM,HMT,HH,HND,HB,HFIN,HIH,HUN⟩:=h_8 hM hMt h hn hb hfin ih hun
 obtain⟨HKID,HR⟩:=h_2 hkid hr
 clear hEa hE0 hrb0 hnb0 hps hks hrs hkr hM hMt h hn hb hfin ih hun hkid hr hnode hnr hnb hK htl hPL hKL
 go_enter Tryz.func46,Tryz.ntmps46
 go_wp2_with fail
 obtain⟨rb,hrb⟩: ∃z,z=w.heap.size+1:=⟨_,rfl⟩
 obtain⟨nb,hnb⟩: ∃z,z=w.heap.size+1+1:=⟨_,rfl⟩
 have HRB:Hid (rb=w.heap.size+1):=hi_ hrb
 have HNBE:Hid (nb=w.heap.size+2):=hi_ hnb
 rw [<-hnb] at HNB0
 try simp only [<-hnb]
 rw [<-hrb] at HRB0
 try simp only [<-hrb]
 clear hnb hrb
 revert HE0 HRB0 HNB0
 generalize World.alloc _ _=W0
 intro HE0 HRB0 HNB0
 refine(bG_ (.slice pr M cr) rs W0 (by rw [<-HMM.out];omega) (HRS.out.rd.ext0 HE0.out)).mono ?_
 rintro e W1 ⟨u1,rfl,how1,hE1,hf1, -⟩
 obtain⟨p1,c1',rfl,_⟩:=how1.rd.len_eq
 rw [<-HMM.out] at how1 hf1 ⊢
 have hnb1:=hE1.blk HNB0.out (by simp)
 have hfz: ∀j,W1.frozen? ⟨nb,j,none⟩=false:=fun j=> frozen_of_row _ _ _ _ _ hnb1
 have n3:W1.cell? ⟨nb,3,none⟩=some (.slice pr M cr):=by rw [cell_of_row W1 nb 3 _ _ _ hnb1];rfl
 have hnb2:=heap_setCell_same W1 nb 3 _ _ (.slice p1 M c1') hnb1
 have hE2:Ext [nb] W1 (W1.setCell ⟨nb,3,none⟩ (.slice p1 M c1')):=(Ext.refl [nb] W1).setCell (.inl (by simp)) _
 have hE02:Ext [] w (W1.setCell ⟨nb,3,none⟩ (.slice p1 M c1')):=(HE0.out.trans hE1).trans' hE2 (by simp) (fun x hx=> .inr (by simp at hx;rw [hx,HNBE.out];omega))
 have hsz0:nb < W0.heap.size:=g_ HNB0.out
 have HCF:Hid (∀g∈blkL (.slice p1 M c1'),nb < g):=hi_ (fun g hg=> Nat.lt_of_lt_of_le hsz0 (hf1 g hg))
 have hi0:WrI y v L pb ps t leaf pl ks (.slice pp PL cp) (.slice pk KL ck) (.slice p1 M c1') nb rb w (W1.setCell ⟨nb,3,none⟩ (.slice p1 M c1')) 0 v L [] t rs:=by
  have ht1:=d_ hnb1
  have hkE: ∀(b:Nat) (t:List (El m)),NodeRI (fun k=> k < w.heap.size) w m b t->NodeRI (fun k=> k < w.heap.size) (W1.setCell ⟨nb,3,none⟩ (.slice p1 M c1')) m b t:=fun b t hn=> NodeRI.ext hE02 (by simp) _ _ _ hn
  refine⟨⟨by rw [List.append_nil];exact HH.out.ext0 hE02,PutsR.refl HH.out.dk,CF.of0 hE02⟩,WrL.start L t,hnb2,hE2.blk (hE1.blk HRB0.out (by simp)) (by simp;rw [HRB.out,HNBE.out];omega),HPS.out.ext0 hE02,HKS.out.ext0 hE02, ?_,HKR.out.mono hkE,by simp [F_]⟩
  exact how1.ext hE2 (fun g hg hm=> by
   simp at hm
   have:=HCF.out g hg
   omega)
 have HI0:=hi_ hi0
 clear how1 hf1 hE1 hnb1 hnb2 hE2 hE02 hsz0 hi0 HE0 HRB0 HNB0 HRS HKR HPS HKS c0 c1 c2 c3
 go_wp2_with fail
 clear n3 hfz
 revert HI0
 generalize World.setCell _ _ _=W2
 intro HI0
 go_loopw [31] (fun iv wr=> ∃(i:Nat) (v':Sv) (L':List Blk) (ms:List Ptr4) (t':List (Pc m)) (rs':List Rfm),iv= .int .i64 i/\i<=M/\Hid (WrI y v L pb ps t leaf pl ks (.slice pp PL cp) (.slice pk KL ck) (.slice p1 M c1') nb rb w wr i v' L' ms t' rs')) (fun iv _=> M - (intOf iv).toNat)
 case atStart=> exact⟨0,v,L,[],t,rs,rfl,Nat.zero_le _,HI0⟩
 case round=>
  clear HI0
  obtain⟨i,v',L',ms,t',rs',rfl,hi,HI⟩:=hrel
  have hrl':rs'.length=M:=by rw [HI.out.kids.1,HI.out.wl.len,HMT.out]
  have HRL:=hi_ hrl'
  by_cases hlt:i < M
  ·have z1:(i:Int) < (M:Int):=by omega
   obtain⟨g1,o1,rfl⟩: ∃g o,p1=some ⟨g,o,none⟩:=by
    rcases HI.out.cl with ⟨h,_⟩ | ⟨g,o,c,_,h,_⟩
    ·simp only [Value.slice.injEq] at h;omega
    ·simp only [Value.slice.injEq] at h;exact⟨g,_,h.1⟩
   have hcl:=HI.out.cl
   have hirs:i < rs'.length:=by omega
   obtain⟨m0,m1,m2,m3,m4⟩:=ba_ hcl.rd i hirs
   obtain⟨yk,hyk⟩: ∃z,rs'[i]? =some z:=⟨_,List.getElem?_eq_getElem hirs⟩
   have hyd:rs'.getD i R0=yk:=by simp [List.getD,hyk]
   rw [hyd] at m0 m1 m2 m3 m4
   obtain⟨xk,hxk⟩: ∃x:Pc m,t[i]? =some x:=⟨_,List.getElem?_eq_getElem (by rw [<-HMT.out];exact hlt)⟩
   have hxk':t'[i]? =some xk:=by rw [HI.out.wl.hi i (Nat.le_refl _)];exact hxk
   have hkk:=HI.out.kids.2 i yk xk hyk hxk'
   obtain⟨pw,hpw⟩: ∃q,q=Option.map (fun b=> (⟨b,0,none⟩:Addr)) yk.2:=⟨_,rfl⟩
   simp only [ptV] at m4
   rw [<-hpw] at m4
   have hEx:Ext [] wr (wr.alloc (.cells (refC yk pw) 89)):=(Ext.refl [] wr).alloc _
   have hix:=HI.out.ext0 hEx
   obtain⟨hd,hnk⟩:=HKID.out L HND.out xk (List.mem_of_getElem? hxk)
   have hlaw:=HIH.out xk (List.mem_of_getElem? hxk) y v' L' pb (ps++ms) yk _ hix.res.ws (hkk.mono (fun b hn=> (NodeRI.node _ _ _ (NodeRI.ext hEx (by simp) _ _ _ hn)))) (hd.mono hix.res.pr.sub) (hnk.mono hix.res.pr.sub) (HB.out.step hix.res.pr)
   simp only [refV,ptV] at hlaw
   rw [<-hpw] at hlaw
   obtain⟨HLAW,HIX,HXK⟩:=h_3 hlaw hix hxk
   have zi2:((i:Int)).toNat=i:=by omega
   clear hcl hyd hyk hxk' hkk hpw hEx hix hlaw hd hnk hirs hxk HI
   go_wp2_with fail
   refine HLAW.out.mono ?_
   rintro e W5 ⟨v5,L5,ms5,hres5,hcase⟩
   have hcf5:=hres5.cf
   have hsy:=HIX.out.res.ws.sy
   have hkE: ∀(b:Nat) (t:List (El m)),NodeRI (fun k=> k < w.heap.size) (wr.alloc (.cells (refC yk pw) 89)) m b t->NodeRI (fun k=> k < w.heap.size) W5 m b t:=fun b t hn=> NodeRI.cf hsy hcf5 _ _ _ hn
   have hr5:WrRes y v L pb ps w v5 L5 (ms++ms5) W5:=⟨by rw [<-List.append_assoc];exact hres5.ws,HIX.out.res.pr.trans hres5.pr,HIX.out.res.cf.trans hcf5⟩
   have HR5:=hi_ hr5
   have HSUB:=hi_ hres5.pr.sub
   have HNB5:=hi_ (CF.blk hsy hcf5 HIX.out.nb (by decide))
   have HRB5:=hi_ (CF.blk hsy hcf5 HIX.out.rb (by decide))
   have HPV5:=hi_ (HIX.out.pv.cf hsy hcf5 (by decide))
   have HKV5:=hi_ (HIX.out.kv.cf hsy hcf5 (by decide))
   have HCL5:=hi_ (HIX.out.cl.cf hsy hcf5 (by decide))
   have HKI5:=hi_ (HIX.out.kids.mono hkE)
   have HWL:=hi_ HIX.out.wl
   have hcn:((t.take (i+1)).map (fun k=> unwC y.k m k.2)).sum=((t.take i).map (fun k=> unwC y.k m k.2)).sum+unwC y.k m xk.2:=by
    rw [List.take_add_one,HXK.out];simp
   have hcl9:((t.take (i+1)).map (fun k=> unwC y.k m k.2)).sum<=(t.map (fun k=> unwC y.k m k.2)).sum:=by
    conv=> rhs;rw [<-List.take_append_drop (i+1) t]
    rw [List.map_append,List.sum_append];omega
   have HCN:Hid (∀z,F_ y.k ms+z<=((t.take i).map (fun k=> unwC y.k m k.2)).sum+z):=hi_ (fun z=> by have:=HIX.out.cnt;omega)
   obtain⟨HCN1,HCL9⟩:=h_2 hcn hcl9
   clear hcn hcl9
   clear hres5 hcf5 hsy hkE hr5 HLAW HIX m0 m1 m2 m3 m4
   rcases hcase with ⟨q,r',rfl,hq,hwo,hsm,hle⟩ | ⟨rfl,z5,hlt5,hnr5⟩
   ·simp only [refV,ptV,Option.map_none]
    have hwl':WrL L5 m t (t'.set i (xk.1,r')) (i+1) (ms++ms5):=HWL.out.step HXK.out hwo (fun h=> by rw [hsm h]) HSUB.out
    have hE11:Ext [] W5 (W5.alloc (.cells #[.int .i64 q.1,.int .i64 q.2.1,.int .i64 q.2.2.1,.string ⟨q.2.2.2.toArray⟩,.pointer none] 89)):=(Ext.refl [] W5).alloc _
    have hcl6:=HCL5.out.ext0 hE11
    have hi6:i < rs'.length:=by rw [HRL.out];exact hlt
    obtain⟨k0,k1,k2,k3,k4⟩:=ba_ hcl6.rd i hi6
    obtain⟨hcl7,hE7,hfz⟩:=rf_set (q,none) hcl6 hi6 none rfl rfl
    have n3:(W5.alloc (.cells #[.int .i64 q.1,.int .i64 q.2.1,.int .i64 q.2.2.1,.string ⟨q.2.2.2.toArray⟩,.pointer none] 89)).cell? ⟨nb,3,none⟩=some (.slice (some ⟨g1,o1,none⟩) M c1'):=by rw [cell_of_row _ nb 3 _ _ _ (hE11.blk HNB5.out (by simp))];rfl
    have hgn:=HCF.out g1 (by simp [blkL])
    have htg1:=hcl6.tagOf g1 (by simp [blkL])
    have hkids:KidsR (NodeRI (fun k=> k < w.heap.size) (((((((W5.alloc (.cells #[.int .i64 q.1,.int .i64 q.2.1,.int .i64 q.2.2.1,.string ⟨q.2.2.2.toArray⟩,.pointer none] 89)).setCell ⟨g1,o1+i*5,none⟩ (.int .i64 q.1)).setCell ⟨g1,o1+i*5+1,none⟩ (.int .i64 q.2.1)).setCell ⟨g1,o1+i*5+2,none⟩ (.int .i64 q.2.2.1)).setCell ⟨g1,o1+i*5+3,none⟩ (.string ⟨q.2.2.2.toArray⟩)).setCell ⟨g1,o1+i*5+4,none⟩ (.pointer none))) m) (rs'.set i (q,none)) (t'.set i (xk.1,r')):=by
     refine KidsR.set (HKI5.out.mono (fun b t hn=> NodeRI.ext hE7 (fun k hk hlt2=> ?_) _ _ _ (NodeRI.ext hE11 (by simp) _ _ _ hn))) i (q,none) (xk.1,r') ?_
     ·exfalso
      have hk':k=g1:=by simpa using hk
      have h9:=hgn
      rw [HNBE.out] at h9
      omega
     ·show KidR _ (q,none) r'
      unfold KidR
      simp only [hq]
    have HX:Hid (WrI y v L pb ps t leaf pl ks (.slice pp PL cp) (.slice pk KL ck) (.slice (some ⟨g1,o1,none⟩) M c1') nb rb w (((((((W5.alloc (.cells #[.int .i64 q.1,.int .i64 q.2.1,.int .i64 q.2.2.1,.string ⟨q.2.2.2.toArray⟩,.pointer none] 89)).setCell ⟨g1,o1+i*5,none⟩ (.int .i64 q.1)).setCell ⟨g1,o1+i*5+1,none⟩ (.int .i64 q.2.1)).setCell ⟨g1,o1+i*5+2,none⟩ (.int .i64 q.2.2.1)).setCell ⟨g1,o1+i*5+3,none⟩ (.string ⟨q.2.2.2.toArray⟩)).setCell ⟨g1,o1+i*5+4,none⟩ (.pointer none))) (i+1) v5 L5 (ms++ms5) (t'.set i (xk.1,r')) (rs'.set i (q,none))):=hi_ ⟨⟨(HR5.out.ws.ext0 hE11).ext hE7 (by simp only [List.mem_singleton,forall_eq,htg1];decide),HR5.out.pr,(HR5.out.cf.trans (CF.of0 hE11)).new hE7 (by simp only [List.mem_singleton,forall_eq];rw [HNBE.out] at hgn;omega)⟩,hwl',
     hE7.blk (hE11.blk HNB5.out (by simp)) (by simp;omega),hE7.blk (hE11.blk HRB5.out (by simp)) (by simp;rw [HNBE.out] at hgn;rw [HRB.out];omega),(HPV5.out.ext0 hE11).apart hcl6 (by simpa [blkL] using hE7) (by decide),(HKV5.out.ext0 hE11).apart hcl6 (by simpa [blkL] using hE7) (by decide),hcl7,hkids,by rw [dE_,HCN1.out];have:=HCN.out 0;omega⟩
    clear hwl' hcl6 hcl7 hE7 hkids hE11 HR5 HNB5 HRB5 HPV5 HKV5 HCL5 HKI5 HWL hwo hsm hq hle
    go_wp2_with fail
    go_roundw
    case rel=> exact⟨i+1,v5,L5,ms++ms5,_,_,by go_num,by omega,HX⟩
    case measure=> simp [intOf];omega
   ·simp only [refV,ptV,Option.map_none]
    have hE11:Ext [] W5 (W5.alloc (.cells #[.int .i64 0,.int .i64 0,.int .i64 0,.string ⟨#[]⟩,.pointer none] 89)):=(Ext.refl [] W5).alloc _
    have HRB6:=hi_ (hE11.blk HRB5.out (by simp))
    have HR6:Hid (WrRes y v L pb ps w v5 L5 (ms++ms5) (W5.alloc (.cells #[.int .i64 0,.int .i64 0,.int .i64 0,.string ⟨#[]⟩,.pointer none] 89))):=hi_ ⟨HR5.out.ws.ext0 hE11,HR5.out.pr,HR5.out.cf.trans (CF.of0 hE11)⟩
    have HCC:Hid (∃z,F_ y.k (ms++ms5)+z<=unwC y.k n r/\NoRoomZ y.k v5 z):=hi_ ⟨z5,by rw [dE_,HUN.out];have h1:=HCN.out 0;have h2:=HCL9.out;rw [HCN1.out] at h2;omega,hnr5⟩
    obtain⟨q0,q1,q2,q3,q4,hfz⟩:=aj_ HRB6.out
    clear hlt5 hnr5 hE11 HR5 HNB5 HRB5 HPV5 HKV5 HCL5 HKI5 HWL
    go_wp2_with fail
    obtain⟨hs,hE9⟩:=set5 HRB6.out (.int .i64 0) (.int .i64 0) (.int .i64 0) (.string ⟨#[]⟩) (.pointer none)
    obtain⟨s0,s1,s2,s3,s4,_⟩:=aj_ hs
    refine bodyPost_ret (v:= .tuple #[.agg #[.int .i64 0,.int .i64 0,.int .i64 0,.string ⟨#[]⟩,.pointer none],.int .i64 5]) (by simp [results,Tryz.results46,go_sem,s0,s1,s2,s3,s4]) rfl ?_
    have htg:=d_ HRB6.out
    exact⟨_,_,_,⟨(HR6.out).ws.ext hE9 (by simp only [List.mem_singleton,forall_eq,htg];decide),(HR6.out).pr,(HR6.out).cf.new hE9 (by simp;rw [HRB.out];omega)⟩,.inr ⟨rfl,HCC.out⟩⟩
  ·have z1: ¬((i:Int) < (M:Int)):=by omega
   have hiM:i=t.length:=by rw [<-HMT.out];omega
   have hwl:=HI.out.wl
   rw [hiM] at hwl
   obtain⟨u,hu1,hu2,hu3,hu4,hu5,hu6,hu7⟩:=HFIN.out L L' t' ms HND.out hwl HI.out.res.pr.sub
   have hnode:NodeR wr n nb u:=hu1 wr nb rs' ⟨_,_,_,HI.out.nb,HI.out.pv,HI.out.kv,HI.out.cl⟩ (HI.out.kids.mono (fun b t hn=> NodeRI.node _ _ _ hn))
   have HBY:=hi_ (fC_ n nb u wr hnode hu2.good)
   obtain⟨bs,hbs⟩: ∃b,b=bb_ n u:=⟨_,rfl⟩
   rw [<-hbs] at HBY
   have hb1:1<=bs.length:=by
    rw [hbs]
    have h1:=gR_ (ai_ n u)
    have h2:1<=(ai_ n u).length:=by cases n with
     | zero=> exact Nat.le_trans (by omega) (Nat.le_of_eq (gc_ u).symm)
     | succ n=> show 1<=(G_ (n:=n) u).length;simp only [G_,List.length_cons];omega
    show 1<=(encL (ai_ n u)).length
    omega
   have hb2:bs.length<=1024:=by rw [hbs];exact hu2.sz
   obtain⟨HU2,HU3,HU4,HU5,HU7,HBS⟩:=h_6 hu2 hu3 hu4 hu5 hu7 hbs
   have HCB:Hid (B_ y.k bs.length<=B_ y.k (szF n r.2)):=hi_ (iG_ y.k (by rw [hbs];exact hu6))
   have hcnt:=HI.out.cnt
   rw [hiM,List.take_length] at hcnt
   have HCNT:=hi_ hcnt
   clear hcnt
   have hbst:=HB.out.step HI.out.res.pr
   have HBT:=hi_ hbst
   clear hnode hu1 hu2 hu3 hu4 hu5 hu6 hu7 hwl hbs hbst hiM
   go_wp2_with fail
   refine HBY.out.mono ?_
   rintro e W7 ⟨ub,rfl,howb,hEb,hfb⟩
   obtain⟨pu,cu,rfl,_⟩:=howb.rd.len_eq
   have hi7:=HI.out.ext0 hEb
   have hfr:0<=cntL v'.spc.free:=aX_ hi7.res.ws.sy.spi.okF
   have hput:=stput_c y v' (.slice pu bs.length cu) bs W7 hi7.res.ws.sy howb.rd howb.tagOf hb1 hb2 (by have:=HBT.out.ws;omega)
   obtain⟨HPUT,HI7⟩:=h_2 hput hi7
   clear howb hEb hfb hi7 hput HBY HI
   obtain⟨BL,hBL⟩: ∃z,z=bs.length:=⟨_,rfl⟩
   rw [<-hBL] at hb1 hb2 HPUT ⊢
   have HBLE:=hi_ hBL
   clear hBL
   go_wp2_with fail
   refine HPUT.out.mono ?_
   rintro e W8 hpost
   have hsy7:=HI7.out.res.ws.sy
   rcases hpost with ⟨rfl,hsy8,hF8,hno⟩ | ⟨a,v8,rfl,hsy8,hF8,hrel⟩
   ·simp only [pagg]
    have hE11:Ext [] W8 (W8.alloc (.cells #[.int .i64 0,.int .i64 0,.int .i64 0,.string ⟨#[]⟩] 34)):=(Ext.refl [] W8).alloc _
    have HRB6:=hi_ (hE11.blk (hF8.blk hsy7 HI7.out.rb (by decide)) (by simp))
    have HR6:Hid (WrRes y v L pb ps w v' L' ms (W8.alloc (.cells #[.int .i64 0,.int .i64 0,.int .i64 0,.string ⟨#[]⟩] 34))):=hi_ ⟨⟨hsy8.ext0 hE11,HI7.out.res.ws.dk,(HI7.out.res.ws.put.syf hsy7 hF8).ext hE11 (by simp)⟩,HI7.out.res.pr,(HI7.out.res.cf.trans (CF.of hF8)).trans (CF.of0 hE11)⟩
    have HCC:Hid (∃z,F_ y.k ms+z<=unwC y.k n r/\NoRoomZ y.k v' z):=hi_ ⟨B_ y.k bs.length,by rw [HUN.out];have h1:=HCNT.out;have h2:=HCB.out;omega,bs.length,by rw [<-HBLE.out];exact hb1,by rw [<-HBLE.out];exact hb2,Nat.le_refl _,hno⟩
    obtain⟨q0,q1,q2,q3,q4,hfz⟩:=aj_ HRB6.out
    clear hno hE11 HI7 hsy8 hF8 hsy7 HPUT
    go_wp2_with fail
    obtain⟨hs,hE9⟩:=set5 HRB6.out (.int .i64 0) (.int .i64 0) (.int .i64 0) (.string ⟨#[]⟩) (.pointer none)
    obtain⟨s0,s1,s2,s3,s4,_⟩:=aj_ hs
    refine bodyPost_ret (v:= .tuple #[.agg #[.int .i64 0,.int .i64 0,.int .i64 0,.string ⟨#[]⟩,.pointer none],.int .i64 5]) (by simp [results,Tryz.results46,go_sem,s0,s1,s2,s3,s4]) rfl ?_
    have htg:=d_ HRB6.out
    exact⟨_,_,_,⟨(HR6.out).ws.ext hE9 (by simp only [List.mem_singleton,forall_eq,htg];decide),(HR6.out).pr,(HR6.out).cf.new hE9 (by simp;rw [HRB.out];omega)⟩,.inr ⟨rfl,HCC.out⟩⟩
   ·simp only [pagg,<-HBLE.out]
    obtain⟨SH,hSH⟩: ∃z,z=shaF bs:=⟨_,rfl⟩
    rw [<-hSH]
    have HSH:=hi_ hSH
    have hF:=HBT.out
    have hpr9:=PutsR.single HI7.out.res.ws.dk hsy7.spi hsy7.cells hrel (by rw [<-HBLE.out];exact hb1) (by rw [<-HBLE.out];exact hb2) hF.ws hsy8.spi
    have hbd:=(hrel.took.1.bound hsy7.spi (by have:=aP_ y.k bs.length (by rw [<-HBLE.out];exact hb1) (by rw [<-HBLE.out];exact hb2);omega))
    have hq9:GoodPt (a,BL,v'.st.txg,SH):=⟨by
      have h1:=hsy7.spi.c2
      have h2:=aP_ y.k bs.length (by rw [<-HBLE.out];exact hb1) (by rw [<-HBLE.out];exact hb2)
      show a<=40000
      omega,hb1,hb2,hF.t0,hF.t1,by show SH.length=32;rw [hSH,eA_]⟩
    rw [<-HBLE.out,<-hSH] at hpr9
    have hput8:=HI7.out.res.ws.put.syf hsy7 hF8
    obtain⟨gv,hg1,hg2,hg3⟩:=hput8
    obtain⟨p9,c9,rfl,_⟩:=hg2.rd.len_eq
    obtain⟨K9,hK9⟩: ∃z,z=(ps++ms).length:=⟨_,rfl⟩
    have hK5:K9<=500000:=by
     have h1:=hF.ps
     have h2:=aX_ hsy7.spi.okF
     rw [hK9];omega
    rw [<-hK9] at hg1 hg2 hg3
    obtain⟨bp,hbp⟩: ∃z,z=W8.heap.size:=⟨_,rfl⟩
    have hE11:Ext [] W8 (W8.alloc (.cells #[.int .i64 a,.int .i64 BL,.int .i64 v'.st.txg,.string ⟨SH.toArray⟩] 34)):=(Ext.refl [] W8).alloc _
    have hbb:=heap_alloc_new W8 (.cells #[.int .i64 a,.int .i64 BL,.int .i64 v'.st.txg,.string ⟨SH.toArray⟩] 34)
    have hrb8:=hF8.blk hsy7 HI7.out.rb (by decide)
    have hglt: ∀g∈blkL (.slice p9 K9 c9),g < bp:=fun g hg=> by rw [hbp];exact hg2.lt g hg
    obtain⟨HG1,HG2,HG3,HGL,HPR9,HQ9,HRB8,HSY8⟩:=h_8 hg1 hg2 hg3 hglt hpr9 hq9 hrb8 hsy8
    have HCF8:=hi_ (HI7.out.res.cf.trans (CF.of hF8))
    obtain⟨HBB,HE11,HKK⟩:=h_3 hbb hE11 hK9
    clear hSH hF hpr9 hbd hq9 hg1 hg2 hg3 hE11 hbb hrb8 hglt hsy8 hF8 hK9
    go_wp2_with fail
    rw [<-hbp] at HBB
    try simp only [<-hbp]
    clear hbp
    revert HBB HE11
    generalize World.alloc _ _=W9
    intro HBB HE11
    obtain⟨x0,x1,x2,x3, -⟩:=M_ HBB.out
    have g0:W9.cell? ⟨pb,0,none⟩=some (.slice p9 K9 c9):=by rw [cell_of_row _ pb 0 _ _ _ (HE11.out.blk HG1.out (by simp))];rfl
    have hD:=(Ext.refl [] W9).drew
    refine e_ (fun W=> W.cell? ⟨pb,0,none⟩=some (.slice p9 K9 c9)/\W.cell? ⟨bp,0,none⟩=some (.int .i64 a)/\W.cell? ⟨bp,1,none⟩=some (.int .i64 BL)/\W.cell? ⟨bp,2,none⟩=some (.int .i64 v'.st.txg)/\W.cell? ⟨bp,3,none⟩=some (.string ⟨SH.toArray⟩)) (fun i=> i==3 || i==4 || i==5) (by kernel_rfl) ⟨hD.cell g0 (by simp),hD.cell x0 (by simp),hD.cell x1 (by simp),hD.cell x2 (by simp),hD.cell x3 (by simp)⟩ (fun hS=> ?_)
    refine PUq 0 ?_;(try go_frame);refine PUq 1 ?_;(try go_frame);refine PUq 2 ?_;(try go_frame)
    refine ta 3 ?_;(try go_frame);refine ta 4 ?_;(try go_frame)
    refine a_ (i:=5) (by kernel_rfl) rfl (fun K hK=> ?_)
    (try simp only [Act.put,zA,zB,zC,List.setIfInBounds_toArray,zD,zE]);refine iw rfl ?_
    go_simp
    have hE12:Ext [] W9 (W9.alloc (.cells #[.int .i64 a,.int .i64 BL,.int .i64 v'.st.txg,.string ⟨SH.toArray⟩] 34)).drew:=((Ext.refl [] W9).alloc _).drew
    have hrd12:=(eQ_ (T:=34) W9 (a,BL,v'.st.txg,SH)).drew
    refine hK.out _ _ (fun _=> ⟨hE12.cell g0 (by simp),hE12.cell x0 (by simp),hE12.cell x1 (by simp),hE12.cell x2 (by simp),hE12.cell x3 (by simp)⟩) (fun _=> ?_)
    have hbb12:=hE12.blk HBB.out (by simp)
    have HE12:=hi_ (HE11.out.trans hE12)
    obtain⟨HRD12,HBB12⟩:=h_2 hrd12 hbb12
    clear hK hS x0 x1 x2 x3 g0 hD hE12 hrd12 hbb12 HBB HE11
    revert HE12 HRD12 HBB12
    generalize World.drew _=W12
    intro HE12 HRD12 HBB12
    refine a_ (i:=6) (by kernel_rfl) rfl (fun K hK=> ?_)
    (try simp only [Act.put,zA,zB,zC,List.setIfInBounds_toArray,zD,zE]);refine iw rfl ?_
    refine b_ (s:= .tmp 74) (x:= .tmp 76) (E:=EP) (T:=34) (zero:=(0,0,0,[])) (bytes:=40) (v:= .slice p9 K9 c9) (xs:=ps++ms) (ys:= [(a,BL,v'.st.txg,SH)]) tiEP Tryz.underlying38 Tryz.underlying38 rfl rfl rfl (HG2.out.ext0 HE12.out) HRD12.out (by rw [<-HKK.out];simp;omega) (by rw [<-HKK.out];simp;omega) ?_
    intro v13 W13 how13 hext13 hnear13 _
    obtain⟨p13,c13,rfl,_⟩:=how13.rd.len_eq
    obtain⟨K13,hK13⟩: ∃z,z=(ps++ms++ [(a,BL,v'.st.txg,SH)]).length:=⟨_,rfl⟩
    rw [<-hK13] at how13 hnear13 ⊢
    have hpb13:=hext13.blk (HE12.out.blk HG1.out (by simp)) (fun hm=> (HG2.out.ext0 HE12.out).ne (HE12.out.blk HG1.out (by simp)) (by decide) pb hm rfl)
    have hbp13:=hext13.blk HBB12.out (fun hm=> by have:=HGL.out bp hm;omega)
    have hrb13:=hext13.blk (HE12.out.blk HRB8.out (by simp)) (fun hm=> (HG2.out.ext0 HE12.out).ne (HE12.out.blk HRB8.out (by simp)) (by decide) rb hm rfl)
    have hfz: ∀z,W13.frozen? ⟨pb,z,none⟩=false:=fun z=> frozen_of_row _ _ _ _ _ hpb13
    have g13:W13.cell? ⟨pb,0,none⟩=some (.slice p9 K9 c9):=by rw [cell_of_row _ pb 0 _ _ _ hpb13];rfl
    have hpb14:=heap_setCell_same W13 pb 0 _ _ (.slice p13 K13 c13) hpb13
    have hE14:Ext [pb] W13 (W13.setCell ⟨pb,0,none⟩ (.slice p13 K13 c13)):=(Ext.refl [pb] W13).setCell (.inl (by simp)) _
    have htgp:=d_ hpb13
    have htgr:=d_ hrb13
    have htgb:=d_ hbp13
    have hrb14:=hE14.blk hrb13 (by simp;intro e;rw [e,htgp] at htgr;cases htgr)
    have hbp14:=hE14.blk hbp13 (by simp;intro e;rw [e,htgp] at htgb;cases htgb)
    have htags:=(HG2.out.ext0 HE12.out).tagOf
    have hws:WS y v8 ((a,bs)::L') pb (ps++ms++ [(a,BL,v'.st.txg,SH)]) (W13.setCell ⟨pb,0,none⟩ (.slice p13 K13 c13)):=by
     refine⟨((HSY8.out.ext0 HE12.out).otherT hext13 (fun g hg T hT=> by rw [htags g hg];revert T;decide)).otherT hE14 (by simp only [List.mem_singleton,forall_eq,htgp];decide),HPR9.out.dk,_,hpb14,how13.ext hE14 (by simpa using how13.ne hpb13 (by decide)),fun g hg=> ?_⟩
     rcases hnear13 g hg with h | h
     ·exact HG3.out g h
     ·have h1:=g_ hpb13
      have h2:=g_ (HE12.out.blk HG1.out (by simp))
      omega
    have hcf:CF y pb w (W13.setCell ⟨pb,0,none⟩ (.slice p13 K13 c13)):=by
     refine((HCF8.out.trans (CF.of0 HE12.out)).trans (CF.own hext13 (fun k hk=> ⟨HG3.out k hk,_,by simp,htags k hk⟩))).trans (CF.own hE14 (fun k hk=> ?_))
     simp at hk
     subst hk
     exact⟨Nat.le_refl _,_,by simp,htgp⟩
    have HRES:=hi_ (⟨by rw [<-List.append_assoc];exact hws,HI7.out.res.pr.trans HPR9.out,hcf⟩:WrRes y v L pb ps w v8 ((a,bs)::L') (ms++ [(a,BL,v'.st.txg,SH)]) (W13.setCell ⟨pb,0,none⟩ (.slice p13 K13 c13)))
    obtain⟨HRB14,HBP14⟩:=h_2 hrb14 hbp14
    refine nk hK ?_
    clear hK how13 hext13 hnear13 hpb13 hbp13 hrb13 hpb14 hE14 htgp htgr htgb hrb14 hbp14 htags hws hcf HSY8 HCF8 HE12 HRD12 HBB12 HG1 HG2 HG3 HGL HRB8 hK13
    refine PUq 7 ?_;(try go_frame);(try simp only [zA,zB,zC,zD,zE])
    refine a_ (i:=8) (by kernel_rfl) rfl (fun K hK=> ?_)
    rw [if_pos (show Region.wanted _ _=true from rfl)]
    go_simp
    refine nk hK ?_
    refine c_ (by kernel_rfl) ?_ _
    clear hK hfz g13
    revert HRES HRB14 HBP14
    generalize World.setCell _ _ _=W14
    intro HRES HRB14 HBP14
    obtain⟨x0,x1,x2,x3, -⟩:=M_ HBP14.out
    obtain⟨q0,q1,q2,q3,q4,hfz⟩:=aj_ HRB14.out
    go_wp2_with fail
    obtain⟨hs,hE15⟩:=set5 HRB14.out (.int .i64 a) (.int .i64 BL) (.int .i64 v'.st.txg) (.string ⟨SH.toArray⟩) (.pointer none)
    obtain⟨s0,s1,s2,s3,s4,_⟩:=aj_ hs
    refine bodyPost_ret (v:= .tuple #[.agg #[.int .i64 a,.int .i64 BL,.int .i64 v'.st.txg,.string ⟨SH.toArray⟩,.pointer none],.int .i64 0]) (by simp [results,Tryz.results46,go_sem,s0,s1,s2,s3,s4]) rfl ?_
    have htg:=d_ HRB14.out
    refine⟨v8,(a,bs)::L',ms++ [(a,BL,v'.st.txg,SH)],⟨HRES.out.ws.ext hE15 (by simp only [List.mem_singleton,forall_eq,htg];decide),HRES.out.pr,HRES.out.cf.new hE15 (by simp;rw [HRB.out];omega)⟩,.inl ⟨(a,BL,v'.st.txg,SH),(some (a,BL,v'.st.txg,SH),u),rfl,rfl,⟨?_, ?_,HU4.out, ?_,rfl,HU7.out⟩,(fun h=> by rw [HR.out] at h;cases h),by rw [HUN.out,dE_];have h1:=HCNT.out;have h2:=HCB.out;rw [<-HBLE.out] at h2;simp [F_] at h1 ⊢;omega⟩⟩
    ·intro q hq
     cases hq
     exact⟨by rw [<-HBS.out];simp,⟨by rw [<-HBS.out];exact HBLE.out,by rw [<-HBS.out];exact HSH.out⟩,HQ9.out,HU3.out,HU2.out.nil⟩
    ·exact HU2.out.mono (fun x hx=> List.mem_cons_of_mem _ hx)
    ·have h5:=HU5.out
     have e1:bkR ((some (a,BL,v'.st.txg,SH),u):Rf n)= [(a,BL,v'.st.txg,SH)]++bkT n u:=rfl
     have e2:bkR r=bkT n r.2:=by rw [bkR,HR.out];rfl
     rw [e1,e2]
     rw [List.perm_iff_count] at h5 ⊢
     intro z
     have:=h5 z
     simp only [List.count_append] at*
     omega
theorem ek_ (t:List (Pc n)):o_ t=((t.map (fun k=> (k.1,prs n k.2.2))).drop 1).map (fun z=> z.1):=by
 rw [o_,<-List.map_drop,List.map_map];rfl
theorem fv_ (r:Rf 0):by_ 0 r:=by
 intro y v L pb ps yv w h hk hK hn hb
 cases hr:r.1 with
 | some q=> exact cQ_ r q hr y v L pb ps yv w h hk hK hn hb
 | none=>
  refine fy_ r hr (m:=0) [] true r.2 [] (fun w b hnr=> ⟨[],hnr,rfl,fun i y x hy=> by simp at hy⟩) (by simp) (fun _ _ k hk=> by cases hk) (fun L0 L t' ms hn hw hL=> ⟨r.2,fun W nb rs' h1 h2=> ?_,hn.mono hL,trivial,rfl, ?_,Nat.le_refl _,Shp.refl _ _⟩) (fun c=> by rw [unwC,hr];simp) (fun k hk=> by cases hk) y v L pb ps yv w h hk hK hn hb
  ·have hl:=hw.len
   have hl2:rs'.length=0:=by rw [h2.1,hl];rfl
   obtain rfl:rs'= []:=List.eq_nil_of_length_eq_zero hl2
   exact h1
  ·have hl:=hw.len
   obtain rfl:t'= []:=List.eq_nil_of_length_eq_zero (by rw [hl];rfl)
   have hb:=hw.bk.length_eq
   have hm:ms= []:=List.eq_nil_of_length_eq_zero (by simpa [bkP] using hb.symm)
   subst hm
   simp
theorem fw_ (o:Option Ptr4) (t:List (Pc n)) (ih: ∀k:Pc n,by_ n k.2):by_ (n+1) (o,t):=by
 intro y v L pb ps yv w h hk hK hn hb
 cases hr:o with
 | some q=> subst hr;exact cQ_ (n:=n+1) (some q,t) q rfl y v L pb ps yv w h hk hK hn hb
 | none=>
  subst hr
  refine fy_ (n:=n+1) ((none:Option Ptr4),t) rfl (m:=n) t false [] (o_ t) (fun w b hnr=> hnr) (S_ hn.sz) (fun L hn k hk=> ⟨(hn.kid (t:=t) hk).dk,(hn.kid (t:=t) hk).nd⟩) (fun L0 L t' ms hn hw hL=> ?_) (fun c=> by rw [unwC];rfl) (fun k hk=> ih k) y v L pb ps yv w h hk hK hn hb
  have hwn:=hw.node (Nat.le_refl _) hn
  refine⟨t',fun W nb rs' h1 h2=> ⟨rs', ?_,h2⟩,hwn.nd,hwn.all,hwn.pr,hw.bk,hwn.szl,Shp.kids hw.len hw.shp⟩
  rw [ek_,hw.map,<-ek_]
  exact h1
theorem fz_: ∀(n:Nat) (r:Rf n),by_ n r
 | 0,r=> fv_ r
 | n+1,r=> fw_ r.1 r.2 (fun k=> fz_ n k.2)
structure WroteR (L':List Blk) (r r':Root) (q:Ptr4) (ms:List Ptr4):Prop where
 ok:RtOk L' r'
 pr:p_ r'=p_ r
 bk:(au_ r').Perm (au_ r++ms)
 at_:match r' with
  | none=> q=P0
  | some ⟨_,x⟩=> x.1=some q
 sh:(∃n x x',r=some ⟨n,x⟩/\r'=some ⟨n,x'⟩/\Shp n x'.2 x.2)\/(r=none/\r'=none)
def RootWP (y:Sy) (v:Sv) (L:List Blk) (pb:Nat) (r:Root) (w:World) (e:Ending) (w':World):Prop:=
 ∃v' L' ms,WrRes y v L pb [] w v' L' ms w'/\((∃q r',e= .returned (.tuple #[refV (q,none),.int .i64 0])/\WroteR L' r r' q ms/\F_ y.k ms<=unwR y.k r)\/(e= .returned (.tuple #[refV (P0,none),.int .i64 5])/\ ∃z,F_ y.k ms+z<=unwR y.k r/\NoRoomZ y.k v' z))
theorem fx_ {pb:Nat} (h:WS y v L pb [] w) (hr:RootR w yv r) (ho:RtOk L r) (hb:WrB v []):
  Calls Tryz.prog 46 #[.pointer (some ⟨y.b,0,none⟩),refV yv,.pointer (some ⟨pb,0,none⟩)] w (RootWP y v L pb r w):=by
 cases r with
 | none=>
  have hr:yv=(P0,none):=hr
  subst hr
  refine(dk_ _ _ P0 w).mono ?_
  rintro e w' ⟨rfl,hE⟩
  exact⟨v,L,[],⟨h.ext0 hE,PutsR.refl h.dk,CF.of0 hE⟩,.inl ⟨P0,none,rfl,⟨trivial,rfl,by simp,rfl,.inr ⟨rfl,rfl⟩⟩,by simp [F_]⟩⟩
 | some x=>
  obtain⟨n,x⟩:=x
  refine(fz_ n x y v L pb [] yv w h hr ho.1 ho.2 hb).mono ?_
  rintro e w' ⟨v',L',ms,hres,hc⟩
  refine⟨v',L',ms,hres, ?_⟩
  rcases hc with ⟨q,r',rfl,hq,hw, -,hl⟩ | ⟨rfl,hl,hn⟩
  ·exact .inl ⟨q,some ⟨n,r'⟩,rfl,⟨⟨hw.dk,hw.nd⟩,hw.pr,hw.bk,hq,.inl ⟨n,x,r',rfl,rfl,hw.shp⟩⟩,hl⟩
  ·exact .inr ⟨rfl,hl,hn⟩
structure GivI (y:Sy) (v0 v:Sv) (L:List Blk) (ms:List Ptr4) (i:Nat) (vi:Sv) (Li:List Blk):Prop where
 dk:DkS y vi Li
 sub: ∀x∈L,x∈Li
 rest: ∀q∈ms.drop i,∃bs,(q.1,bs)∈Li/\PtAt q bs
 free:vi.spc.free=v.spc.free
 leav:cntL vi.spc.leaving=cntL v.spc.leaving+F_ y.k (ms.take i)
 cells:vi.spc.cells=v.spc.cells
 back:vi.spc.back=v.spc.back
 txg:vi.st.txg=v.st.txg
 ws:vi.ws=v.ws
theorem GivI.start {v0 v:Sv} (p:PutsR y v0 v L L' ms):GivI y v0 v L ms 0 v L':=⟨p.dk,p.sub,by simpa using p.new,rfl,by simp [F_],rfl,rfl,rfl,rfl⟩
theorem GivI.step {v0 v vi v2:Sv} {L L' Li:List Blk} (p:PutsR y v0 v L L' ms) (h:GivI y v0 v L ms i vi Li) (hq:ms[i]? =some q) (hi:SpI vi.spc) (hc:vi.spc.cells=(((y.k+4)*(y.S - y.F):Nat):Int)) (hg:fl_ vi.spc q.1 (B_ y.k q.2.1) v2.spc err) (hw:v2.ws=vi.ws) (hm:(err≠0/\v2.st=vi.st)\/(err=0/\v2.st={vi.st with mem:=aW_ vi.st.mem q.1})):
  GivI y v0 v L ms (i+1) v2 (offL Li q.1):=by
 have hqm:q∈ms:=List.mem_of_getElem? hq
 have hd:ms.drop i=q::ms.drop (i+1):=by
  obtain⟨h1,h2⟩:=List.getElem?_eq_some_iff.1 hq
  rw [List.drop_eq_getElem_cons h1,h2]
 obtain⟨bs,h1,h2⟩:=h.rest q (by rw [hd];simp)
 have hsz:B_ y.k q.2.1=B_ y.k bs.length:=by rw [h2.1]
 rw [hsz] at hg
 obtain⟨he,gv,hdk⟩:=h.dk.give hi hc h1 hg hw hm
 subst he
 have hst:v2.st={vi.st with mem:=aW_ vi.st.mem q.1}:=by
  rcases hm with ⟨h3,_⟩ | ⟨_,h3⟩
  ·exact absurd rfl h3
  ·exact h3
 refine⟨hdk,fun x hx=> aN_.2 ⟨h.sub x hx,p.fresh q hqm x hx⟩,fun q' hq'=> ?_,gv.free.trans h.free, ?_,gv.cells.trans h.cells,gv.back.trans h.back,by rw [hst];exact h.txg,hw.trans h.ws⟩
 ·obtain⟨bs',h3,h4⟩:=h.rest q' (by rw [hd];exact List.mem_cons_of_mem _ hq')
  refine⟨bs',aN_.2 ⟨h3,fun e=> ?_⟩,h4⟩
  have hnd:((ms.drop i).map (fun q=> q.1)).Nodup:=by
   rw [List.map_drop];exact List.Pairwise.sublist (List.drop_sublist _ _) p.nodup
  rw [hd,List.map_cons,List.nodup_cons] at hnd
  exact hnd.1 (List.mem_map.2 ⟨q',hq',e⟩)
 ·have h5:=gv.cntV
  have h6:=h.leav
  have e:F_ y.k (ms.take (i+1))=F_ y.k (ms.take i)+B_ y.k q.2.1:=by
   rw [List.take_add_one,hq];simp [F_]
  rw [e,h5,h6,hsz]
  push_cast
  omega
structure FailR (y:Sy) (v v':Sv) (L L':List Blk):Prop where
 dk:DkS y v' L'
 sub: ∀x∈L,x∈L'
 cnt:cntL v'.spc.free+cntL v'.spc.leaving=cntL v.spc.free+cntL v.spc.leaving
 cells:v'.spc.cells=v.spc.cells
 back:v'.spc.back=v.spc.back
 txg:v'.st.txg=v.st.txg
 sum:v'.ws.length+cntL v'.spc.free=v.ws.length+cntL v.spc.free
theorem GivI.done {v0 v vi:Sv} {L L' Li:List Blk} (p:PutsR y v0 v L L' ms) (h:GivI y v0 v L ms i vi Li) (hi:ms.length<=i):FailR y v0 vi L Li:=by
 have hl:=h.leav
 rw [List.take_of_length_le hi] at hl
 have hc:=p.cnt
 have hs:=p.sum
 refine⟨h.dk,h.sub,by rw [h.free,hl,p.leaving];omega,h.cells.trans p.cells,h.back.trans p.back,h.txg.trans p.txg,by rw [h.ws,h.free];exact hs⟩
end Go.Proofs.YtkpgjkekmdecbaaGreat
