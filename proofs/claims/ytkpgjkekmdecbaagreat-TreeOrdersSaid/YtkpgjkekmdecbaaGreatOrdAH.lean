/- Lemmas for the claim. No conditions beside those that each states. -/
import Derived.Test.YtkpgjkekmdecbaaGreatOrdAG
import Derived.Test.YtkpgjkekmdecbaaGreatOrdAB
import Derived.Laws.MakeOwn
import Derived.Test.YtkpgjkekmdecbaaGreatOrdAD
import Derived.Test.YtkpgjkekmdecbaaGreatOrdAE
import Derived.Great.Ranges
set_option maxRecDepth 100000
set_option maxHeartbeats 8000000
set_option linter.all false

namespace Go.Proofs.YtkpgjkekmdecbaaGreat
open Go.RowKit
variable {w:World} {T:TypeId} {g k:Nat}
def bW_ (cells:Int) (r:Rng):Bool:=decide (0<=r.1) && decide (r.2<=cells) && decide (r.1 < r.2)
def dO_ (us:List Rng) (k:Nat):Prop:= ∀i < k,ah_ (us.take i) (us.getD i (0,0))=false
structure Fresh (s:Spc) (nc:Int) (us:List Rng) (k:Nat):Prop where
 cells:s.cells=nc
 back:s.back=0
 leaving:s.leaving= []
 used: ∀c,Mem s.used c↔Mem (us.take k) c
 cnt:cntL s.free=nc - cntL (us.take k)
theorem dB_ {s:List Rng} {r:Rng} (hs:Ok s) (hr:r.1 < r.2) (h: ∀c,r.1<=c/\c < r.2->Mem s c):hasB s r=true:=by
 obtain⟨x,hx,h1,h2⟩:=h r.1 ⟨by omega,hr⟩
 simp only [hasB,List.any_eq_true,Bool.and_eq_true,decide_eq_true_eq]
 refine⟨x,hx,h1, ?_⟩
 rcases Int.lt_or_le x.2 r.2 with h3 | h3
 ·obtain⟨y,hy,h4,h5⟩:=h x.2 ⟨by omega,h3⟩
  obtain⟨i,hi,rfl⟩:=List.getElem_of_mem hx
  obtain⟨j,hj,rfl⟩:=List.getElem_of_mem hy
  have e1:s.getD i (0,0)=s[i]:=by simp [List.getD,hi]
  have e2:s.getD j (0,0)=s[j]:=by simp [List.getD,hj]
  rcases Nat.lt_trichotomy i j with h6 | h6 | h6
  ·have:=hs.lt h6 hj;rw [e1,e2] at this;omega
  ·subst h6;omega
  ·have:=hs.lt h6 hi;rw [e1,e2] at this;have:=hs.2 _ hy;omega
 ·exact h3
theorem gK_ {s:List Rng} {r:Rng} (h:hasB s r=true): ∀c,r.1<=c/\c < r.2->Mem s c:=by
 simp only [hasB,List.any_eq_true,Bool.and_eq_true,decide_eq_true_eq] at h
 obtain⟨x,hx,h1,h2⟩:=h
 exact fun c hc=> ⟨x,hx,by omega,by omega⟩
theorem fZ_ {s t:List Rng} {r:Rng} (hr:r.1 < r.2) (hs: ∀x∈s,x.1 < x.2) (ht: ∀x∈t,x.1 < x.2) (h: ∀c,Mem s c↔Mem t c):ah_ s r=ah_ t r:=by
 rw [Bool.eq_iff_iff,bk_ hr hs,bk_ hr ht]
 simp only [h]
theorem cr_ {nc:Int} {r:Rng}:bW_ nc r=true↔0<=r.1/\r.2<=nc/\r.1 < r.2:=by
 simp only [bW_,Bool.and_eq_true,decide_eq_true_eq,and_assoc]
theorem Fresh.start {nc:Int} (us:List Rng) (h1:1<=nc) (h2:nc<=40000):SpI ⟨nc,[(0,nc)],[],[],0⟩/\Fresh ⟨nc,[(0,nc)],[],[],0⟩ nc us 0:=by
 refine⟨⟨h1,h2,⟨List.pairwise_singleton _ _,by simp;omega⟩,Ok.nil,Ok.nil, ?_, ?_, ?_, ?_,by simp,by simp [cntL];omega⟩,⟨rfl,rfl,rfl, ?_,by simp [cntL]⟩⟩ <;> simp [Mem]
theorem Fresh.meets {s:Spc} {nc:Int} {us:List Rng} (h:Fresh s nc us k) (hi:SpI s) (hall:us.all (bW_ nc)=true) {x:Rng} (hx:x.1 < x.2):ah_ s.used x=ah_ (us.take k) x:=by
 refine fZ_ hx (fun y hy=> (hi.okU.2 y hy).2.1) (fun y hy=> ?_) h.used
 have:=cr_.1 (List.all_eq_true.1 hall y (List.mem_of_mem_take hy))
 exact this.2.2
theorem Fresh.has {s:Spc} {nc:Int} {us:List Rng} (h:Fresh s nc us k) (hi:SpI s) {x:Rng} (hx:bW_ nc x=true) (hm:ah_ s.used x=false):hasB s.free x=true:=by
 obtain⟨h1,h2,h3⟩:=cr_.1 hx
 refine dB_ hi.okF h3 (fun c hc=> ?_)
 have h4:=(hi.all c).1 ⟨by omega,by rw [h.cells];omega⟩
 rcases h4 with h4 | h4 | h4
 ·exact h4
 ·have h5:ah_ s.used x=true:=(bk_ h3 (fun y hy=> (hi.okU.2 y hy).2.1)).2 ⟨c,h4,hc⟩
  rw [hm] at h5;cases h5
 ·rw [h.leaving] at h4;exact(ce_ h4).elim
theorem Fresh.step {s:Spc} {nc:Int} {us:List Rng} (h:Fresh s nc us k) (hi:SpI s) {x:Rng} (hxe:us.take (k+1)=us.take k++ [x]) (hx:bW_ nc x=true)
  (hh:hasB s.free x=true) {F U:List Rng}
  (hF:Ok F/\(∀c,Mem F c↔Mem s.free c/\ ¬(x.1<=c/\c < x.2))/\cntL F=cntL s.free - (x.2 - x.1))
  (hU:Ok U/\(∀c,Mem U c↔Mem s.used c\/(x.1<=c/\c < x.2))/\cntL U=cntL s.used+(x.2 - x.1)):SpI ⟨s.cells,F,U,s.leaving,s.back⟩/\Fresh ⟨s.cells,F,U,s.leaving,s.back⟩ nc us (k+1):=by
 obtain⟨f1,f2,f3⟩:=hF
 obtain⟨u1,u2,u3⟩:=hU
 obtain⟨h1,h2,h3⟩:=cr_.1 hx
 have hm:=gK_ hh
 have hiff: ∀c,(x.1<=c/\c < x.1+(x.2 - x.1))↔(x.1<=c/\c < x.2):=by intro c;omega
 have ht:Took s ⟨s.cells,F,U,s.leaving,s.back⟩ x.1 (x.2 - x.1):=
  ⟨rfl,rfl,rfl,by intro c;rw [hiff];exact f2 c,by intro c;rw [hiff];exact u2 c,f3,u3,h1,fun c hc=> hm c (by omega)⟩
 have hn:=aX_ f1
 have hb:=h.back
 refine⟨hi.took ht f1 u1 (by omega),⟨h.cells,h.back,h.leaving,fun c=> ?_, ?_⟩⟩
 ·show Mem U c↔_
  rw [u2 c,h.used c,hxe,bU_,bc_]
  have:= @ce_ c
  grind
 ·show cntL F=_
  rw [f3,h.cnt,hxe,aY_]
  simp [cntL];omega
def NewRel (cells:Int) (us:List Rng) (w w':World) (p:Option Addr) (err:Int):Prop:=
 ((cells < 1\/40000 < cells)/\p=none/\err=1)\/
 (1<=cells/\cells<=40000/\us.all (bW_ cells)=false/\p=none/\err=2)\/
 (1<=cells/\cells<=40000/\us.all (bW_ cells)=true/\ ¬dO_ us us.length/\p=none/\err=8)\/
 (1<=cells/\cells<=40000/\us.all (bW_ cells)=true/\dO_ us us.length/\err=0/\ ∃b s,p=some ⟨b,0,none⟩/\w.heap.size<=b/\SpR w' b s/\SpI s/\Fresh s cells us us.length)
def NewPost (cells:Int) (us:List Rng) (w:World) (e:Ending) (w':World):Prop:=
 ∃p err,e= .returned (.tuple #[.pointer p,.int .i64 err])/\Ext [] w w'/\NewRel cells us w w' p err
theorem new_c (cells:Int) (v:Value) (us:List Rng) (w:World) (hu:ER.Rd w v us) (hc1: -9223372036854775808<=cells) (hc2:cells<=9223372036854775807) (hl:us.length<=9223372036854775807):
  Calls Tryz.prog 56 #[.int .i64 cells,v] w (NewPost cells us w):=by
 obtain⟨pv,cv,rfl,_⟩:=hu.len_eq
 have HU:=hi_ hu
 clear hu
 by_cases g1:cells < 1
 ·go_enter Tryz.func56,Tryz.ntmps56
  go_wp2
  go_ret2
  exact⟨none,1,rfl,Ext.refl _ _,.inl ⟨.inl g1,rfl,rfl⟩⟩
 ·by_cases g2:40000 < cells
  ·go_enter Tryz.func56,Tryz.ntmps56
   go_wp2
   go_ret2
   exact⟨none,1,rfl,Ext.refl _ _,.inl ⟨.inr g2,rfl,rfl⟩⟩
  ·go_enter Tryz.func56,Tryz.ntmps56
   go_wp2_with fail
   go_loopw [7,19] (fun _ i wr=> ∃k:Nat,k<=us.length/\i= .int .i64 k/\Ext [] w wr/\Hid ((us.take k).all (bW_ cells)=true)) (fun _ i _=> us.length - (intOf i).toNat)
   case atStart=> exact⟨0,Nat.zero_le _,rfl,Ext.refl _ _,rfl⟩
   case round=>
    obtain⟨k,hk,rfl,hB,hall⟩:=hrel
    by_cases hlt:k < us.length
    ·obtain⟨g,o,rfl⟩: ∃g o,pv=some ⟨g,o,none⟩:=by
      rcases HU.out with ⟨_,h⟩ | ⟨g,o,c,h,_⟩
      ·rw [h] at hlt;simp at hlt
      ·cases h;exact⟨g,o,rfl⟩
     obtain⟨hm1,hm2⟩:=E_ (HU.out.ext0 hB) k hlt
     have hts:us.take (k+1)=us.take k++ [us.getD k (0,0)]:=fE_ hlt
     have hmem:us.getD k (0,0)∈us:=cs_ hlt
     obtain⟨x,hx⟩: ∃x,x=us.getD k (0,0):=⟨_,rfl⟩
     rw [<-hx] at hm1 hm2 hts hmem
     obtain⟨HTS,HM⟩:=h_2 hts hmem
     clear hx hts hmem
     by_cases gx:bW_ cells x=true
     ·have HGX:=hi_ gx
      simp only [bW_,Bool.and_eq_true,decide_eq_true_eq] at gx
      obtain⟨⟨a1,a2⟩,a3⟩:=gx
      go_wp2
      go_roundw
      case rel=>
       refine⟨k+1,by omega,by go_num,hB.alloc _, ?_⟩
       show _=true
       rw [HTS.out,List.all_append,hall.out]
       simp [HGX.out]
      case measure=> simp [intOf];omega
     ·have hbad:us.all (bW_ cells)=false:=by
       cases h:us.all (bW_ cells) with
       | false=> rfl
       | true=> exact(gx (List.all_eq_true.1 h x HM.out)).elim
      have HBAD:=hi_ hbad
      have gx': ¬(0<=x.1)\/ ¬(x.2<=cells)\/ ¬(x.1 < x.2):=by
       simp only [bW_,Bool.and_eq_true,decide_eq_true_eq] at gx
       omega
      clear hbad gx
      by_cases a1:x.1 < 0
      ·clear gx'
       go_wp2
       go_ret2
       exact⟨none,2,rfl,hB.alloc _,.inr (.inl ⟨by omega,by omega,HBAD.out,rfl,rfl⟩)⟩
      ·by_cases a2:cells < x.2
       ·clear gx'
        go_wp2
        go_ret2
        exact⟨none,2,rfl,hB.alloc _,.inr (.inl ⟨by omega,by omega,HBAD.out,rfl,rfl⟩)⟩
       ·have a3:x.2<=x.1:=by omega
        clear gx'
        go_wp2
        go_ret2
        exact⟨none,2,rfl,hB.alloc _,.inr (.inl ⟨by omega,by omega,HBAD.out,rfl,rfl⟩)⟩
    ·obtain rfl:k=us.length:=by omega
     have hall':us.all (bW_ cells)=true:=by have h:=hall.out;rwa [List.take_length] at h
     have HALL:=hi_ hall'
     clear hall' hall
     go_wp2_with fail
     have hE0:Ext [] w ((wr.alloc (.cells #[.int .i64 0,.int .i64 cells] 165)).alloc (.cells #[.int .i64 cells,.slice (some ⟨wr.heap.size,0,none⟩) 1 1,.slice none 0 0,.slice none 0 0,.int .i64 0] 168)):=(hB.alloc _).alloc _
     have hb0:((wr.alloc (.cells #[.int .i64 0,.int .i64 cells] 165)).alloc (.cells #[.int .i64 cells,.slice (some ⟨wr.heap.size,0,none⟩) 1 1,.slice none 0 0,.slice none 0 0,.int .i64 0] 168)).heap[wr.heap.size+1]? =some (.cells #[.int .i64 cells,.slice (some ⟨wr.heap.size,0,none⟩) 1 1,.slice none 0 0,.slice none 0 0,.int .i64 0] 168 (0,0)):=blk_new (by simp)
     have hF0:ER.Ow 165 ((wr.alloc (.cells #[.int .i64 0,.int .i64 cells] 165)).alloc (.cells #[.int .i64 cells,.slice (some ⟨wr.heap.size,0,none⟩) 1 1,.slice none 0 0,.slice none 0 0,.int .i64 0] 168)) (.slice (some ⟨wr.heap.size,0,none⟩) 1 1) [(0,cells)]:=(ef_ rfl).ext0 ((Ext.refl [] _).alloc _)
     have hr0:SpR _ (wr.heap.size+1) ⟨cells,[(0,cells)],[],[],0⟩:=⟨_,_,_,_,_,_,_,_,_,hb0,hF0,.inl ⟨rfl,rfl⟩,.inl ⟨rfl,rfl⟩⟩
     have hi0:=Fresh.start us (show 1<=cells by omega) (by omega)
     have hbw:w.heap.size<=wr.heap.size+1:=by have:=hB.size;omega
     obtain⟨b,hbe⟩: ∃b,b=wr.heap.size+1:=⟨_,rfl⟩
     rw [<-hbe] at hr0 hbw
     simp only [<-hbe]
     obtain⟨HR0,HI0⟩:=h_2 hr0 hi0
     clear hb0 hF0 hr0 hi0
     revert HR0 hE0
     generalize World.alloc _ _=W0
     intro hE0 HR0
     clear hbe
     go_loopw [10,48] (fun _ i wr=> ∃(k:Nat) (s:Spc),k<=us.length/\i= .int .i64 k/\Ext [b] W0 wr/\Hid (SpR wr b s)/\Hid (SpI s/\Fresh s cells us k)/\Hid (dO_ us k)) (fun _ i _=> us.length - (intOf i).toNat)
     case atStart=> exact⟨0,_,Nat.zero_le _,rfl,Ext.refl _ _,HR0,HI0,fun i hi=> by omega⟩
     case round=>
      obtain⟨k,s,hk,rfl,hB2,HR,HI,HA⟩:=hrel
      by_cases hlt:k < us.length
      ·obtain⟨g,o,rfl⟩: ∃g o,pv=some ⟨g,o,none⟩:=by
        rcases HU.out with ⟨_,h⟩ | ⟨g,o,c,h,_⟩
        ·rw [h] at hlt;simp at hlt
        ·cases h;exact⟨g,o,rfl⟩
       have hBw:Ext [] w wr:=hE0.trans' hB2 (by simp) (fun x hx=> by simp at hx;subst hx;exact .inr hbw)
       obtain⟨hm1,hm2⟩:=E_ (HU.out.ext0 hBw) k hlt
       have hts:us.take (k+1)=us.take k++ [us.getD k (0,0)]:=fE_ hlt
       have hgood:bW_ cells (us.getD k (0,0))=true:=List.all_eq_true.1 HALL.out _ (cs_ hlt)
       have hap: ∀h:ah_ (us.take k) (us.getD k (0,0))=false,dO_ us (k+1):=fun h i hi=> by
        rcases Nat.lt_or_eq_of_le (Nat.lt_succ_iff.1 hi) with h' | h'
        ·exact HA.out i h'
        ·subst h';exact h
       have hnap: ∀h:ah_ (us.take k) (us.getD k (0,0))=true,¬dO_ us us.length:=fun h h2=> by
        rw [h2 k hlt] at h;cases h
       obtain⟨x,hx⟩: ∃x,x=us.getD k (0,0):=⟨_,rfl⟩
       rw [<-hx] at hm1 hm2 hts hgood
       simp only [<-hx] at hap hnap
       obtain⟨HTS,HG,HAP,HNAP⟩:=h_4 hts hgood hap hnap
       have hg':=cr_.1 hgood
       have hme:=HI.out.2.meets HI.out.1 HALL.out hg'.2.2
       have HME:=hi_ hme
       obtain⟨x1,x2,x3⟩:=hg'
       obtain⟨pf,nf,cf,pu,nu,cu,pl,nl,cl,hb,h1,h2,h3⟩:=HR.out
       have n1:wr.cell? ⟨b,1,none⟩=some (.slice pf nf cf):=by rw [cell_of_row wr b 1 _ _ _ hb];rfl
       have n2:wr.cell? ⟨b,2,none⟩=some (.slice pu nu cu):=by rw [cell_of_row wr b 2 _ _ _ hb];rfl
       have hbl:b < wr.heap.size:=g_ hb
       obtain⟨HB,H1,H2,H3⟩:=h_4 hb h1 h2 h3
       clear hx hts hgood hap hnap hme hb h1 h2 h3
       go_wp2_with fail
       have hE1:Ext [] wr (wr.alloc (.cells #[.int .i64 x.1,.int .i64 x.2] 165)):=(Ext.refl [] _).alloc _
       have q2:(wr.alloc (.cells #[.int .i64 x.1,.int .i64 x.2] 165)).cell? ⟨wr.heap.size,0,none⟩=some (.int .i64 x.1):=by go_simp
       have q3:(wr.alloc (.cells #[.int .i64 x.1,.int .i64 x.2] 165)).cell? ⟨wr.heap.size,1,none⟩=some (.int .i64 x.2):=by go_simp
       have n1':=hE1.cell n1 (by simp)
       have n2':=hE1.cell n2 (by simp)
       go_region_held3 (fun W=> W.cell? ⟨b,2,none⟩=some (.slice pu nu cu)/\W.cell? ⟨wr.heap.size,0,none⟩=some (.int .i64 x.1)/\W.cell? ⟨wr.heap.size,1,none⟩=some (.int .i64 x.2))
        (first | exact⟨hE2.cell n2' (by simp),hE2.cell q2 (by simp),hE2.cell q3 (by simp)⟩ | go_keep)
        (first | (go_at_call 83;refine(meets_c _ s.used _ _ _ (H2.out.rd.ext0 hE1.drew) HI.out.1.okU x1 (by omega)).mono ?_;rintro e w1 ⟨rfl,hE2'⟩;have hE2:Ext [] (wr.alloc (.cells #[.int .i64 x.1,.int .i64 x.2] 165)) w1:=(Ext.refl [] _).drew.trans hE2'))
       cases hmv:ah_ s.used x with
       | true=>
        have hno:=HNAP.out (by rw [<-HME.out];exact hmv)
        go_wp2
        go_ret2
        exact⟨none,8,rfl,hBw.trans (hE1.trans hE2),.inr (.inr (.inl ⟨by omega,by omega,HALL.out,hno,rfl,rfl⟩))⟩
       | false=>
        have hhas:=HI.out.2.has HI.out.1 HG.out hmv
        obtain⟨HH,HMV⟩:=h_2 hhas hmv
        have hE1':=hE1.trans hE2
        have q2':=hE2.cell q2 (by simp)
        have q3':=hE2.cell q3 (by simp)
        have n1'':=hE2.cell n1' (by simp)
        have n2'':=hE2.cell n2' (by simp)
        clear hhas
        go_wp2_with fail
        have hD0:Ext [] (w1) (w1).drew:=(Ext.refl [] _).drew
        refine e_ (fun W=> (W.cell? ⟨b,1,none⟩=some (.slice pf nf cf)/\W.cell? ⟨b,2,none⟩=some (.slice pu nu cu))/\W.cell? ⟨wr.heap.size,0,none⟩=some (.int .i64 (x.1))/\W.cell? ⟨wr.heap.size,1,none⟩=some (.int .i64 (x.2))) (fun i=> decide (i < 14) && !(i==1)) (by kernel_rfl) ⟨⟨hD0.cell (n1'') (by simp),hD0.cell (n2'') (by simp)⟩,hD0.cell (q2') (by simp),hD0.cell (q3') (by simp)⟩ (fun hS=> ?_)
        refine PUq 1 ?_;(try go_frame)
        refine ta 0 ?_;(try go_frame)
        refine ta 2 ?_;(try go_frame)
        refine ta 3 ?_;(try go_frame)
        refine ta 4 ?_;(try go_frame)
        refine ta 5 ?_;(try go_frame)
        refine ta 6 ?_;(try go_frame)
        refine ta 8 ?_;(try go_frame)
        refine ta 9 ?_;(try go_frame)
        refine ta 10 ?_;(try go_frame)
        refine ta 11 ?_;(try go_frame)
        refine ta 12 ?_;(try go_frame)
        refine a_ (i:=7) (by kernel_rfl) rfl (fun K hK=> ?_)
        (try simp only [Act.put,zA,zB,zC,List.setIfInBounds_toArray,zD,zE]);refine iw rfl ?_
        go_simp
        have hD1:=(hE1').trans hD0
        refine(cut_c _ s.free _ _ _ (H1.out.ext0 hD1) HI.out.1.okF x1 x3 (by omega) HH.out).mono ?_
        rintro e w5 ⟨v5,s5,rfl,how5,hp5,hE5⟩
        have hE5':=hD1.trans hE5
        refine hK.out _ _ (fun _=> ⟨⟨hE5.cell hS.1.1 (by simp),hE5.cell hS.1.2 (by simp)⟩,hE5.cell hS.2.1 (by simp),hE5.cell hS.2.2 (by simp)⟩) (fun hS5=> ?_)
        have hS5':=hS5 rfl
        refine a_ (i:=13) (by kernel_rfl) rfl (fun K hK=> ?_)
        (try simp only [Act.put,zA,zB,zC,List.setIfInBounds_toArray,zD,zE]);refine iw rfl ?_
        go_simp
        refine(add_c _ s.used _ _ _ (H2.out.ext0 hE5') HI.out.1.okU x1 x3 (by omega) HMV.out).mono ?_
        rintro e w6 ⟨v6,s6,rfl,how6,hp6,hE6⟩
        refine hK.out _ _ (fun _=> ⟨⟨hE6.cell hS5'.1.1 (by simp),hE6.cell hS5'.1.2 (by simp)⟩,hE6.cell hS5'.2.1 (by simp),hE6.cell hS5'.2.2 (by simp)⟩) (fun hS6=> ?_)
        have hS6':=hS6 rfl
        have hE6':=hE5'.trans hE6
        have hE56:=(hD0.trans hE5).trans hE6
        have hb6:=hE6'.blk (HB).out (by simp)
        have how5':=how5.ext0 hE6
        obtain⟨p5,c5,rfl,_⟩:=how5.rd.len_eq
        obtain⟨p6,c6,rfl,_⟩:=how6.rd.len_eq
        have hfz6: ∀j,w6.frozen? ⟨b,j,none⟩=false:=fun j=> frozen_of_row _ _ _ _ _ hb6
        have n61:=hS6'.1.1
        have n62:=hS6'.1.2
        obtain⟨HB6,HO5,HO6,HP5,HP6⟩:=h_5 hb6 how5' how6 hp5 hp6
        clear hS hS5 hS5' hS6 hS6' hb6 how5' how5 how6 hp5 hp6
        refine PUq 14 ?_;(try go_frame)
        refine PUq 15 ?_;(try go_frame)
        refine a_ (i:=16) (by kernel_rfl) rfl (fun K hK=> ?_)
        (try simp only [Act.put,zA,zB,zC,List.setIfInBounds_toArray,zD,zE]);refine iw rfl ?_
        go_simp
        refine nk hK ?_
        refine PUq 17 ?_;(try go_frame)
        refine PUq 18 ?_;(try go_frame)
        refine a_ (i:=19) (by kernel_rfl) rfl (fun K hK=> ?_)
        (try simp only [Act.put,zA,zB,zC,List.setIfInBounds_toArray,zD,zE]);refine iw rfl ?_
        go_simp
        refine nk hK ?_
        refine c_ (by kernel_rfl) ?_ _
        have hW8:Ext [b] _ ((w6.setCell ⟨b,1,none⟩ (.slice p5 s5.length c5)).setCell ⟨b,2,none⟩ (.slice p6 s6.length c6)):=((hE6'.nil (S:= [b])).setCell (.inl (by simp)) _).setCell (.inl (by simp)) _
        have hW68:Ext [b] w6 ((w6.setCell ⟨b,1,none⟩ (.slice p5 s5.length c5)).setCell ⟨b,2,none⟩ (.slice p6 s6.length c6)):=((Ext.refl [b] w6).setCell (.inl (by simp)) _).setCell (.inl (by simp)) _
        have hb8:=heap_setCell_same _ b 2 _ _ (.slice p6 s6.length c6) (heap_setCell_same _ b 1 _ _ (.slice p5 s5.length c5) HB6.out)
        have HB8:=hi_ hb8
        clear hb8 hfz6 n61 n62
        revert hW8 hW68 HB8
        generalize World.setCell _ _ _=w8
        intro hW8 hW68 HB8
        have hnf: ∀(xs:List Rng) (v:Value),ER.Ow 165 w6 v xs->ER.Ow 165 w8 v xs:=fun xs v h=> h.ext hW68 (by simpa using h.ne HB6.out (by decide))
        have HNF:=hi_ hnf
        clear hnf
        go_wp2
        go_roundw
        case rel=>
         exact⟨k+1,⟨s.cells,s5,s6,s.leaving,s.back⟩,by omega,by go_num,hB2.trans hW8,⟨_,_,_,_,_,_,_,_,_,HB8.out,HNF.out _ _ HO5.out,HNF.out _ _ HO6.out,HNF.out _ _ (H3.out.ext0 hE6')⟩,HI.out.2.step HI.out.1 HTS.out HG.out HH.out HP5.out HP6.out,HAP.out (by rw [<-HME.out];exact HMV.out)⟩
        case measure=> simp [intOf];omega
      ·obtain rfl:k=us.length:=by omega
       go_wp2
       go_ret2
       have hBw:Ext [] w wr:=hE0.trans' hB2 (by simp) (fun x hx=> by simp at hx;subst hx;exact .inr hbw)
       exact⟨_,0,rfl,hBw,.inr (.inr (.inr ⟨by omega,by omega,HALL.out,HA.out,rfl,b,s,rfl,hbw,HR.out,HI.out.1,HI.out.2⟩))⟩
def EI:Enc Int where
 k:=1
 hk:=by decide
 enc x:= [.int .i64 x]
 len _:=rfl
 one _ v hv:=by simp at hv;subst hv;rfl
theorem tiI:Ti Tryz.prog EI 3 8 0:=Ti.mk' (z:= .int .i64 0) (by kernel_rfl) rfl
theorem flatI (l:List Int):EI.flat l=l.map (Value.int .i64):=by
 induction l with
 | nil=> rfl
 | cons a l ih=> simp [ih];rfl
theorem fp_ {g o n cap:Nat} {s:List Int} (h:EI.Rd w (.slice (some ⟨g,o,none⟩) n cap) s) (i:Nat) (hi:i < s.length):w.cell? ⟨g,o+i,none⟩=some (.int .i64 (s.getD i 0)):=by
 have h1:=h.cells i 0 hi (by decide)
 have e:s.getD i 0=s[i]:=by simp [List.getD,hi]
 rw [e]
 simpa [EI] using h1
theorem aD_ (v:Value) (l:List Int) (x:Int) (w:World) (hv:EI.Rd w v l) (hl:l.length<=100000):
  Calls Tryz.prog 163 #[v,.int .i64 x] w fun e w'=> e= .returned (.bool (decide (x∈l)))/\Ext [] w w':=by
 obtain⟨p,c,rfl,_⟩:=hv.len_eq
 have HV:=hi_ hv
 obtain⟨n,hn⟩: ∃n,n=l.length:=⟨_,rfl⟩
 rw [<-hn] at hv hl ⊢
 have HN:=hi_ hn
 clear hv hn
 have hi:Calls Tryz.prog 197 #[.slice p n c,.int .i64 x] w fun e w'=> ∃k:Int,e= .returned (.int .i64 k)/\(0<=k↔x∈l)/\Ext [] w w':=by
  go_enter Tryz.func197,Tryz.ntmps197
  go_wp2_with fail
  go_loopw [5,8] (fun _ iv wr=> ∃k:Nat,k<=n/\iv= .int .i64 k/\Hid (∀i:Nat,i < k->l.getD i 0≠x)/\Ext [] w wr) (fun _ iv _=> n - (intOf iv).toNat)
  case atStart=> exact⟨0,by omega,rfl,fun i h=> by omega,Ext.refl _ _⟩
  case round=>
   obtain⟨k,hk,rfl,HA,hE⟩:=hrel
   by_cases hlt:k < n
   ·have z1:(k:Int) < (n:Int):=by omega
    obtain⟨g,o,rfl⟩: ∃g o,p=some ⟨g,o,none⟩:=by
     rcases HV.out with ⟨h,h2⟩ | ⟨g,o,c,h,_⟩
     ·have:=HN.out;rw [h2] at this;simp at this;omega
     ·simp only [Value.slice.injEq] at h;exact⟨g,o,h.1⟩
    have hcell:=fp_ (HV.out.ext0 hE) k (by rw [<-HN.out];exact hlt)
    by_cases hx:l.getD k 0=x
    ·rw [hx] at hcell
     have HX:=hi_ hx
     clear hx
     go_wp2_with fail
     go_ret
     refine⟨k,rfl,⟨fun _=> ?_,fun _=> by omega⟩,hE⟩
     rw [<-HX.out]
     have h:=HN.out
     rw [List.getD_eq_getElem?_getD,List.getElem?_eq_getElem (by omega)]
     exact List.getElem_mem _
    ·have HX:=hi_ hx
     generalize l.getD k 0=z at hx hcell
     have hz':(x==z)=false:=by simpa using fun h=> hx h.symm
     clear hx
     go_wp2_with fail
     go_roundw
     case rel=>
      refine⟨k+1,by omega,by go_num,fun i h2=> ?_,hE⟩
      rcases Nat.lt_or_eq_of_le (Nat.lt_succ_iff.1 h2) with h3 | h3
      ·exact HA.out i h3
      ·subst h3;exact HX.out
     case measure=> simp [intOf];omega
   ·have z1: ¬((k:Int) < (n:Int)):=by omega
    go_wp2
    go_ret
    refine⟨-1,rfl,⟨fun h=> by omega,fun h=> ?_⟩,hE⟩
    obtain⟨i,hi,he⟩:=List.getElem_of_mem h
    have h1:=HN.out
    have h2:=HA.out i (by omega)
    rw [List.getD_eq_getElem?_getD,List.getElem?_eq_getElem hi] at h2
    exact absurd he h2
 have HI:=hi_ hi
 clear hi
 go_enter Tryz.func163,Tryz.ntmps163
 go_wp2_with fail
 refine HI.out.mono ?_
 rintro e W ⟨k,rfl,hk,hE⟩
 have hd:decide (0<=k)=decide (x∈l):=by simp [hk]
 have HD:=hi_ hd
 clear hk hd
 go_wp2
 go_ret
 exact⟨by rw [<-HD.out];rfl,hE⟩
theorem gL_ {α:Type} {P:Program} {E:Enc α} {T t:TypeId} {bytes:Nat} {zero:α} {z:Value} (ti:Ti P E T bytes zero) (hk:E.k=1) (hz1:E.enc zero= [z]) (hu:P.underlying t=some (.slice T)) (n c:Nat) (hn:n<=c) (hc:c<=65536) (hb:bytes<=64) (w:World):
  (Instr.makeSlice t (.int .i64 (n:Int)) (.int .i64 (c:Int))).run P w= .ok (.slice (some ⟨w.heap.size,0,none⟩) n c) (w.alloc (.cells (E.flat (List.replicate c zero)).toArray T)):=by
 obtain⟨i,y,hi,hz,hsize,hby,hzz⟩:=ti.row
 have h3:c*bytes<=65536*64:=Nat.mul_le_mul hc hb
 have hr:=run_make (P:=P) w t T i y hu hi hz .i64 .i64 n c (by omega) (by omega) (by rw [hby];rw [Nat.mul_comm] at h3;omega) (by omega)
 simp only [Int.toNat_natCast] at hr
 rw [hr]
 have e:y.cells=#[z]:=Array.ext' (by rw [hzz,hz1])
 have e2:madeCells y.cells (c*i.size)=(E.flat (List.replicate c zero)).toArray:=by
  rw [e,hsize,hk,Nat.mul_one]
  have ef:E.flat (List.replicate c zero)=List.replicate c z:=by
   clear h3 hr hc hn
   induction c with
   | zero=> rfl
   | succ c ih=> rw [List.replicate_succ,Enc.flat_cons,ih,hz1,List.replicate_succ];rfl
  rw [ef]
  apply Array.ext'
  apply List.ext_getElem?
  intro j
  simp only [madeCells,Array.toList_map,Array.toList_range,List.getElem?_map,List.getElem?_replicate]
  by_cases hj:j < c
  ·simp [hj,Nat.mod_one]
  ·simp [hj]
 rw [e2]
def ColOk (w:World) (f n:Nat) (x:Option Addr×Nat×Nat):Prop:=x.2.1=n/\(∃bs:List UInt8,bs.length=n/\EB.Rd w (.slice x.1 n x.2.2) bs)/\f∉blkL (.slice x.1 n x.2.2)
theorem eV_ (l:List (Option Addr×Nat×Nat)):ES.flat l=l.map (fun x=> Value.slice x.1 x.2.1 x.2.2):=by
 induction l with
 | nil=> rfl
 | cons a l ih=> simp [ih];rfl
theorem ho_ {L:List (Option Addr×Nat×Nat)} (hg:w.heap[g]? =some (.cells (ES.flat L).toArray T (0,0))) (i:Nat) (x:Option Addr×Nat×Nat):(w.setCell ⟨g,i,none⟩ (.slice x.1 x.2.1 x.2.2)).heap[g]? =some (.cells (ES.flat (L.set i x)).toArray T (0,0)):=by
 rw [heap_setCell_same w g i _ _ _ hg]
 congr 2
 apply Array.ext'
 rw [eV_,eV_]
 simp [List.map_set]
theorem psums_c (f n:Nat) (v:Value) (cols:List (Option Addr×Nat×Nat)) (w:World) (hf:FldR w f) (hv:ES.Rd w v cols) (hvf:f∉blkL v) (hcl:cols.length<=13) (hn1:1<=n) (hn:n<=4096) (hcols: ∀x∈cols,ColOk w f n x):
  Calls Tryz.prog 212 #[.pointer (some ⟨f,0,none⟩),v,.int .i64 n,.slice none 0 0] w fun e w'=> ∃(gt:Nat) (gs:List Nat),e= .returned (.slice (some ⟨gt,0,none⟩) 3 3)/\gs.length=3/\w'.heap[gt]? =some (.cells (ES.flat (gs.map (bg_ n))).toArray 158 (0,0))/\(∀g∈gs,U8 w' g n/\w.heap.size<=g)/\w.heap.size<=gt/\FldR w' f/\Ext [f] w w':=by
 have hm3: ∀W:World,(Instr.makeSlice 240 (.int .i64 3) (.int .i64 3)).run Tryz.prog W= .ok (.slice (some ⟨W.heap.size,0,none⟩) 3 3) (W.alloc (.cells (ES.flat (List.replicate 3 (none,0,0))).toArray 158)):=fun W=> gL_ (P:=Tryz.prog) tiS rfl rfl Tryz.underlying240 3 3 (by omega) (by omega) (by omega) W
 have lf:=hf.lt
 obtain⟨p,c,rfl,_⟩:=hv.len_eq
 obtain⟨HF,HCOLS⟩:=h_2 hf hcols
 obtain⟨m,hm⟩: ∃m,m=cols.length:=⟨_,rfl⟩
 rw [<-hm] at hcl hv hvf ⊢
 obtain⟨HV,HVF,HM⟩:=h_3 hv hvf hm
 obtain⟨z3,hz3⟩: ∃z:List (Option Addr×Nat×Nat),z=List.replicate 3 (none,0,0):=⟨_,rfl⟩
 rw [<-hz3] at hm3
 have HZ3:=hi_ hz3
 clear hf hv hvf hcols hm hz3
 go_enter Tryz.func212,Tryz.ntmps212
 go_wp2_with (with_reducible refine f_ (d:=13) ?_)
 unfold Hold
 refine k_ rfl fun K hK=> ?_
 go_simp
 refine hK _ _ ?_
 clear hK hm3
 have hgt:=heap_alloc_new w (.cells (ES.flat z3).toArray 158)
 have hE:=(Ext.refl [] w).alloc (.cells (ES.flat z3).toArray 158)
 have hf1:=HF.out.ext0 hE
 obtain⟨gt,hge⟩: ∃g,g=w.heap.size:=⟨_,rfl⟩
 simp only [<-hge] at hgt ⊢
 have lgt:w.heap.size<=gt:=by omega
 have hgf:gt≠f:=by omega
 obtain⟨HG,HF1⟩:=h_2 hgt hf1
 clear hge hgt hf1
 revert HG HF1 hE
 generalize World.alloc _ _=W1
 intro hE HG HF1
 go_wp2_with fail
 go_loopw [10,16] (fun _ iv wr=> ∃(r:Nat) (gs:List Nat),r<=3/\iv= .int .i64 r/\gs.length=r/\Ext [] w wr/\Hid (FldR wr f)/\Hid (wr.heap[gt]? =some (.cells (ES.flat (gs.map (bg_ n)++List.replicate (3 - r) (none,0,0))).toArray 158 (0,0)))/\Hid (∀g∈gs,U8 wr g n/\w.heap.size<=g)) (fun _ iv _=> 3 - (intOf iv).toNat)
 case atStart=> exact⟨0,[],by omega,rfl,rfl,hE,HF1,by rw [HZ3.out] at HG;exact HG,hi_ (fun g hg=> by cases hg)⟩
 case round=>
  obtain⟨r,gs,hr,rfl,hgl,hE2,HF2,HG2,HGS2⟩:=hrel
  clear HG HF1 hE
  by_cases hlt:r < 3
  ·have z1:(r:Int) < 3:=by omega
   have z2:(0:Int)<=(r:Int):=by omega
   have hset: ∀x,(gs.map (bg_ n)++List.replicate (3 - r) (none,0,0)).set r x=gs.map (bg_ n)++ [x]++List.replicate (3 - (r+1)) (none,0,0):=fun x=> by
    rw [List.set_append_right _ _ (by simp;omega),show 3 - r=(3 - (r+1))+1 by omega,List.replicate_succ,List.length_map,hgl,Nat.sub_self,List.set_cons_zero]
    simp
   have hold:(ES.flat (gs.map (bg_ n)++List.replicate (3 - r) (none,0,0)))[r]? =some (.slice none 0 0):=by
    rw [eV_,List.getElem?_map,List.getElem?_append_right (by simp;omega),List.length_map,hgl,Nat.sub_self,show 3 - r=(3 - (r+1))+1 by omega,List.replicate_succ]
    rfl
   obtain⟨L,hL⟩: ∃L,L=gs.map (bg_ n)++List.replicate (3 - r) (none,0,0):=⟨_,rfl⟩
   rw [<-hL] at hold
   simp only [<-hL] at hset
   have HGL:Hid (wr.heap[gt]? =some (.cells (ES.flat L).toArray 158 (0,0))):=by rw [hL];exact HG2
   obtain⟨HSET,HOLDH⟩:=h_2 hset hold
   clear hset hold hL HG2
   go_wp2_with (with_reducible refine f_ (d:=22) ?_)
   unfold Hold
   refine k_ rfl fun K hK=> ?_
   go_simp
   rw [cD_ n n (by omega) (by omega)]
   refine hK _ _ ?_
   clear hK
   have hgn:=heap_alloc_new wr (.cells (EB.flat (List.replicate n 0)).toArray 5)
   have hEa:=(Ext.refl [] wr).alloc (.cells (EB.flat (List.replicate n 0)).toArray 5)
   have lwr:=hE2.size
   obtain⟨gn,hge⟩: ∃g,g=wr.heap.size:=⟨_,rfl⟩
   have lgt2:=g_ HGL.out
   have hgsl: ∀g∈gs,g < gn:=fun g hg=> by have:=((HGS2.out g hg).1).lt;omega
   simp only [<-hge] at hgn ⊢
   have hun:U8 (wr.alloc (.cells (EB.flat (List.replicate n 0)).toArray 5)) gn n:=⟨List.replicate n 0,by simp,hgn⟩
   have hgl3:=hEa.blk HGL.out (by simp)
   have hf3:=HF2.out.ext0 hEa
   have hgs3: ∀g∈gs,U8 (wr.alloc (.cells (EB.flat (List.replicate n 0)).toArray 5)) g n/\w.heap.size<=g:=fun g hg=> ⟨((HGS2.out g hg).1).ext hEa (by simp),(HGS2.out g hg).2⟩
   have hE3:=hE2.trans hEa
   have n1:gn≠gt:=by omega
   have n2:w.heap.size<=gn:=by omega
   obtain⟨HU3,HF3,HGS3,HGSL⟩:=h_4 hun hf3 hgs3 hgsl
   clear hge hgn hEa hun hf3 hgs3 HF2 HGS2 HGL hgsl hE2
   revert hgl3 HU3 HF3 HGS3 hE3
   generalize World.alloc _ _=W3
   intro hgl3 hE3 HU3 HF3 HGS3
   have c1:W3.cell? ⟨gt,r,none⟩=some (.slice none 0 0):=by rw [cell_of_row _ gt r _ _ _ hgl3];simpa using HOLDH.out
   have c2:W3.frozen? ⟨gt,r,none⟩=false:=frozen_of_row _ _ _ _ _ hgl3
   have HGL3:=hi_ hgl3
   clear hgl3
   go_wp2_with fail
   have hs:=ho_ HGL3.out r (bg_ n gn)
   have hE4:Ext [gt] W3 (W3.setCell ⟨gt,r,none⟩ (.slice (some ⟨gn,0,none⟩) n n)):=(Ext.refl [gt] W3).setCell (.inl (by simp)) _
   have hE5:Ext [] w (W3.setCell ⟨gt,r,none⟩ (.slice (some ⟨gn,0,none⟩) n n)):=hE3.setCell (.inr lgt) _
   go_roundw
   case rel=>
    refine⟨r+1,gs++ [gn],by omega,by go_num,by simp [hgl],hE5,hi_ ?_,hi_ ?_,hi_ ?_⟩
    ·obtain⟨c,d,h1,h2⟩:=HF3.out
     exact⟨c,d,hE4.blk h1 (by simpa using hgf.symm),h2⟩
    ·rw [HSET.out] at hs
     rw [List.map_append,List.map_singleton]
     exact hs
    ·intro g hg
     rcases List.mem_append.1 hg with h | h
     ·exact⟨(HGS3.out g h).1.ext hE4 (by simpa using (HGS3.out g h).1.ne HGL3.out (by decide)),(HGS3.out g h).2⟩
     ·simp at h
      subst h
      exact⟨HU3.out.ext hE4 (by simpa using n1),n2⟩
   case measure=> simp [intOf];omega
  ·obtain rfl:r=3:=by omega
   have z1: ¬(((3:Nat):Int) < 3):=by omega
   go_wp2_with fail
   obtain⟨w0,hw0⟩: ∃w0,w0=wr:=⟨_,rfl⟩
   subst hw0
   have HE2:=hi_ hE2
   have lgs: ∀g∈gs,g < w0.heap.size:=fun g hg=> (HGS2.out g hg).1.lt
   have hfgs:f∉gs:=fun h=> by have:=(HGS2.out f h).2;omega
   have hgtn:gt∉f::gs:=fun h=> by
    rcases List.mem_cons.1 h with h | h
    ·omega
    ·exact(HGS2.out gt h).1.ne HG2.out (by decide) rfl
   obtain⟨HFGS,HGTN⟩:=h_2 hfgs hgtn
   have HU2:Hid (∀g∈gs,U8 w0 g n):=hi_ (fun g hg=> (HGS2.out g hg).1)
   have hgt2:w0.heap[gt]? =some (.cells (ES.flat (gs.map (bg_ n))).toArray 158 (0,0)):=by
    have:=HG2.out;simpa using this
   have HG3:=hi_ hgt2
   clear hfgs hgtn lgs hgt2 HG2 hE2
   go_loopw [11,12,27] (fun _ _ iv w2=> ∃k:Nat,k<=m/\iv= .int .i64 k/\Ext (f::gs) w0 w2/\Hid (FldR w2 f)/\Hid (∀g∈gs,U8 w2 g n)) (fun _ _ iv _=> m - (intOf iv).toNat)
   case atStart=> exact⟨0,by omega,rfl,Ext.refl _ _,HF2,HU2⟩
   case round=>
    obtain⟨k,hk,rfl,hE4,HF4,HGS4⟩:=hrel
    by_cases hlk:k < m
    ·have z4:(k:Int) < (m:Int):=by omega
     have hv4:ES.Rd wr (.slice p m c) cols:=by
      have h:=HV.out.ext0 HE2.out
      refine h.ext hE4 (fun y hy hy2=> ?_)
      have hy3:=HV.out.lt y hy
      rcases List.mem_cons.1 hy2 with h1 | h1
      ·subst h1;exact HVF.out hy
      ·have:=(HGS2.out y h1).2;omega
     obtain⟨gv,ov,rfl⟩: ∃g o,p=some ⟨g,o,none⟩:=by
      rcases hv4 with ⟨_,h⟩ | ⟨g,o,c,h,_⟩
      ·have:=HM.out;rw [h] at this;simp at this;omega
      ·simp only [Value.slice.injEq] at h;exact⟨g,o,h.1⟩
     obtain⟨x,hx⟩: ∃x,cols[k]? =some x:=⟨cols[k]'(by rw [<-HM.out];exact hlk),List.getElem?_eq_getElem _⟩
     obtain⟨px,nx,cx⟩:=x
     have hcx:=HCOLS.out _ (List.mem_of_getElem? hx)
     obtain⟨hnx,⟨bs,hbl,hrd⟩,hfx⟩:=hcx
     simp only at hnx hrd hfx
     subst hnx
     have hcell:=dM_ hv4 k _ hx
     simp only at hcell
     have hE04:Ext (f::gs) w wr:=HE2.out.nil.trans' hE4 (fun _ h=> .inl h) (fun _ h=> .inl h)
     have hcn: ∀y∈blkL (.slice px bs.length cx),y∉f::gs:=fun y hy hy2=> by
      rw [hbl] at hy
      have hy3:=hrd.lt y hy
      rcases List.mem_cons.1 hy2 with h1 | h1
      ·subst h1;exact hfx hy
      ·have:=(HGS2.out y h1).2;omega
     have hrd4:EB.Rd wr (.slice px nx cx) bs:=hrd.ext hE04 (fun y hy=> hcn y (by rw [hbl];exact hy))
     obtain⟨HRD4,HCN,HBL,HE04⟩:=h_4 hrd4 hcn hbl hE04
     clear hv4 hx hrd hrd4 hfx hcn hbl hE04
     go_wp2_with fail
     refine(aD_ _ [] (k:Int) _ (.inl ⟨rfl,rfl⟩) (by simp)).mono ?_
     rintro e W5 ⟨rfl,hE5⟩
     simp only [List.not_mem_nil,decide_false]
     have HF5:=hi_ (HF4.out.ext0 hE5)
     have HGS5:Hid (∀g∈gs,U8 W5 g nx):=hi_ (fun g hg=> (HGS4.out g hg).ext hE5 (by simp))
     have hE45:=hE4.andThen hE5
     have HRD5:=hi_ (HRD4.out.ext0 hE5)
     clear hcell hE4 hE5
     go_wp2_with fail
     have hto:ES.Rd W5 (.slice (some ⟨gt,0,none⟩) 3 3) (gs.map (bg_ nx)):= .inr ⟨gt,0,3,by simp [hgl],by simp [hgl],by have:=g_ (hE45.blk HG3.out HGTN.out);exact this,fun j u hj=> by rw [cell_of_row _ gt _ _ _ _ (hE45.blk HG3.out HGTN.out)];simp at hj ⊢;exact hj⟩
     refine(padd_c f k nx _ _ gs bs W5 (by omega) HF5.out hto hgl HGS5.out HRD5.out HBL.out (fun y hy=> HCN.out y (by rw [HBL.out];exact hy)) (fun y hy=> by simp [blkL] at hy;subst hy;exact HGTN.out) (by omega)).mono ?_
     rintro e W6 ⟨rfl,hf6,hgs6,hE6⟩
     go_wp2_with fail
     go_roundw
     case rel=> exact⟨k+1,by omega,by go_num,hE45.trans hE6,hi_ hf6,hi_ hgs6⟩
     case measure=> simp [intOf];omega
    ·obtain rfl:k=m:=by omega
     have z4: ¬((k:Int) < (k:Int)):=by omega
     go_wp2
     go_ret
     exact⟨gt,rfl,gs,hgl,hE4.blk HG3.out HGTN.out,fun g hg=> ⟨HGS4.out g hg,(HGS2.out g hg).2⟩,lgt,HF4.out,HE2.out.trans' (S'':= [f]) hE4 (by simp) (fun y hy=> by
      rcases List.mem_cons.1 hy with h | h
      ·exact .inl (by simp [h])
      ·exact .inr (HGS2.out y h).2)⟩
theorem hA_ (n:Nat) (v:Value) (cols:List (Option Addr×Nat×Nat)) (w:World) (hv:ES.Rd w v cols) (hn1:1<=n) (hn:n<=4096) (hc1:cols≠ []) (hcl:cols.length<=100) (hcols: ∀x∈cols,x.2.1=n):
  Calls Tryz.prog 211 #[v,.slice none 0 0] w fun e w'=> e= .returned (.int .i64 n)/\Ext [] w w':=by
 obtain⟨p,c,rfl,_⟩:=hv.len_eq
 obtain⟨m,hm⟩: ∃m,m=cols.length:=⟨_,rfl⟩
 have hm1:1<=m:=by
  rw [hm];cases cols with
  | nil=> exact absurd rfl hc1
  | cons _ _=> simp
 rw [<-hm] at hcl hv ⊢
 obtain⟨HV,HM,HCOLS⟩:=h_3 hv hm hcols
 clear hv hm hcols hc1
 go_enter Tryz.func211,Tryz.ntmps211
 go_wp2_with fail
 go_loopw [5,6,7,10,17,21] (fun nv _ _ iv _ _ wr=> ∃k:Nat,k<=m/\iv= .int .i64 k/\nv= .int .i64 (if k=0 then -1 else n)/\Ext [] w wr) (fun _ _ _ iv _ _ _=> m - (intOf iv).toNat)
 case atStart=> exact⟨0,by omega,rfl,rfl,Ext.refl _ _⟩
 case round=>
  obtain⟨k,hk,rfl,rfl,hE⟩:=hrel
  by_cases hlk:k < m
  ·have z4:(k:Int) < (m:Int):=by omega
   have hv4:=HV.out.ext0 hE
   obtain⟨gv,ov,rfl⟩: ∃g o,p=some ⟨g,o,none⟩:=by
    rcases hv4 with ⟨_,h⟩ | ⟨g,o,c,h,_⟩
    ·have:=HM.out;rw [h] at this;simp at this;omega
    ·simp only [Value.slice.injEq] at h;exact⟨g,o,h.1⟩
   obtain⟨x,hx⟩: ∃x,cols[k]? =some x:=⟨cols[k]'(by rw [<-HM.out];exact hlk),List.getElem?_eq_getElem _⟩
   obtain⟨px,nx,cx⟩:=x
   have hcx:=HCOLS.out _ (List.mem_of_getElem? hx)
   simp only at hcx
   subst hcx
   have hcell:=dM_ hv4 k _ hx
   simp only at hcell
   clear hv4 hx
   by_cases h0:k=0
   ·rw [if_pos h0]
    clear h0
    go_wp2_with fail
    refine(aD_ _ [] (k:Int) _ (.inl ⟨rfl,rfl⟩) (by simp)).mono ?_
    rintro e W5 ⟨rfl,hE5⟩
    simp only [List.not_mem_nil,decide_false]
    have hE05:=hE.trans hE5
    have y1:(0:Int)<=(nx:Int):=by omega
    clear hcell
    go_wp2_with fail
    go_roundw
    case rel=> exact⟨k+1,by omega,by go_num,by rw [if_neg (by omega)],hE05⟩
    case measure=> simp [intOf];omega
   ·rw [if_neg h0]
    go_wp2_with fail
    refine(aD_ _ [] (k:Int) _ (.inl ⟨rfl,rfl⟩) (by simp)).mono ?_
    rintro e W5 ⟨rfl,hE5⟩
    simp only [List.not_mem_nil,decide_false]
    have hE05:=hE.trans hE5
    have y1:(0:Int)<=(nx:Int):=by omega
    clear hcell
    go_wp2_with fail
    go_roundw
    case rel=> exact⟨k+1,by omega,by go_num,by rw [if_neg (by omega)],hE05⟩
    case measure=> simp [intOf];omega
  ·obtain rfl:k=m:=by omega
   have z4: ¬((k:Int) < (k:Int)):=by omega
   have z5: ¬(k=0):=by omega
   have z6: ¬((n:Int) < 1):=by omega
   have z7: ¬((4096:Int) < (n:Int)):=by omega
   rw [if_neg z5]
   go_wp2
   go_ret
   exact⟨rfl,hE⟩
def zeroFL:List Value:= [.int .u32 0,.int .i32 0,.int .u32 0]++(List.replicate 510 (.int .u8 0)++List.replicate 256 (.int .i64 0))
theorem di_:Tryz.prog.built 337 []=some zeroFL.toArray:=by kernel_rfl
theorem cf_ {P:Program} {ops:Array Oper} {rest:List Oper} {o:Oper} {a:Act} {Q:Exit->Act->World->Prop} (hg:o.guard=none) (t:TypeId) (ho:o.op= .build t #[]) (cs:Array Value) (hb:P.built t []=some cs)
  (h:wpList P ops Q rest (a.put o.dst (.agg cs)) w):wpList P ops Q (o::rest) a w:=
 wpList_build hg t #[] ho (by simp [hb]) (by simpa [hb] using h)
theorem good_of (a b:Nat) (A:List Value) (hA:A.length=3) (ha:a=510) (hb:b=256):FGood (A++(List.replicate a (Value.int .u8 0)++List.replicate b (Value.int .i64 0))).toArray:=by
 refine⟨by simp [hA];omega,fun i hi=> ⟨0, ?_⟩,fun i hi=> ⟨0,by omega,by omega, ?_⟩⟩
 ·rw [List.getElem?_toArray,List.getElem?_append_right (by omega),List.getElem?_append_left (by simp;omega),List.getElem?_replicate,if_pos (by omega)]
  rfl
 ·rw [List.getElem?_toArray,List.getElem?_append_right (by omega),List.getElem?_append_right (by simp;omega),List.getElem?_replicate,if_pos (by simp;omega)]
theorem hY_:FGood zeroFL.toArray:=good_of 510 256 [.int .u32 0,.int .i32 0,.int .u32 0] rfl rfl rfl
theorem zeroF_0:zeroFL.toArray[0]? =some (.int .u32 0):=by kernel_rfl
theorem zeroF_1:zeroFL.toArray[1]? =some (.int .i32 0):=by kernel_rfl
theorem fr_ (h:w.heap[g]? =some (.cells zeroFL.toArray 337 (0,0))):FldR w g:=⟨zeroFL.toArray,0,h,hY_,zeroF_0,zeroF_1⟩
theorem pmake_c (n:Nat) (v:Value) (cols:List (Option Addr×Nat×Nat)) (w:World) (hv:ES.Rd w v cols) (hn1:1<=n) (hn:n<=4096) (hc1:cols≠ []) (hcl:cols.length<=13)
  (hcols: ∀x∈cols,x.2.1=n/\ ∃bs:List UInt8,bs.length=n/\EB.Rd w (.slice x.1 n x.2.2) bs):
  Calls Tryz.prog 190 #[v] w fun e w'=> ∃(gt:Nat) (gs:List Nat),e= .returned (.tuple #[.slice (some ⟨gt,0,none⟩) 3 3,.int .i64 0])/\gs.length=3/\w'.heap[gt]? =some (.cells (ES.flat (gs.map (bg_ n))).toArray 158 (0,0))/\(∀g∈gs,U8 w' g n/\w.heap.size<=g)/\w.heap.size<=gt/\Ext [] w w':=by
 obtain⟨p,c,rfl,_⟩:=hv.len_eq
 obtain⟨m,hm⟩: ∃m,m=cols.length:=⟨_,rfl⟩
 rw [<-hm] at hcl hv ⊢
 obtain⟨HV,HCOLS,HM⟩:=h_3 hv hcols hm
 clear hv hcols hm
 have m1: ¬((13:Int) < (m:Int)):=by omega
 have n1: ¬((n:Int) < 0):=by omega
 go_enter Tryz.func190,Tryz.ntmps190
 go_wp2_with fail
 refine(hA_ n _ cols _ HV.out hn1 hn hc1 (by rw [<-HM.out];omega) (fun x hx=> (HCOLS.out x hx).1)).mono ?_
 rintro e W1 ⟨rfl,hE1⟩
 go_wp2_with (with_reducible refine f_ (d:=14) ?_)
 unfold Hold
 refine cf_ rfl 337 rfl _ di_ ?_
 refine Go.Great.wpList_boxTo rfl 337 (.tmp 14) rfl (some 15) rfl _ rfl zeroFL.toArray (by rfl) ?_
 have hg:=heap_alloc_new W1 (.cells zeroFL.toArray 337)
 have hEa:=(Ext.refl [] W1).alloc (.cells zeroFL.toArray 337)
 have hE2:=hE1.alloc (.cells zeroFL.toArray 337)
 have l1:=hE1.size
 obtain⟨g,hge⟩: ∃g,g=W1.heap.size:=⟨_,rfl⟩
 simp only [<-hge] at hg ⊢
 have lg:w.heap.size<=g:=by omega
 have HFR:=hi_ (fr_ hg)
 clear hg hge hEa hE1
 revert HFR hE2
 obtain⟨ZL,hZL⟩: ∃Z,Z=zeroFL.toArray:=⟨_,rfl⟩
 rw [<-hZL]
 clear hZL
 generalize World.alloc _ _=W2
 intro hE2 HFR
 simp only [Act.put,List.setIfInBounds_toArray,List.set_cons_zero,List.set_cons_succ]
 go_wp2_with fail
 have hv2:=HV.out.ext0 hE2
 rw [HM.out] at hv2 ⊢
 have hnb: ∀y∈blkL (.slice p cols.length c),y < w.heap.size:=fun y hy=> HV.out.lt y (by rw [HM.out];exact hy)
 refine(psums_c g n _ cols _ HFR.out hv2 (fun h=> by have:=hnb g h;omega) (by rw [<-HM.out];exact hcl) hn1 hn (fun x hx=> ?_)).mono ?_
 ·obtain⟨h1,bs,h2,h3⟩:=HCOLS.out x hx
  exact⟨h1,⟨bs,h2,h3.ext0 hE2⟩,fun h=> by have:=h3.lt g h;omega⟩
 rintro e W3 ⟨gt,gs,rfl,hgl,hgt,hgs,lgt, -,hE3⟩
 have l2:=hE2.size
 have hfin:Ext [] w W3:=hE2.trans' hE3 (by simp) (fun y hy=> .inr (by simp at hy;omega))
 clear hv2 hnb
 go_wp2
 go_ret2
 exact⟨gt,gs,rfl,hgl,hgt,fun g' hg'=> ⟨(hgs g' hg').1,by have:=(hgs g' hg').2;omega⟩,by omega,hfin⟩
end Go.Proofs.YtkpgjkekmdecbaaGreat
