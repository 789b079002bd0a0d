/- Lemmas for the claim. No conditions beside those that each states. -/
import Derived.Test.YtkpgjkekmdecbaaGreatOrdAF
import Derived.Test.YtkpgjkekmdecbaaGreatOrdAB
set_option maxRecDepth 100000
set_option maxHeartbeats 8000000
set_option linter.all false

namespace Go.Proofs.YtkpgjkekmdecbaaGreat
open Go.RowKit
variable {w w':World} {n i b k:Nat}
theorem de_ (g q cap:Nat) (l xs:List Rng) (i j:Nat) (w:World) (hg:w.heap[g]? =some (.cells (ER.flat l).toArray 165 (0,0))) (hcap:xs.length<=cap) (hq:q+cap<=l.length) (hxs:win l q xs.length=xs)
  (hij:i < j) (hj:j<=xs.length) (hl:xs.length<=1000000):
  Calls Tryz.prog 115 #[.slice (some ⟨g,q*2,none⟩) xs.length cap,.int .i64 i,.int .i64 j] w (z_ ER 165 (.slice (some ⟨g,q*2,none⟩) xs.length cap) (xs.take i++xs.drop j) w):=by
 obtain⟨HG,HX⟩:=h_2 hg hxs
 have e1:(xs.take i).length=i:=by simp;omega
 have ekk:(xs.drop j).length=xs.length - j:=by simp
 have e3:(xs.take i++xs.drop j).length=i+(xs.length - j):=by simp;omega
 clear hg hxs
 have hci: ¬cap=i:=by omega
 have hL1:(splice l (q+i) (xs.drop j)).length=l.length:=length_splice _ _ _ (by simp;omega)
 have hz1:(j:Int)<=xs.length:=by omega
 have hz2:(i:Int)<=cap:=by omega
 by_cases hjn:j=xs.length
 ·subst hjn
  have hLL:splice l (q+i) ([]:List Rng)=l:=by simp [splice]
  have hcj:xs.length=cap\/ ¬cap=xs.length:=by omega
  have ex:xs.take i++xs.drop xs.length=xs.take i:=by simp
  rw [ex]
  rcases hcj with hcj | hcj
  all_goals
   (try subst hcj)
   go_enter Tryz.func115,Tryz.ntmps115
   go_wp2_with fail
   go_region_law ((try simp only [Act.put,zA,zB,zC,List.setIfInBounds_toArray,zD,zE]);refine iw rfl ?_;refine(H_ (s:= .tmp 22) (x:= .tmp 25) (E:=ER) (T:=165) (zero:=(0,0)) (bytes:=16) (g:=g) (q:=q) (n:=i) (l:=l) (ys:= []) tiR Tryz.underlying166 Tryz.underlying166 (by rfl) (by rfl) (by rfl) (by exact HG.out) (by exact .inr ⟨g,_,_,rfl,Nat.zero_le _,g_ HG.out,fun _ _ h=> by simp at h⟩) (by simp;omega) (by omega) ?_);intro w2 hb2 hext2)
   rw [hLL] at hb2
   have HB2:=hi_ hb2
   have hE2:Ext [g] w w2:=(Ext.refl [g] w).drew.trans hext2
   clear hb2 hext2
   go_wp2_with (with_reducible refine P_ ?_)
   refine k_ rfl fun K hK=> Z_ (E:=ER) (T:=165) (zero:=(0,0)) (bytes:=16) (g:=g) (q:=q+i) (l:=l) tiR Tryz.underlying166 rfl rfl HB2.out ?_ (by omega) ?_
   ·intro hpos
    simp [Nat.add_mul]
   intro w3 hb3 hext3
   have hE:Ext [g] w w3:=hE2.trans hext3
   have HB3:=hi_ hb3
   clear hb3 hext3
   refine hK _ _ ?_
   clear hK
   go_wp2
   go_ret
   refine⟨_,rfl,.inr ⟨g,q,_,_,by rw [e1];rfl,HB3.out,by rw [e1];omega,by rw [length_splice _ _ _ (by simp;omega)];omega, ?_⟩,hE,fun x hx=> .inl hx⟩
   rw [e1]
   show win _ _ _=_
   apply List.ext_getElem?
   intro k
   have hx:=congrArg (fun(z:List Rng)=> z[k]?) HX.out
   simp only [v_] at hx
   rw [v_,m_ _ _ _ _ (by omega),List.getElem?_take]
   (repeat' split) <;> first | rfl | (exfalso;omega) | (rw [<-hx,if_pos (by omega)]) | (congr 1 <;> omega)
 ·have hn3: ¬cap=i+(xs.length - j):=by omega
  have hcj: ¬cap=j:=by omega
  go_enter Tryz.func115,Tryz.ntmps115
  go_wp2_with fail
  have hsrc: ∀W:World,W.heap[g]? =some (.cells (ER.flat l).toArray 165 (0,0))->ER.Rd W (.slice (some ⟨g,q*2+j*2,none⟩) (xs.length - j) (cap - j)) (xs.drop j):=by
   intro W hW
   exact .inr ⟨g,_,cap - j,by rw [ekk],by rw [ekk];omega,g_ hW,da_ hW HX.out j⟩
  go_region_law ((try simp only [Act.put,zA,zB,zC,List.setIfInBounds_toArray,zD,zE]);refine iw rfl ?_;refine(H_ (s:= .tmp 22) (x:= .tmp 25) (E:=ER) (T:=165) (zero:=(0,0)) (bytes:=16) (g:=g) (q:=q) (n:=i) (l:=l) (ys:=xs.drop j) tiR Tryz.underlying166 Tryz.underlying166 (by rfl) (by rfl) (by rfl) (by exact HG.out) (by exact hsrc _ HG.out) (by rw [ekk];omega) hq ?_);intro w2 hb2 hext2)
  clear hsrc
  have HB2:=hi_ hb2
  have hE2:Ext [g] w w2:=(Ext.refl [g] w).drew.trans hext2
  clear hb2 hext2
  go_wp2_with (with_reducible refine P_ ?_)
  refine k_ rfl fun K hK=> Z_ (E:=ER) (T:=165) (zero:=(0,0)) (bytes:=16) (g:=g) (q:=q+(i+(xs.length - j))) tiR Tryz.underlying166 rfl rfl HB2.out ?_ (by rw [hL1];omega) ?_
  ·intro hpos
   simp [Nat.add_mul]
  intro w3 hb3 hext3
  have hE:Ext [g] w w3:=hE2.trans hext3
  have HB3:=hi_ hb3
  clear hb3 hext3
  refine hK _ _ ?_
  clear hK
  go_wp2
  go_ret
  refine⟨_,rfl,.inr ⟨g,q,_,_,by rw [e3];rfl,HB3.out,by rw [e3];omega,by rw [length_splice _ _ _ (by rw [hL1];simp;omega),hL1];exact hq, ?_⟩,hE,fun x hx=> .inl hx⟩
  rw [e3]
  show win _ _ _=_
  apply List.ext_getElem?
  intro k
  have hx:=congrArg (fun(z:List Rng)=> z[k]?) HX.out
  simp only [v_] at hx
  rw [v_,m_ _ _ _ _ (by rw [hL1];omega),m_ _ _ _ _ (by omega)]
  simp only [List.getElem?_append,e1,List.getElem?_take,ekk,List.getElem?_drop]
  (repeat' split) <;> first | rfl | (exfalso;omega) | (rw [<-hx,if_pos (by omega)]) | (congr 1 <;> omega) | (rw [List.getElem?_eq_none (by omega)])
theorem has_c (v:Value) (s:List Rng) (f t:Int) (w:World) (hv:ER.Rd w v s) (hs:Ok s) (h0:0<=f) (h1:f < t) (h2:t<=40000):
  Calls Tryz.prog 89 #[v,.agg #[.int .i64 f,.int .i64 t]] w fun e w'=> e= .returned (.bool (hasB s (f,t)))/\Ext [] w w':=by
 have hl:=hs.len
 obtain⟨HV,HS⟩:=h_2 hv hs
 obtain⟨p,cap,rfl,hcap⟩:=hv.len_eq
 clear hv hs
 go_enter Tryz.func89,Tryz.ntmps89
 go_wp2_with fail
 refine(at_c _ s f _ h0 (by omega) (by omega) (HV.out.ext0 ((Ext.refl _ _).alloc _)) HS.out.srt).mono ?_
 rintro e w1 ⟨k,rfl,hk,hE1⟩
 have hE:Ext [] w w1:=((Ext.refl [] w).alloc _).trans hE1
 have hc0:w1.cell? ⟨w.heap.size,0,none⟩=some (.int .i64 f):=hE1.cell (by simp) (by simp)
 have hc1:w1.cell? ⟨w.heap.size,1,none⟩=some (.int .i64 t):=hE1.cell (by simp) (by simp)
 have HB:=hi_ (hE_ (r:=(f,t)) HS.out hk h1)
 have HV1:=hi_ (HV.out.ext0 hE)
 have hkl:=hk.1
 clear hE1 hk HV
 obtain⟨x,hx⟩: ∃x,x=s.getD k (0,0):=⟨_,rfl⟩
 by_cases hlt:k < s.length
 ·obtain⟨g,o,rfl⟩: ∃g o,p=some ⟨g,o,none⟩:=by
   rcases HV1.out with ⟨_,h⟩ | ⟨g,o,c,h,_⟩
   ·subst h;simp at hlt
   ·cases h;exact⟨g,o,rfl⟩
  obtain⟨hm1,hm2⟩:=E_ HV1.out k hlt
  rw [<-hx] at hm1 hm2
  have HX:=hi_ hx
  clear hx
  by_cases c1:x.1<=f
  ·by_cases c2:t<=x.2
   ·go_wp2_with fail
    go_quiet (fail)
    go_wp2
    go_ret
    exact⟨by rw [HB.out,<-HX.out];simp [hlt,c1,c2],hE.drewN _⟩
   ·have c2':decide (t<=x.2)=false:=by simpa using c2
    go_wp2_with fail
    go_quiet (fail)
    go_wp2
    go_ret
    exact⟨by rw [HB.out,<-HX.out];simp;omega,hE.drewN _⟩
  ·have c1':decide (x.1<=f)=false:=by simpa using c1
   go_wp2_with fail
   go_quiet (fail)
   go_wp2
   go_ret
   exact⟨by rw [HB.out,<-HX.out];simp;omega,hE.drewN _⟩
 ·have hlt':decide (k < s.length)=false:=by simpa using hlt
  have HX:=hi_ hx
  clear hx
  go_wp2_with fail
  go_quiet (fail)
  go_wp2
  go_ret
  exact⟨by rw [HB.out];simp [hlt],hE.drewN _⟩
theorem meets_c (v:Value) (s:List Rng) (f t:Int) (w:World) (hv:ER.Rd w v s) (hs:Ok s) (h0:0<=f) (h1:f<=40000):
  Calls Tryz.prog 83 #[v,.agg #[.int .i64 f,.int .i64 t]] w fun e w'=> e= .returned (.bool (ah_ s (f,t)))/\Ext [] w w':=by
 have hl:=hs.len
 obtain⟨HV,HS⟩:=h_2 hv hs
 obtain⟨p,cap,rfl,hcap⟩:=hv.len_eq
 clear hv hs
 go_enter Tryz.func83,Tryz.ntmps83
 go_wp2_with fail
 refine(at_c _ s f _ h0 (by omega) (by omega) (HV.out.ext0 ((Ext.refl _ _).alloc _)) HS.out.srt).mono ?_
 rintro e w1 ⟨k,rfl,hk,hE1⟩
 have hE:Ext [] w w1:=((Ext.refl [] w).alloc _).trans hE1
 have hc1:w1.cell? ⟨w.heap.size,1,none⟩=some (.int .i64 t):=hE1.cell (by simp) (by simp)
 have HB:=hi_ (iq_ (r:=(f,t)) HS.out hk)
 have HV1:=hi_ (HV.out.ext0 hE)
 have hkl:=hk.1
 clear hE1 hk HV
 obtain⟨x,hx⟩: ∃x,x=s.getD k (0,0):=⟨_,rfl⟩
 by_cases hlt:k < s.length
 ·obtain⟨g,o,rfl⟩: ∃g o,p=some ⟨g,o,none⟩:=by
   rcases HV1.out with ⟨_,h⟩ | ⟨g,o,c,h,_⟩
   ·subst h;simp at hlt
   ·cases h;exact⟨g,o,rfl⟩
  obtain⟨hm1,hm2⟩:=E_ HV1.out k hlt
  rw [<-hx] at hm1 hm2
  have HX:=hi_ hx
  clear hx
  by_cases c1:x.1 < t
  ·go_wp2_with fail
   go_quiet (fail)
   go_wp2
   go_ret
   exact⟨by rw [HB.out,<-HX.out];simp;omega,hE.drewN _⟩
  ·have c1':decide (x.1 < t)=false:=by simpa using c1
   go_wp2_with fail
   go_quiet (fail)
   go_wp2
   go_ret
   exact⟨by rw [HB.out,<-HX.out];simp;omega,hE.drewN _⟩
 ·have hlt':decide (k < s.length)=false:=by simpa using hlt
  have HX:=hi_ hx
  clear hx
  go_wp2_with fail
  go_quiet (fail)
  go_wp2
  go_ret
  exact⟨by rw [HB.out];simp;omega,hE.drewN _⟩
theorem cntL_take (s:List Rng) (k:Nat) (h:k < s.length):cntL (s.take (k+1))=cntL (s.take k)+((s.getD k (0,0)).2 - (s.getD k (0,0)).1):=by
 have e:s.getD k (0,0)=s[k]:=by simp [List.getD,h]
 rw [List.take_succ_eq_append_getElem h,aY_,e];simp [cntL]
theorem cntL_bd {s:List Rng} (hs:Ok s): ∀b:Int,(∀x∈s,b<=x.1)->b<=40000->0<=cntL s/\cntL s<=40000 - b:=by
 induction s with
 | nil=> intro b _ hb;simp [cntL];omega
 | cons x s ih=>
  intro b hb hb2
  have hx:=hs.2 x (by simp)
  have:=hb x (by simp)
  have:=ih hs.cons (x.2) (fun y hy=> by have:=(List.pairwise_cons.1 hs.1).1 y hy;omega) (by omega)
  simp only [cntL];omega
theorem Ok.cnt {s:List Rng} (hs:Ok s):0<=cntL s/\cntL s<=40000:=by
 have:=cntL_bd hs 0 (fun x hx=> (hs.2 x hx).1) (by omega)
 omega
theorem Ok.take {s:List Rng} (hs:Ok s) (k:Nat):Ok (s.take k):=⟨hs.1.take,fun x hx=> hs.2 x (List.mem_of_mem_take hx)⟩
theorem count_c (v:Value) (s:List Rng) (w:World) (hv:ER.Rd w v s) (hs:Ok s):
  Calls Tryz.prog 87 #[v] w fun e w'=> e= .returned (.int .i64 (cntL s))/\Ext [] w w':=by
 have hl:=hs.len
 obtain⟨HS,HV⟩:=h_2 hs hv
 obtain⟨p,cap,rfl,hcap⟩:=hv.len_eq
 clear hv hs
 go_enter Tryz.func87,Tryz.ntmps87
 go_wp2
 go_loopw [3,8,5] (fun n i _ wr=> ∃k:Nat,k<=s.length/\i= .int .i64 k/\n= .int .i64 (cntL (s.take k))/\Ext [] w wr) (fun _ i _ _=> s.length - (intOf i).toNat)
 case atStart=> exact⟨0,Nat.zero_le _,rfl,rfl,Ext.refl _ _⟩
 case round=>
  obtain⟨k,hk,rfl,rfl,hB⟩:=hrel
  by_cases hlt:k < s.length
  ·have hv1:=HV.out.ext0 hB
   obtain⟨g,o,rfl⟩: ∃g o,p=some ⟨g,o,none⟩:=by
    rcases HV.out with ⟨_,h⟩ | ⟨g,o,c,h,_⟩
    ·subst h;simp at hlt
    ·cases h;exact⟨g,o,rfl⟩
   obtain⟨hm1,hm2⟩:=E_ hv1 k hlt
   have HT:=hi_ (cntL_take s k hlt)
   obtain⟨b1,b2⟩:=(HS.out.take k).cnt
   obtain⟨b3,b4⟩:=(HS.out.take (k+1)).cnt
   rw [HT.out] at b3 b4
   have b5:=HS.out.at hlt
   generalize s.getD k (0,0)=x at*
   obtain⟨C,hC⟩: ∃C,C=cntL (s.take k):=⟨_,rfl⟩
   rw [<-hC] at b1 b2 b3 b4
   rw [<-hC]
   have HC:=hi_ hC
   clear hv1 hC
   go_wp2
   go_roundw
   case rel=> exact⟨k+1,by omega,by go_num,by rw [HT.out,<-HC.out],hB.alloc _⟩
   case measure=> simp [intOf];omega
  ·go_wp2
   go_ret
   refine⟨?_,hB⟩
   rw [List.take_of_length_le (by omega)]
   rfl
def dL_ (w:World) (p:List Rng->Prop) (e:Ending) (w':World):Prop:= ∃v' s',e= .returned v'/\ER.Ow 165 w' v' s'/\p s'/\Ext [] w w'
theorem split_at {s:List Rng} (h:k < s.length):s=s.take k++s.getD k (0,0)::s.drop (k+1):=by
 have e:s.getD k (0,0)=s[k]:=by simp [List.getD,h]
 rw [e,<-List.drop_eq_getElem_cons h,List.take_append_drop]
theorem blk_new {W0:World} {o:Obj} (h:n=W0.heap.size):(W0.alloc o).heap[n]? =some o:=by subst h;exact heap_alloc_new _ _
theorem ef_ {W0:World} {a b:Int} (h:n=W0.heap.size):ER.Ow 165 (W0.alloc (.cells #[.int .i64 a,.int .i64 b] 165)) (.slice (some ⟨n,0,none⟩) 1 1) [(a,b)]:=
 .inr ⟨n,0,1,[(a,b)],rfl,blk_new h,by simp,by simp,by simp⟩
theorem cut_c (v:Value) (s:List Rng) (f t:Int) (w:World) (hv:ER.Ow 165 w v s) (hs:Ok s) (h0:0<=f) (h1:f < t) (h2:t<=40000) (hh:hasB s (f,t)=true):
  Calls Tryz.prog 84 #[v,.agg #[.int .i64 f,.int .i64 t]] w (dL_ w fun s'=> Ok s'/\(∀c,Mem s' c↔Mem s c/\ ¬(f<=c/\c < t))/\cntL s'=cntL s - (t - f)):=by
 have hl:=hs.len
 obtain⟨HV,HS⟩:=h_2 hv hs
 obtain⟨p,cap,rfl,hcap⟩:=hv.rd.len_eq
 clear hv hs
 go_enter Tryz.func84,Tryz.ntmps84
 go_wp2_with fail
 refine(at_c _ s f _ h0 (by omega) (by omega) (HV.out.rd.ext0 ((Ext.refl _ _).alloc _)) HS.out.srt).mono ?_
 rintro e w1 ⟨k,rfl,hk,hE1⟩
 have hE:Ext [] w w1:=((Ext.refl [] w).alloc _).trans hE1
 have hc0:w1.cell? ⟨w.heap.size,0,none⟩=some (.int .i64 f):=hE1.cell (by simp) (by simp)
 have hc1:w1.cell? ⟨w.heap.size,1,none⟩=some (.int .i64 t):=hE1.cell (by simp) (by simp)
 have hb:=hE_ (r:=(f,t)) HS.out hk h1
 rw [hh] at hb
 simp at hb
 obtain⟨hlt,g1,g2⟩:=hb
 have hlt1:w.heap.size < w1.heap.size:=by have:=hE1.size;simp at this;omega
 have HV1:=hi_ (HV.out.ext0 hE)
 have HSP:=hi_ (split_at hlt)
 clear hE1 hk HV hh
 obtain⟨x,hx⟩: ∃x,x=s.getD k (0,0):=⟨_,rfl⟩
 have hxe:s.getD k (0,0)=(s[k]?.getD (0,0)):=rfl
 rw [<-hxe,<-hx] at g1 g2
 obtain⟨g,o,rfl⟩: ∃g o,p=some ⟨g,o,none⟩:=by
  rcases HV1.out.rd with ⟨_,h⟩ | ⟨g,o,c,h,_⟩
  ·subst h;simp at hlt
  ·cases h;exact⟨g,o,rfl⟩
 obtain⟨hm1,hm2⟩:=E_ HV1.out.rd k hlt
 rw [<-hx] at hm1 hm2
 have HX:=hi_ hx
 clear hx hxe
 have hw1:w.heap.size < w1.heap.size:=hlt1
 have HPn: ∀W,ER.Ow 165 W (.slice none 0 0) []:=fun W=> .inl ⟨rfl,rfl⟩
 by_cases c1:x.1 < f
 ·have C1:=hi_ c1
  go_wp2_with (with_reducible refine f_ (d:=28) ?_)
  refine k_ rfl fun K hK=> b_ (E:=ER) (T:=165) (zero:=(0,0)) (bytes:=16) (v:= .slice none 0 0) (xs:= []) (ys:= [(x.1,f)]) tiR Tryz.underlying62 Tryz.underlying62 rfl rfl rfl (.inl ⟨rfl,rfl⟩) (ef_ (by simp)).rd (by simp) (by simp) ?_
  intro v2 w2 how2 hext2 hnear2 hnn2
  have hE2:Ext [] w1 w2:=(((Ext.refl [] w1).alloc _).alloc _).trans' hext2 (by simp) (by simp [blkL])
  have k1:w2.cell? ⟨w1.heap.size,1,none⟩=some (.int .i64 x.2):=hext2.cell (by simp [World.cell?_alloc_lt]) (by simp [blkL])
  have k2:w2.cell? ⟨w.heap.size,1,none⟩=some (.int .i64 t):=hE2.cell hc1 (by simp)
  have kz:w1.heap.size < w2.heap.size:=by have:=hext2.size;simp at this;omega
  have hnew2: ∀b∈blkL v2,w1.heap.size<=b:=fun b hb=> by
   rcases hnear2 b hb with h | h
   ·simp [blkL] at h
   ·simp at h;omega
  refine hK _ _ ?_
  clear hK hext2 hnear2 hnn2 hc0 hc1 hm1 hm2
  simp only [List.nil_append] at how2
  have HO2:=hi_ how2
  clear how2
  have hb2: ∀b∈blkL v2,w1.heap.size<=b:=hnew2
  by_cases c2:t < x.2
  ·have C2:=hi_ c2
   go_wp2_with (with_reducible refine f_ (d:=41) ?_)
   refine k_ rfl fun K hK=> b_ (E:=ER) (T:=165) (zero:=(0,0)) (bytes:=16) (v:=v2) (xs:= [(x.1,f)]) (ys:= [(t,x.2)]) tiR Tryz.underlying62 Tryz.underlying62 rfl rfl rfl (HO2.out.ext0 ((Ext.refl _ _).alloc _)) (ef_ (by simp)).rd (by simp) (by simp) ?_
   intro v3 w3 how3 hext3 hnear3 hnn3
   have hE3:Ext [] w1 w3:=(hE2.alloc _).trans' hext3 (by simp) (fun b hb=> .inr (hb2 b hb))
   refine hK _ _ ?_
   clear hK hext3 hnear3 hnn3 k1 k2
   have HO3:=hi_ how3
   clear how3
   go_wp2_with fail
   refine(dF_ _ s w3 (by omega) (HV1.out.ext0 (hE3)).rd).mono ?_
   rintro e w5 ⟨vc,rfl,howc,hEc,hfrc,hnn⟩
   rcases howc with ⟨_,h⟩ | ⟨gc,qc,capc,lc,rfl,hbc,hcc,hqc,hwc⟩
   ·subst h;simp at hlt
   have HP5:=hi_ ((HO3.out).ext0 hEc)
   have hne: ∀b∈blkL (v3),b≠gc:=fun b hb hbe=> by
    have h2:=hfrc gc (by simp [blkL])
    first | (simp [blkL] at hb;done) | (have h1:=(HO3.out).lt b hb;omega)
   have hgc:=hfrc gc (by simp [blkL])
   have hE5:Ext [] w w5:=(hE.trans (hE3)).trans hEc
   have hle:=(hE.trans (hE3)).size
   clear hnn hfrc hEc
   go_wp2_with fail
   refine(ch_ gc qc capc lc _ s ([(x.1,f)]++ [(t,x.2)]) k (k+1) _ hbc hcc hqc hwc HP5.out hne (by omega) (by omega) (by simp;omega)).mono ?_
   rintro e w6 ⟨v6,rfl,how6,hE6,_⟩
   go_wp2
   go_ret
   have hok:=eZ_ (A:=s.take k) (B:=s.drop (k+1)) (x:=x) (r:=(f,t)) (by rw [HX.out,<-HSP.out];exact HS.out) h1 g1 g2
   rw [HX.out,<-HSP.out,<-HX.out] at hok
   refine⟨v6,_,rfl,how6, ?_,hE5.trans' hE6 (by simp) (by simp [blkL];omega)⟩
   have e:s.take k++([(x.1,f)]++ [(t,x.2)])++s.drop (k+1)=cutR (s.take k) x (f,t) (s.drop (k+1)):=by
    have d1:=C1.out
    have d2:=C2.out
    simp only [cutR]
    (repeat' split) <;> first | (exfalso;omega) | simp
   rw [e];exact hok
  ·have C2:=hi_ c2
   go_wp2_with fail
   refine(dF_ _ s w2 (by omega) (HV1.out.ext0 (hE2)).rd).mono ?_
   rintro e w5 ⟨vc,rfl,howc,hEc,hfrc,hnn⟩
   rcases howc with ⟨_,h⟩ | ⟨gc,qc,capc,lc,rfl,hbc,hcc,hqc,hwc⟩
   ·subst h;simp at hlt
   have HP5:=hi_ ((HO2.out).ext0 hEc)
   have hne: ∀b∈blkL (v2),b≠gc:=fun b hb hbe=> by
    have h2:=hfrc gc (by simp [blkL])
    first | (simp [blkL] at hb;done) | (have h1:=(HO2.out).lt b hb;omega)
   have hgc:=hfrc gc (by simp [blkL])
   have hE5:Ext [] w w5:=(hE.trans (hE2)).trans hEc
   have hle:=(hE.trans (hE2)).size
   clear hnn hfrc hEc
   go_wp2_with fail
   refine(ch_ gc qc capc lc _ s ([(x.1,f)]) k (k+1) _ hbc hcc hqc hwc HP5.out hne (by omega) (by omega) (by simp;omega)).mono ?_
   rintro e w6 ⟨v6,rfl,how6,hE6,_⟩
   go_wp2
   go_ret
   have hok:=eZ_ (A:=s.take k) (B:=s.drop (k+1)) (x:=x) (r:=(f,t)) (by rw [HX.out,<-HSP.out];exact HS.out) h1 g1 g2
   rw [HX.out,<-HSP.out,<-HX.out] at hok
   refine⟨v6,_,rfl,how6, ?_,hE5.trans' hE6 (by simp) (by simp [blkL];omega)⟩
   have e:s.take k++([(x.1,f)])++s.drop (k+1)=cutR (s.take k) x (f,t) (s.drop (k+1)):=by
    have d1:=C1.out
    have d2:=C2.out
    simp only [cutR]
    (repeat' split) <;> first | (exfalso;omega) | simp
   rw [e];exact hok
 ·have C1:=hi_ c1
  by_cases c2:t < x.2
  ·have C2:=hi_ c2
   go_wp2_with (with_reducible refine f_ (d:=41) ?_)
   refine k_ rfl fun K hK=> b_ (E:=ER) (T:=165) (zero:=(0,0)) (bytes:=16) (v:= .slice none 0 0) (xs:= []) (ys:= [(t,x.2)]) tiR Tryz.underlying62 Tryz.underlying62 rfl rfl rfl (HPn _) (ef_ (by simp)).rd (by simp) (by simp) ?_
   intro v2 w2 how2 hext2 hnear2 hnn2
   have hE2:Ext [] w1 w2:=(((Ext.refl [] w1).alloc _).alloc _).trans' hext2 (by simp) (by simp [blkL])
   refine hK _ _ ?_
   clear hK hext2 hnear2 hnn2 hc0 hc1 hm1 hm2
   simp only [List.nil_append] at how2
   have HO2:=hi_ how2
   clear how2
   go_wp2_with fail
   refine(dF_ _ s w2 (by omega) (HV1.out.ext0 (hE2)).rd).mono ?_
   rintro e w5 ⟨vc,rfl,howc,hEc,hfrc,hnn⟩
   rcases howc with ⟨_,h⟩ | ⟨gc,qc,capc,lc,rfl,hbc,hcc,hqc,hwc⟩
   ·subst h;simp at hlt
   have HP5:=hi_ ((HO2.out).ext0 hEc)
   have hne: ∀b∈blkL (v2),b≠gc:=fun b hb hbe=> by
    have h2:=hfrc gc (by simp [blkL])
    first | (simp [blkL] at hb;done) | (have h1:=(HO2.out).lt b hb;omega)
   have hgc:=hfrc gc (by simp [blkL])
   have hE5:Ext [] w w5:=(hE.trans (hE2)).trans hEc
   have hle:=(hE.trans (hE2)).size
   clear hnn hfrc hEc
   go_wp2_with fail
   refine(ch_ gc qc capc lc _ s ([(t,x.2)]) k (k+1) _ hbc hcc hqc hwc HP5.out hne (by omega) (by omega) (by simp;omega)).mono ?_
   rintro e w6 ⟨v6,rfl,how6,hE6,_⟩
   go_wp2
   go_ret
   have hok:=eZ_ (A:=s.take k) (B:=s.drop (k+1)) (x:=x) (r:=(f,t)) (by rw [HX.out,<-HSP.out];exact HS.out) h1 g1 g2
   rw [HX.out,<-HSP.out,<-HX.out] at hok
   refine⟨v6,_,rfl,how6, ?_,hE5.trans' hE6 (by simp) (by simp [blkL];omega)⟩
   have e:s.take k++([(t,x.2)])++s.drop (k+1)=cutR (s.take k) x (f,t) (s.drop (k+1)):=by
    have d1:=C1.out
    have d2:=C2.out
    simp only [cutR]
    (repeat' split) <;> first | (exfalso;omega) | simp
   rw [e];exact hok
  ·have C2:=hi_ c2
   go_wp2_with fail
   refine(dF_ _ s _ (by omega) (HV1.out.ext0 (((Ext.refl [] w1).alloc (.cells #[.int .i64 x.1,.int .i64 x.2] 165)))).rd).mono ?_
   rintro e w5 ⟨vc,rfl,howc,hEc,hfrc,hnn⟩
   rcases howc with ⟨_,h⟩ | ⟨gc,qc,capc,lc,rfl,hbc,hcc,hqc,hwc⟩
   ·subst h;simp at hlt
   have HP5:=hi_ (((HPn _)).ext0 hEc)
   have hne: ∀b∈blkL (.slice none 0 0),b≠gc:=fun b hb hbe=> by
    have h2:=hfrc gc (by simp [blkL])
    first | (simp [blkL] at hb;done) | (have h1:=((HPn _)).lt b hb;omega)
   have hgc:=hfrc gc (by simp [blkL])
   have hE5:Ext [] w w5:=(hE.trans (((Ext.refl [] w1).alloc (.cells #[.int .i64 x.1,.int .i64 x.2] 165)))).trans hEc
   have hle:=(hE.trans (((Ext.refl [] w1).alloc (.cells #[.int .i64 x.1,.int .i64 x.2] 165)))).size
   clear hnn hfrc hEc
   go_wp2_with fail
   refine(ch_ gc qc capc lc _ s (([]:List Rng)) k (k+1) _ hbc hcc hqc hwc HP5.out hne (by omega) (by omega) (by simp;omega)).mono ?_
   rintro e w6 ⟨v6,rfl,how6,hE6,_⟩
   go_wp2
   go_ret
   have hok:=eZ_ (A:=s.take k) (B:=s.drop (k+1)) (x:=x) (r:=(f,t)) (by rw [HX.out,<-HSP.out];exact HS.out) h1 g1 g2
   rw [HX.out,<-HSP.out,<-HX.out] at hok
   refine⟨v6,_,rfl,how6, ?_,hE5.trans' hE6 (by simp) (by simp [blkL];omega)⟩
   have e:s.take k++(([]:List Rng))++s.drop (k+1)=cutR (s.take k) x (f,t) (s.drop (k+1)):=by
    have d1:=C1.out
    have d2:=C2.out
    simp only [cutR]
    (repeat' split) <;> first | (exfalso;omega) | simp
   rw [e];exact hok
theorem flat_set {l:List Rng} {j:Nat} (h:j < l.length) (r:Nat) (u:Value) (a:Rng) (ha:ER.enc a=(ER.enc (l.getD j (0,0))).set r u) (hr:r < 2):(ER.flat l).set (j*2+r) u=ER.flat (l.set j a):=by
 induction l generalizing j with
 | nil=> simp at h
 | cons x l ih=>
  cases j with
  | zero=>
   simp only [List.getD_cons_zero] at ha
   simp only [Nat.zero_mul,Nat.zero_add,Enc.flat_cons,List.set_cons_zero,ha]
   rw [List.set_append_left _ _ (by simpa using hr)]
  | succ j=>
   simp only [List.getD_cons_succ] at ha
   simp only [Enc.flat_cons,List.set_cons_succ]
   rw [<-ih (by simpa using h) ha,List.set_append_right _ _ (by simp;omega)]
   congr 2
   simp;omega
theorem fe_ {g j o:Nat} {l:List Rng} (hg:w.heap[g]? =some (.cells (ER.flat l).toArray 165 (0,0))) (h:j < l.length) (ho:o=j*2+1) (b:Int):
  (w.setCell ⟨g,o,none⟩ (.int .i64 b)).heap[g]? =some (.cells (ER.flat (l.set j ((l.getD j (0,0)).1,b))).toArray 165 (0,0)):=by
 subst ho
 rw [heap_setCell_same w g _ _ _ _ hg]
 congr 2
 apply Array.ext'
 simp only [Array.toList_setIfInBounds]
 exact flat_set h 1 _ _ rfl (by omega)
theorem ev_ {α:Type} (l:List α) (q i n:Nat) (a:α) (h:i < n):win (l.set (q+i) a) q n=(win l q n).set i a:=by
 apply List.ext_getElem?
 intro k
 rw [v_,List.getElem?_set,List.getElem?_set,v_]
 have hl:(win l q n).length=min n (l.length - q):=by simp [win]
 rw [hl]
 (repeat' split) <;> first | rfl | (exfalso;omega) | (simp;omega)
theorem fF_ {s:List Rng} (h0:0 < k) (hk:k<=s.length):s.take k=s.take (k - 1)++ [s.getD (k - 1) (0,0)]:=by
 obtain⟨m,rfl⟩: ∃m,k=m+1:=⟨k - 1,by omega⟩
 have hm:m < s.length:=by omega
 have e:s.getD m (0,0)=s[m]:=by simp [List.getD,hm]
 simp only [Nat.add_sub_cancel]
 rw [e,List.take_succ_eq_append_getElem hm]
theorem cK_ {s B:List Rng} {r:Rng} (h0:0 < k) (hk:k<=s.length):
  addR (s.take k) r B=if (s.getD (k - 1) (0,0)).2=r.1 then s.take (k - 1)++((s.getD (k - 1) (0,0)).1,(addT r B).1)::(addT r B).2 else s.take k++(r.1,(addT r B).1)::(addT r B).2:=by
 rw [dK_,fF_ h0 hk]
 simp
theorem gC_ {s B:List Rng} {m a:Rng} (h0:0 < k) (hk:k<=s.length):((s.take k++m::B).set (k - 1) a).take k++((s.take k++m::B).set (k - 1) a).drop (k+1)=s.take (k - 1)++a::B:=by
 have hl:(s.take (k - 1)).length=k - 1:=by simp;omega
 rw [fF_ h0 hk,List.append_assoc,List.set_append_right _ _ (by omega),hl,Nat.sub_self]
 simp only [List.singleton_append,List.set_cons_zero]
 rw [List.take_append,List.drop_append,hl,show k - (k - 1)=1 from by omega,show k+1 - (k - 1)=2 from by omega]
 rw [List.take_of_length_le (by omega),List.drop_eq_nil_of_le (by omega)]
 simp
theorem set_del2 {s B:List Rng} {m x a:Rng} (hk:k<=s.length):((s.take k++m::x::B).set k a).take (k+1)++((s.take k++m::x::B).set k a).drop (k+2)=s.take k++a::B:=by
 have hl:(s.take k).length=k:=by simp;omega
 rw [List.set_append_right _ _ (by omega),hl,Nat.sub_self,List.set_cons_zero]
 rw [List.take_append,List.drop_append,hl,show k+1 - k=1 from by omega,show k+2 - k=2 from by omega]
 rw [List.take_of_length_le (by omega),List.drop_eq_nil_of_le (by omega)]
 simp
theorem dd_ {s B:List Rng} {m:Rng} (hk:k<=s.length):(s.take k++m::B).getD k (0,0)=m:=by
 have:(s.take k).length=k:=by simp;omega
 simp [List.getD,this]
theorem bm_ {s B:List Rng} {m:Rng} (hk:k<=s.length) (hi:i < k):(s.take k++m::B).getD i (0,0)=s.getD i (0,0):=by
 have:(s.take k).length=k:=by simp;omega
 simp only [List.getD]
 rw [List.getElem?_append_left (by omega),List.getElem?_take,if_pos hi]
def AddMid (w:World) (s:List Rng) (f t:Int) (k:Nat) (v6:Value) (W:World):Prop:= ∃g q cap l,v6= .slice (some ⟨g,q*2,none⟩) (s.length+1) cap/\Hid (W.heap[g]? =some (.cells (ER.flat l).toArray 165 (0,0)))/\
 s.length+1<=cap/\q+cap<=l.length/\Hid (win l q (s.length+1)=s.take k++ [(f,t)]++s.drop k)/\w.heap.size < g/\Ext [] w W/\W.cell? ⟨w.heap.size,0,none⟩=some (.int .i64 f)/\W.cell? ⟨w.heap.size,1,none⟩=some (.int .i64 t)
theorem add_c (v:Value) (s:List Rng) (f t:Int) (w:World) (hv:ER.Ow 165 w v s) (hs:Ok s) (h0:0<=f) (h1:f < t) (h2:t<=40000) (hh:ah_ s (f,t)=false):
  Calls Tryz.prog 85 #[v,.agg #[.int .i64 f,.int .i64 t]] w (dL_ w fun s'=> Ok s'/\(∀c,Mem s' c↔Mem s c\/(f<=c/\c < t))/\cntL s'=cntL s+(t - f)):=by
 have hl:=hs.len
 obtain⟨HV,HS⟩:=h_2 hv hs
 obtain⟨p,cap,rfl,hcap⟩:=hv.rd.len_eq
 clear hv hs
 go_enter Tryz.func85,Tryz.ntmps85
 go_wp2_with fail
 refine(at_c _ s f _ h0 (by omega) (by omega) (HV.out.rd.ext0 ((Ext.refl _ _).alloc _)) HS.out.srt).mono ?_
 rintro e w1 ⟨k,rfl,hk,hE1⟩
 have hE:Ext [] w w1:=((Ext.refl [] w).alloc _).trans hE1
 have hc0:w1.cell? ⟨w.heap.size,0,none⟩=some (.int .i64 f):=hE1.cell (by simp) (by simp)
 have hc1:w1.cell? ⟨w.heap.size,1,none⟩=some (.int .i64 t):=hE1.cell (by simp) (by simp)
 have hlt1:w.heap.size < w1.heap.size:=by have:=hE1.size;simp at this;omega
 have HV1:=hi_ (HV.out.ext0 hE)
 have HK:=hi_ hk
 have hkl:=hk.1
 clear hE1 hk HV
 go_upto_region 2 with fail
 go_cut [6] (fun v6 W=> AddMid w s f t k v6 W)
 case first=>
  have hd1:Ext [] w1 w1.drew:=(Ext.refl [] _).drew
  go_region_held3 (fun W=> W.cell? ⟨w.heap.size,0,none⟩=some (.int .i64 f)/\W.cell? ⟨w.heap.size,1,none⟩=some (.int .i64 t)) (first | exact⟨hE16.cell hc0 (by simp),hE16.cell hc1 (by simp)⟩ | exact⟨hE15.cell hc0 (by simp),hE15.cell hc1 (by simp)⟩ | go_keep)
   (first
    | (go_at_call 86;refine(dF_ _ s _ (by omega) (by first | exact(HV1.out.ext0 (hd1.alloc _)).rd | exact(HV1.out.ext0 hd1).rd)).mono ?_;rintro e w5 ⟨vc,rfl,howc,hEc,hfrc,hnn⟩;clear hnn;have hE15:Ext [] w1 w5:=(by first | exact(hd1.alloc _).trans hEc | exact hd1.trans hEc))
    | (go_at_call 114;refine(insert_c vc _ s [(f,t)] k _ (by first | exact howc | exact howc.ext0 ((Ext.refl _ _).alloc _)) (by first | exact ef_ (by simp) | exact(ef_ (W0:=w1.drew) (by simp)).ext0 hEc) (by intro b hb hb2;have h3:=hfrc b hb2;have h4:=howc.lt b hb2;simp [blkL] at hb;simp at h3;omega) hkl (by simp;omega)).mono ?_;rintro e w6 ⟨v6,rfl,how6,hE6,hnear6⟩;have hE56:Ext [] w1 w6:=(by first | exact hE15.trans' hE6 (by simp) (fun b hb=> .inr (Nat.le_trans (by simp) (hfrc b hb))) | exact(hE15.alloc _).trans' hE6 (by simp) (fun b hb=> .inr (Nat.le_trans (by simp) (hfrc b hb))));have hE16:Ext [] w1 w6:=hE56))
  all_goals
   go_wp2_with fail
   go_meet
   rcases how6 with ⟨_,h⟩ | ⟨g6,q6,cap6,l6,hv6,hb6,hc6,hq6,hw6⟩
   ·have:=congrArg List.length h;simp at this
   have e6:(s.take k++ [(f,t)]++s.drop k).length=s.length+1:=by simp;omega
   rw [e6] at hv6 hc6 hw6
   refine⟨g6,q6,cap6,l6,hv6,hb6,hc6,hq6,hw6, ?_,hE.trans hE16,hE16.cell hc0 (by simp),hE16.cell hc1 (by simp)⟩
   have hn6:=hnear6 g6 (by rw [hv6];simp [blkL])
   rcases hn6 with h | h
   ·have:=hfrc g6 h;simp at this;omega
   ·have:=hE15.size;(try simp at h);omega
 case rest=>
  obtain⟨g,q,c6,l,rfl,HG,hc6,hq6,HWN,hgw,hE6,k0,k1⟩:=hcut
  clear hE HV1 hc0 hc1 hlt1
  have hsp:=HK.out.split
  have hB: ∀x∈s.drop k,t<=x.1:=by
   intro x hx
   have h3:=hsp.2 x hx
   have h4: ¬(x.1 < t/\f < x.2):=fun hh'=> by
    have:ah_ s (f,t)=true:=by
     simp only [ah_,List.any_eq_true,Bool.and_eq_true,decide_eq_true_eq]
     exact⟨x,List.mem_of_mem_drop hx,hh'.1,hh'.2⟩
    rw [hh] at this;cases this
   omega
  have hok:=addR_ok (A:=s.take k) (B:=s.drop k) (r:=(f,t)) (by rw [List.take_append_drop];exact HS.out) ⟨h0,h1,h2⟩ (fun x hx=> by have:=hsp.1 x hx;simpa using this) hB
  rw [List.take_append_drop] at hok
  have HOK:=hi_ hok
  clear hok hB hsp hh
  have hv6:ER.Ow 165 wc (.slice (some ⟨g,q*2,none⟩) (s.length+1) c6) (s.take k++ [(f,t)]++s.drop k):=by
   have e6:(s.take k++ [(f,t)]++s.drop k).length=s.length+1:=by simp;omega
   exact .inr ⟨g,q,c6,l,by rw [e6];rfl,HG.out,by rw [e6];exact hc6,hq6,by rw [e6];exact HWN.out⟩
  have e2:IntKind.i64.wrap ((k:Int)+1)=(k:Int)+1:=IntWalk.i64_in _ (by omega)
  have e3:(0:Int)<=(k:Int)+1:=by omega
  have e4:((k:Int)+1).toNat=k+1:=by omega
  have HWN2:Hid (win l q (s.length+1)=s.take k++(f,t)::s.drop k):=by have:=HWN.out;simp only [List.append_assoc,List.singleton_append] at this;exact this
  by_cases a1:k < s.length
  ·obtain⟨x,hx⟩: ∃x,x=s.getD k (0,0):=⟨_,rfl⟩
   have hdr:s.drop k=x::s.drop (k+1):=by
    rw [hx];simp only [List.getD,List.getElem?_eq_getElem a1,Option.getD_some];exact List.drop_eq_getElem_cons a1
   have hLk:(s.take k++ [(f,t)]++s.drop k).getD k (0,0)=(f,t):=by
    have:(s.take k).length=k:=by simp;omega
    simp [List.getD,this]
   have hLk1:(s.take k++ [(f,t)]++s.drop k).getD (k+1) (0,0)=x:=by
    have:(s.take k).length=k:=by simp;omega
    rw [hdr]
    simp [List.getD,this]
   have e6:(s.take k++ [(f,t)]++s.drop k).length=s.length+1:=by simp;omega
   obtain⟨m1,m2⟩:=E_ hv6.rd k (by omega)
   obtain⟨m3,m4⟩:=E_ hv6.rd (k+1) (by omega)
   rw [hLk] at m1 m2
   rw [hLk1] at m3 m4
   obtain⟨HX,HDR,HV6⟩:=h_3 hx hdr hv6
   have e5:(k:Int)+1 < (s.length:Int)+1:=by omega
   have e7:(k:Int) < (s.length:Int)+1:=by omega
   clear hx hdr hLk hLk1 e6 hv6
   by_cases a2:t=x.1
   ·have A2:=hi_ a2
    have a2':(t==x.1)=true:=by simpa using a2
    clear a2
    have hadd:addT (f,t) (s.drop k)=(x.2,s.drop (k+1)):=by rw [HDR.out];simp only [addT];rw [if_pos A2.out]
    have HADD:=hi_ hadd
    clear hadd
    have hfz: ∀j,wc.frozen? ⟨g,j,none⟩=false:=fun j=> frozen_of_row _ _ j _ _ HG.out
    go_wp2_with fail
    go_quiet (fail)
    clear e2 e3 a2'
    go_wp2_with fail
    generalize hWW:World.setCell _ _ _=W3
    have hg3:W3.heap[g]? =some (.cells (ER.flat (l.set (q+k) ((l.getD (q+k) (0,0)).1,x.2))).toArray 165 (0,0)):=by
     rw [<-hWW]
     exact fe_ HG.out (by omega) (by rw [Nat.add_mul]) _
    have hE3:Ext [] w W3:=by
     rw [<-hWW]
     exact(hE6.drewN _).setCell (.inr (by simp;omega)) _
    have hLy:(l.getD (q+k) (0,0)).1=f:=by
     have h:=congrArg (fun(z:List Rng)=> z.getD k (0,0)) HWN2.out
     simp only [dd_ hkl] at h
     have h':l.getD (q+k) (0,0)=(f,t):=by
      rw [<-h]
      simp only [List.getD,v_]
      rw [if_pos (by omega)]
     rw [h']
    rw [hLy] at hg3
    have hnn2:(s.take k++(f,t)::x::s.drop (k+1)).length=s.length+1:=by simp;omega
    have hw3:win (l.set (q+k) (f,x.2)) q ((s.take k++(f,t)::x::s.drop (k+1)).set k (f,x.2)).length=(s.take k++(f,t)::x::s.drop (k+1)).set k (f,x.2):=by
     rw [List.length_set,hnn2,ev_ _ _ _ _ _ (by omega),HWN2.out,HDR.out]
    have hlen3:((s.take k++(f,t)::x::s.drop (k+1)).set k (f,x.2)).length=s.length+1:=by rw [List.length_set,hnn2]
    have hdel:=de_ g q c6 _ _ (k+1) (k+2) W3 hg3 (by rw [hlen3];exact hc6) (by rw [List.length_set];exact hq6) hw3 (by omega) (by rw [hlen3];omega) (by rw [hlen3];omega)
    rw [hlen3,set_del2 hkl] at hdel
    refine hdel.mono ?_
    clear hdel hw3 hg3 hLy m1 m2 m3 m4 hfz
    rintro e w4 ⟨v4,rfl,how4,hE4,hnear4⟩
    have hE5:Ext [] w w4:=hE3.trans' hE4 (by simp) (by simp [blkL];omega)
    have hgn: ∀b∈blkL v4,w.heap.size < b:=fun b hb=> by
     rcases hnear4 b hb with h | h
     ·simp [blkL] at h;omega
     ·have h3:=hE3.size
      have h5:g < W3.heap.size:=by rw [<-hWW];simp;exact g_ HG.out
      omega
    rcases how4 with ⟨_,h⟩ | ⟨g4,q4,c4,l4,rfl,hb4,hc4,hq4,hw4⟩
    ·have:=congrArg List.length h;simp at this
    have hgw4:=hgn g4 (by simp [blkL])
    have hn4:(s.take k++(f,x.2)::s.drop (k+1)).length=s.length:=by simp;omega
    rw [hn4] at hc4 hw4 ⊢
    have HGb:=hi_ hb4
    have HWb:Hid (win l4 q4 s.length=s.take k++(f,x.2)::s.drop (k+1)):=hw4
    have hEb:=hE5
    clear hb4 hw4 hE4 hnear4 hE3 hWW hgn hnn2 hlen3 hE5
    go_wp2_with fail
    have hnn:(s.take k++(f,x.2)::s.drop (k+1)).length=s.length:=by simp;omega
    have hvB:ER.Ow 165 w4 (.slice (some ⟨g4,q4*2,none⟩) (s.length) c4) (s.take k++(f,x.2)::s.drop (k+1)):= .inr ⟨g4,q4,c4,l4,by rw [hnn];rfl,(HGb).out,by rw [hnn];omega,by omega,by rw [hnn];exact(HWb).out⟩
    have hfin: ∀(v7:Value) (w7:World) (xs:List Rng),ER.Ow 165 w7 v7 xs->xs=addR (s.take k) (f,t) (s.drop k)->Ext [] w w7->dL_ w (fun s'=> Ok s'/\(∀c,Mem s' c↔Mem s c\/(f<=c/\c < t))/\cntL s'=cntL s+(t - f)) (.returned v7) w7:=by
     intro v7 w7 xs h1 h2 h3
     subst h2
     exact⟨v7,_,rfl,h1,HOK.out,h3⟩
    have HFIN:=hi_ hfin
    obtain⟨qq1,qq2⟩:=E_ hvB.rd k (by rw [hnn];omega)
    rw [dd_ hkl] at qq1 qq2
    obtain⟨HVB,HNN⟩:=h_2 hvB hnn
    clear hfin hvB hnn
    have u1:(k:Int) < ((s.length:Nat):Int):=by omega
    by_cases b1:0 < k
    ·obtain⟨y,hy⟩: ∃y,y=s.getD (k - 1) (0,0):=⟨_,rfl⟩
     obtain⟨qq3,qq4⟩:=E_ HVB.out.rd (k - 1) (by rw [HNN.out];omega)
     rw [bm_ hkl (by omega),<-hy] at qq3 qq4
     have z1:IntKind.i64.wrap ((k:Int) - 1)=(k:Int) - 1:=IntWalk.i64_in _ (by omega)
     have z2:(1:Int)<=(k:Int):=by omega
     have z3:((k:Int) - 1).toNat=k - 1:=by omega
     have z4:(k:Int) - 1 < ((s.length:Nat):Int):=by omega
     have z5:(0:Int)<=(k:Int) - 1:=by omega
     have z6:(0:Int) < (k:Int):=by omega
     have HY:=hi_ hy
     clear hy
     by_cases b2:y.2=f
     ·have B2:=hi_ b2
      have b2':(y.2==f)=true:=by simpa using b2
      have hfz: ∀j,(w4).frozen? ⟨g4,j,none⟩=false:=fun j=> frozen_of_row _ _ j _ _ (HGb).out
      clear b2
      go_wp2_with fail
      go_quiet (fail)
      clear z1
      go_wp2_with fail
      generalize hWW:World.setCell _ _ _=W7
      have hg7:W7.heap[g4]? =some (.cells (ER.flat ((l4).set (q4+(k - 1)) (((l4).getD (q4+(k - 1)) (0,0)).1,x.2))).toArray 165 (0,0)):=by
       rw [<-hWW]
       exact fe_ (HGb).out (by omega) (by rw [Nat.add_mul]) _
      have hE7a:Ext [] w W7:=by
       rw [<-hWW]
       exact((hEb).drewN _).setCell (.inr (by simp;omega)) _
      have hLy:((l4).getD (q4+(k - 1)) (0,0)).1=y.1:=by
       have h:=congrArg (fun(z:List Rng)=> z.getD (k - 1) (0,0)) (HWb).out
       simp only [bm_ hkl (show k - 1 < k by omega),<-HY.out] at h
       rw [<-h]
       simp only [List.getD,v_]
       rw [if_pos (by omega)]
      rw [hLy] at hg7
      have hw7:win ((l4).set (q4+(k - 1)) (y.1,x.2)) q4 ((s.take k++(f,x.2)::s.drop (k+1)).set (k - 1) (y.1,x.2)).length=(s.take k++(f,x.2)::s.drop (k+1)).set (k - 1) (y.1,x.2):=by
       rw [List.length_set,HNN.out,ev_ _ _ _ _ _ (by omega),(HWb).out]
      have hlen7:((s.take k++(f,x.2)::s.drop (k+1)).set (k - 1) (y.1,x.2)).length=s.length:=by rw [List.length_set,HNN.out]
      have hdel:=de_ g4 q4 c4 _ _ k (k+1) W7 hg7 (by rw [hlen7];omega) (by rw [List.length_set];omega) hw7 (by omega) (by rw [hlen7];omega) (by rw [hlen7];omega)
      rw [hlen7] at hdel
      refine hdel.mono ?_
      clear hdel hw7 hg7 hLy
      rintro e w8 ⟨v8,rfl,how8,hE8,_⟩
      have hfin8:=HFIN.out v8 w8 _ how8 (by rw [gC_ (by omega) hkl,cK_ (by omega) hkl,<-HY.out,if_pos B2.out,HADD.out]) (hE7a.trans' hE8 (by simp) (by simp [blkL];omega))
      clear how8 hE8 hE7a hWW hlen7
      go_wp2
      go_ret
      exact hfin8
     ·have B2:=hi_ b2
      have b2':(y.2==f)=false:=by simpa using b2
      clear b2
      go_wp2_with fail
      go_quiet (fail)
      clear z1
      go_wp2
      go_ret
      exact HFIN.out _ _ _ (HVB.out.ext0 ((Ext.refl _ _).drewN _)) (by rw [cK_ (by omega) hkl,<-HY.out,if_neg B2.out,HADD.out]) (hEb.drewN _)
    ·have hk0:k=0:=by omega
     have b1':decide ((0:Int) < (k:Int))=false:=by simp;omega
     have HK0:=hi_ hk0
     clear hk0
     go_wp2_with fail
     go_quiet (fail)
     go_wp2
     go_ret
     exact HFIN.out _ _ _ (HVB.out.ext0 ((Ext.refl _ _).drewN _)) (by rw [HK0.out,dK_];simp only [List.take_zero,List.getLast?_nil,List.nil_append];rw [<-HK0.out,HADD.out]) (hEb.drewN _)
   ·have hadd:addT (f,t) (s.drop k)=(t,s.drop k):=by rw [HDR.out];simp only [addT];rw [if_neg a2]
    have HADD:=hi_ hadd
    clear hadd
    have a2':(t==x.1)=false:=by simpa using a2
    clear a2
    go_wp2_with fail
    go_quiet (fail)
    clear e2 e3 e4 m1 m2 m3 m4 a2'
    go_wp2_with fail
    generalize hW:wc.drewN nq=W
    have hEb:Ext [] w W:=hW ▸ hE6.drewN _
    have HGb:=hi_ ((hW ▸ (Ext.refl [] _).drewN _:Ext [] wc W).blk HG.out (by simp))
    clear hW
    have hnn:(s.take k++(f,t)::s.drop k).length=s.length+1:=by simp;omega
    have hvB:ER.Ow 165 W (.slice (some ⟨g,q*2,none⟩) (s.length+1) c6) (s.take k++(f,t)::s.drop k):= .inr ⟨g,q,c6,l,by rw [hnn];rfl,(HGb).out,by rw [hnn];omega,by omega,by rw [hnn];exact(HWN2).out⟩
    have hfin: ∀(v7:Value) (w7:World) (xs:List Rng),ER.Ow 165 w7 v7 xs->xs=addR (s.take k) (f,t) (s.drop k)->Ext [] w w7->dL_ w (fun s'=> Ok s'/\(∀c,Mem s' c↔Mem s c\/(f<=c/\c < t))/\cntL s'=cntL s+(t - f)) (.returned v7) w7:=by
     intro v7 w7 xs h1 h2 h3
     subst h2
     exact⟨v7,_,rfl,h1,HOK.out,h3⟩
    have HFIN:=hi_ hfin
    obtain⟨qq1,qq2⟩:=E_ hvB.rd k (by rw [hnn];omega)
    rw [dd_ hkl] at qq1 qq2
    obtain⟨HVB,HNN⟩:=h_2 hvB hnn
    clear hfin hvB hnn
    have u1:(k:Int) < ((s.length+1:Nat):Int):=by omega
    by_cases b1:0 < k
    ·obtain⟨y,hy⟩: ∃y,y=s.getD (k - 1) (0,0):=⟨_,rfl⟩
     obtain⟨qq3,qq4⟩:=E_ HVB.out.rd (k - 1) (by rw [HNN.out];omega)
     rw [bm_ hkl (by omega),<-hy] at qq3 qq4
     have z1:IntKind.i64.wrap ((k:Int) - 1)=(k:Int) - 1:=IntWalk.i64_in _ (by omega)
     have z2:(1:Int)<=(k:Int):=by omega
     have z3:((k:Int) - 1).toNat=k - 1:=by omega
     have z4:(k:Int) - 1 < ((s.length+1:Nat):Int):=by omega
     have z5:(0:Int)<=(k:Int) - 1:=by omega
     have z6:(0:Int) < (k:Int):=by omega
     have HY:=hi_ hy
     clear hy
     by_cases b2:y.2=f
     ·have B2:=hi_ b2
      have b2':(y.2==f)=true:=by simpa using b2
      have hfz: ∀j,(W).frozen? ⟨g,j,none⟩=false:=fun j=> frozen_of_row _ _ j _ _ (HGb).out
      clear b2
      go_wp2_with fail
      go_quiet (fail)
      clear z1
      go_wp2_with fail
      generalize hWW:World.setCell _ _ _=W7
      have hg7:W7.heap[g]? =some (.cells (ER.flat ((l).set (q+(k - 1)) (((l).getD (q+(k - 1)) (0,0)).1,t))).toArray 165 (0,0)):=by
       rw [<-hWW]
       exact fe_ (HGb).out (by omega) (by rw [Nat.add_mul]) _
      have hE7a:Ext [] w W7:=by
       rw [<-hWW]
       exact((hEb).drewN _).setCell (.inr (by simp;omega)) _
      have hLy:((l).getD (q+(k - 1)) (0,0)).1=y.1:=by
       have h:=congrArg (fun(z:List Rng)=> z.getD (k - 1) (0,0)) (HWN2).out
       simp only [bm_ hkl (show k - 1 < k by omega),<-HY.out] at h
       rw [<-h]
       simp only [List.getD,v_]
       rw [if_pos (by omega)]
      rw [hLy] at hg7
      have hw7:win ((l).set (q+(k - 1)) (y.1,t)) q ((s.take k++(f,t)::s.drop k).set (k - 1) (y.1,t)).length=(s.take k++(f,t)::s.drop k).set (k - 1) (y.1,t):=by
       rw [List.length_set,HNN.out,ev_ _ _ _ _ _ (by omega),(HWN2).out]
      have hlen7:((s.take k++(f,t)::s.drop k).set (k - 1) (y.1,t)).length=s.length+1:=by rw [List.length_set,HNN.out]
      have hdel:=de_ g q c6 _ _ k (k+1) W7 hg7 (by rw [hlen7];omega) (by rw [List.length_set];omega) hw7 (by omega) (by rw [hlen7];omega) (by rw [hlen7];omega)
      rw [hlen7] at hdel
      refine hdel.mono ?_
      clear hdel hw7 hg7 hLy
      rintro e w8 ⟨v8,rfl,how8,hE8,_⟩
      have hfin8:=HFIN.out v8 w8 _ how8 (by rw [gC_ (by omega) hkl,cK_ (by omega) hkl,<-HY.out,if_pos B2.out,HADD.out]) (hE7a.trans' hE8 (by simp) (by simp [blkL];omega))
      clear how8 hE8 hE7a hWW hlen7
      go_wp2
      go_ret
      exact hfin8
     ·have B2:=hi_ b2
      have b2':(y.2==f)=false:=by simpa using b2
      clear b2
      go_wp2_with fail
      go_quiet (fail)
      clear z1
      go_wp2
      go_ret
      exact HFIN.out _ _ _ (HVB.out.ext0 ((Ext.refl _ _).drewN _)) (by rw [cK_ (by omega) hkl,<-HY.out,if_neg B2.out,HADD.out]) (hEb.drewN _)
    ·have hk0:k=0:=by omega
     have b1':decide ((0:Int) < (k:Int))=false:=by simp;omega
     have HK0:=hi_ hk0
     clear hk0
     go_wp2_with fail
     go_quiet (fail)
     go_wp2
     go_ret
     exact HFIN.out _ _ _ (HVB.out.ext0 ((Ext.refl _ _).drewN _)) (by rw [HK0.out,dK_];simp only [List.take_zero,List.getLast?_nil,List.nil_append];rw [<-HK0.out,HADD.out]) (hEb.drewN _)
  ·have e5: ¬((k:Int)+1 < (s.length:Int)+1):=by omega
   have e5':decide ((k:Int)+1 < (s.length:Int)+1)=false:=by simpa using e5
   have hks:k=s.length:=by omega
   have HADD:Hid (addT (f,t) (s.drop k)=(t,s.drop k)):=by rw [List.drop_eq_nil_of_le (by omega)];rfl
   clear hks
   go_wp2_with fail
   go_quiet (fail)
   clear e2 e3 e4 e5 e5' hv6
   go_wp2_with fail
   generalize hW:wc.drewN nq=W
   have hEb:Ext [] w W:=hW ▸ hE6.drewN _
   have HGb:=hi_ ((hW ▸ (Ext.refl [] _).drewN _:Ext [] wc W).blk HG.out (by simp))
   clear hW
   have hnn:(s.take k++(f,t)::s.drop k).length=s.length+1:=by simp;omega
   have hvB:ER.Ow 165 W (.slice (some ⟨g,q*2,none⟩) (s.length+1) c6) (s.take k++(f,t)::s.drop k):= .inr ⟨g,q,c6,l,by rw [hnn];rfl,(HGb).out,by rw [hnn];omega,by omega,by rw [hnn];exact(HWN2).out⟩
   have hfin: ∀(v7:Value) (w7:World) (xs:List Rng),ER.Ow 165 w7 v7 xs->xs=addR (s.take k) (f,t) (s.drop k)->Ext [] w w7->dL_ w (fun s'=> Ok s'/\(∀c,Mem s' c↔Mem s c\/(f<=c/\c < t))/\cntL s'=cntL s+(t - f)) (.returned v7) w7:=by
    intro v7 w7 xs h1 h2 h3
    subst h2
    exact⟨v7,_,rfl,h1,HOK.out,h3⟩
   have HFIN:=hi_ hfin
   obtain⟨qq1,qq2⟩:=E_ hvB.rd k (by rw [hnn];omega)
   rw [dd_ hkl] at qq1 qq2
   obtain⟨HVB,HNN⟩:=h_2 hvB hnn
   clear hfin hvB hnn
   have u1:(k:Int) < ((s.length+1:Nat):Int):=by omega
   by_cases b1:0 < k
   ·obtain⟨y,hy⟩: ∃y,y=s.getD (k - 1) (0,0):=⟨_,rfl⟩
    obtain⟨qq3,qq4⟩:=E_ HVB.out.rd (k - 1) (by rw [HNN.out];omega)
    rw [bm_ hkl (by omega),<-hy] at qq3 qq4
    have z1:IntKind.i64.wrap ((k:Int) - 1)=(k:Int) - 1:=IntWalk.i64_in _ (by omega)
    have z2:(1:Int)<=(k:Int):=by omega
    have z3:((k:Int) - 1).toNat=k - 1:=by omega
    have z4:(k:Int) - 1 < ((s.length+1:Nat):Int):=by omega
    have z5:(0:Int)<=(k:Int) - 1:=by omega
    have z6:(0:Int) < (k:Int):=by omega
    have HY:=hi_ hy
    clear hy
    by_cases b2:y.2=f
    ·have B2:=hi_ b2
     have b2':(y.2==f)=true:=by simpa using b2
     have hfz: ∀j,(W).frozen? ⟨g,j,none⟩=false:=fun j=> frozen_of_row _ _ j _ _ (HGb).out
     clear b2
     go_wp2_with fail
     go_quiet (fail)
     clear z1
     go_wp2_with fail
     generalize hWW:World.setCell _ _ _=W7
     have hg7:W7.heap[g]? =some (.cells (ER.flat ((l).set (q+(k - 1)) (((l).getD (q+(k - 1)) (0,0)).1,t))).toArray 165 (0,0)):=by
      rw [<-hWW]
      exact fe_ (HGb).out (by omega) (by rw [Nat.add_mul]) _
     have hE7a:Ext [] w W7:=by
      rw [<-hWW]
      exact((hEb).drewN _).setCell (.inr (by simp;omega)) _
     have hLy:((l).getD (q+(k - 1)) (0,0)).1=y.1:=by
      have h:=congrArg (fun(z:List Rng)=> z.getD (k - 1) (0,0)) (HWN2).out
      simp only [bm_ hkl (show k - 1 < k by omega),<-HY.out] at h
      rw [<-h]
      simp only [List.getD,v_]
      rw [if_pos (by omega)]
     rw [hLy] at hg7
     have hw7:win ((l).set (q+(k - 1)) (y.1,t)) q ((s.take k++(f,t)::s.drop k).set (k - 1) (y.1,t)).length=(s.take k++(f,t)::s.drop k).set (k - 1) (y.1,t):=by
      rw [List.length_set,HNN.out,ev_ _ _ _ _ _ (by omega),(HWN2).out]
     have hlen7:((s.take k++(f,t)::s.drop k).set (k - 1) (y.1,t)).length=s.length+1:=by rw [List.length_set,HNN.out]
     have hdel:=de_ g q c6 _ _ k (k+1) W7 hg7 (by rw [hlen7];omega) (by rw [List.length_set];omega) hw7 (by omega) (by rw [hlen7];omega) (by rw [hlen7];omega)
     rw [hlen7] at hdel
     refine hdel.mono ?_
     clear hdel hw7 hg7 hLy
     rintro e w8 ⟨v8,rfl,how8,hE8,_⟩
     have hfin8:=HFIN.out v8 w8 _ how8 (by rw [gC_ (by omega) hkl,cK_ (by omega) hkl,<-HY.out,if_pos B2.out,HADD.out]) (hE7a.trans' hE8 (by simp) (by simp [blkL];omega))
     clear how8 hE8 hE7a hWW hlen7
     go_wp2
     go_ret
     exact hfin8
    ·have B2:=hi_ b2
     have b2':(y.2==f)=false:=by simpa using b2
     clear b2
     go_wp2_with fail
     go_quiet (fail)
     clear z1
     go_wp2
     go_ret
     exact HFIN.out _ _ _ (HVB.out.ext0 ((Ext.refl _ _).drewN _)) (by rw [cK_ (by omega) hkl,<-HY.out,if_neg B2.out,HADD.out]) (hEb.drewN _)
   ·have hk0:k=0:=by omega
    have b1':decide ((0:Int) < (k:Int))=false:=by simp;omega
    have HK0:=hi_ hk0
    clear hk0
    go_wp2_with fail
    go_quiet (fail)
    go_wp2
    go_ret
    exact HFIN.out _ _ _ (HVB.out.ext0 ((Ext.refl _ _).drewN _)) (by rw [HK0.out,dK_];simp only [List.take_zero,List.getLast?_nil,List.nil_append];rw [<-HK0.out,HADD.out]) (hEb.drewN _)
structure Spc where
 cells:Int
 free:List Rng
 used:List Rng
 leaving:List Rng
 back:Int
def SpR (w:World) (b:Nat) (s:Spc):Prop:= ∃pf nf cf pu nu cu pl nl cl,
 w.heap[b]? =some (.cells #[.int .i64 s.cells,.slice pf nf cf,.slice pu nu cu,.slice pl nl cl,.int .i64 s.back] 168 (0,0))/\
 ER.Ow 165 w (.slice pf nf cf) s.free/\ER.Ow 165 w (.slice pu nu cu) s.used/\ER.Ow 165 w (.slice pl nl cl) s.leaving
structure SpI (s:Spc):Prop where
 c1:1<=s.cells
 c2:s.cells<=40000
 okF:Ok s.free
 okU:Ok s.used
 okL:Ok s.leaving
 all: ∀c,(0<=c/\c < s.cells)↔(Mem s.free c\/Mem s.used c\/Mem s.leaving c)
 fu: ∀c,¬(Mem s.free c/\Mem s.used c)
 fl: ∀c,¬(Mem s.free c/\Mem s.leaving c)
 ul: ∀c,¬(Mem s.used c/\Mem s.leaving c)
 b0:0<=s.back
 b1:s.back<=cntL s.free
theorem SpR.ext0 {s:Spc} (h:SpR w b s) (he:Ext [] w w'):SpR w' b s:=by
 obtain⟨pf,nf,cf,pu,nu,cu,pl,nl,cl,hb,h1,h2,h3⟩:=h
 exact⟨pf,nf,cf,pu,nu,cu,pl,nl,cl,he.blk hb (by simp),h1.ext0 he,h2.ext0 he,h3.ext0 he⟩
theorem SpR.blk {s:Spc} (h:SpR w b s): ∃c,w.heap[b]? =some (.cells c 168 (0,0)):=by
 obtain⟨pf,nf,cf,pu,nu,cu,pl,nl,cl,hb,_⟩:=h;exact⟨_,hb⟩
theorem free_c (b:Nat) (s:Spc) (w:World) (hr:SpR w b s) (hi:SpI s):
  Calls Tryz.prog 58 #[.pointer (some ⟨b,0,none⟩)] w fun e w'=> e= .returned (.int .i64 (cntL s.free - s.back))/\Ext [] w w':=by
 obtain⟨HR,HI⟩:=h_2 hr hi
 obtain⟨pf,nf,cf,pu,nu,cu,pl,nl,cl,hb,h1,h2,h3⟩:=hr
 have m1:w.cell? ⟨b,1,none⟩=some (.slice pf nf cf):=by rw [cell_of_row w b 1 _ _ _ hb];rfl
 have m4:w.cell? ⟨b,4,none⟩=some (.int .i64 s.back):=by rw [cell_of_row w b 4 _ _ _ hb];rfl
 have bd:=HI.out.okF.cnt
 have bd1:=HI.out.b0
 have bd2:=HI.out.b1
 have H1:=hi_ h1
 clear hi hb h1 h2 h3
 have e1:IntKind.i64.wrap (cntL s.free - s.back)=cntL s.free - s.back:=IntWalk.i64_in _ (by omega)
 go_enter Tryz.func58,Tryz.ntmps58
 go_wp2_with fail
 go_region_held3 (fun W=> W.cell? ⟨b,1,none⟩=some (.slice pf nf cf)/\W.cell? ⟨b,4,none⟩=some (.int .i64 s.back)) (first | exact⟨hE1.cell m1 (by simp),hE1.cell m4 (by simp)⟩ | go_keep)
  (first | (go_at_call 87;refine(count_c _ s.free _ (H1.out.rd.ext0 (Ext.refl [] w).drew) HI.out.okF).mono ?_;rintro e w1 ⟨rfl,hE1'⟩;have hE1:Ext [] w w1:=(Ext.refl [] w).drew.trans hE1'))
 go_wp2
 go_ret
 exact⟨rfl,hE1⟩
def inB (s:Spc) (f n:Int):Bool:=decide (1<=n) && decide (n<=s.cells) && decide (0<=f) && decide (f<=s.cells - n)
theorem in_c (b:Nat) (s:Spc) (f n:Int) (w:World) (hr:SpR w b s) (hi:SpI s):
  Calls Tryz.prog 88 #[.pointer (some ⟨b,0,none⟩),.int .i64 f,.int .i64 n] w fun e w'=> e= .returned (.bool (inB s f n))/\w=w':=by
 obtain⟨pf,nf,cf,pu,nu,cu,pl,nl,cl,hb,h1,h2,h3⟩:=hr
 have m0:w.cell? ⟨b,0,none⟩=some (.int .i64 s.cells):=by rw [cell_of_row w b 0 _ _ _ hb];rfl
 have c1:=hi.c1
 have c2:=hi.c2
 clear hb h1 h2 h3 hi
 by_cases g1:1<=n
 ·by_cases g2:n<=s.cells
  ·by_cases g3:0<=f
   ·by_cases g4:f<=s.cells - n
    ·have fin:inB s f n=true:=by simp [inB,g1,g2,g3,g4]
     rw [fin]
     go_enter Tryz.func88,Tryz.ntmps88
     go_wp2
     go_ret
     exact⟨rfl,rfl⟩
    ·have fin:inB s f n=false:=by simp [inB];omega
     have g4':decide (f<=s.cells - n)=false:=by simpa using g4
     rw [fin]
     go_enter Tryz.func88,Tryz.ntmps88
     go_wp2
     go_ret
     exact⟨rfl,rfl⟩
   ·have fin:inB s f n=false:=by simp [inB];omega
    have g3':decide (0<=f)=false:=by simpa using g3
    rw [fin]
    go_enter Tryz.func88,Tryz.ntmps88
    go_wp2
    go_ret
    exact⟨rfl,rfl⟩
  ·have fin:inB s f n=false:=by simp [inB];omega
   have g2':decide (n<=s.cells)=false:=by simpa using g2
   rw [fin]
   go_enter Tryz.func88,Tryz.ntmps88
   go_wp2
   go_ret
   exact⟨rfl,rfl⟩
 ·have fin:inB s f n=false:=by simp [inB];omega
  have g1':decide (1<=n)=false:=by simpa using g1
  rw [fin]
  go_enter Tryz.func88,Tryz.ntmps88
  go_wp2
  go_ret
  exact⟨rfl,rfl⟩
def cG_ (n:Int) (f:Rng):Bool:=decide (n<=f.2 - f.1)
structure Took (s s':Spc) (a n:Int):Prop where
 cells:s'.cells=s.cells
 back:s'.back=s.back
 leaving:s'.leaving=s.leaving
 free: ∀c,Mem s'.free c↔Mem s.free c/\ ¬(a<=c/\c < a+n)
 used: ∀c,Mem s'.used c↔Mem s.used c\/(a<=c/\c < a+n)
 cntF:cntL s'.free=cntL s.free - n
 cntU:cntL s'.used=cntL s.used+n
 at0:0<=a
 at1: ∀c,a<=c/\c < a+n->Mem s.free c
def TakeRel (s:Spc) (n:Int) (s':Spc) (a err:Int):Prop:=
 (n < 1/\s'=s/\a=0/\err=1)\/
 (1<=n/\(cntL s.free - s.back < n\/s.free.find? (cG_ n)=none)/\s'=s/\a=0/\err=5)\/
 (1<=n/\n<=cntL s.free - s.back/\(∃f,s.free.find? (cG_ n)=some f/\a=f.1)/\err=0/\Took s s' a n)
def TakePost (b:Nat) (s:Spc) (n:Int) (w:World) (e:Ending) (w':World):Prop:=
 ∃s' a err,e= .returned (.tuple #[.int .i64 a,.int .i64 err])/\SpR w' b s'/\SpI s'/\Ext [b] w w'/\TakeRel s n s' a err
theorem SpI.took {s s':Spc} {a n:Int} (h:SpI s) (t:Took s s' a n) (okF:Ok s'.free) (okU:Ok s'.used) (hn:n<=cntL s.free - s.back):SpI s':=by
 obtain⟨t1,t2,t3,t4,t5,t6,t7,t8,t9⟩:=t
 refine⟨by rw [t1];exact h.c1,by rw [t1];exact h.c2,okF,okU,by rw [t3];exact h.okL,fun c=> ?_,fun c=> ?_,fun c=> ?_,fun c=> ?_,by rw [t2];exact h.b0,by rw [t2,t6];omega⟩
 ·rw [t1,t3,t4,t5,h.all]
  have:=t9 c
  grind
 ·rw [t4,t5];have:=h.fu c;grind
 ·rw [t4,t3];have:=h.fl c;grind
 ·rw [t5,t3];have:=h.ul c;have:=h.fl c;have:=t9 c;grind
theorem take_c (b:Nat) (s:Spc) (n:Int) (w:World) (hr:SpR w b s) (hi:SpI s) (hn1: -9223372036854775808<=n) (hn2:n<=9223372036854775807):
  Calls Tryz.prog 105 #[.pointer (some ⟨b,0,none⟩),.int .i64 n] w (TakePost b s n w):=by
 obtain⟨HR,HI⟩:=h_2 hr hi
 by_cases g1:n < 1
 ·clear hr hi
  go_enter Tryz.func105,Tryz.ntmps105
  go_wp2
  go_ret2
  exact⟨s,0,1,rfl,HR.out,HI.out,Ext.refl _ _,.inl ⟨g1,rfl,rfl,rfl⟩⟩
 ·by_cases g2:cntL s.free - s.back < n
  ·clear hi
   go_enter Tryz.func105,Tryz.ntmps105
   go_wp2_with fail
   refine(free_c b s _ hr HI.out).mono ?_
   rintro e w1 ⟨rfl,hE⟩
   go_wp2
   go_ret2
   exact⟨s,0,5,rfl,HR.out.ext0 hE,HI.out,hE.nil,.inr (.inl ⟨by omega,.inl g2,rfl,rfl,rfl⟩)⟩
  ·have hlF:=hi.okF.len
   clear hi
   go_enter Tryz.func105,Tryz.ntmps105
   go_wp2_with fail
   refine(free_c b s _ hr HI.out).mono ?_
   rintro e w1 ⟨rfl,hE⟩
   obtain⟨pf,nf,cf,pu,nu,cu,pl,nl,cl,hb,h1,h2,h3⟩:=HR.out.ext0 hE
   have m1:w1.cell? ⟨b,1,none⟩=some (.slice pf nf cf):=by rw [cell_of_row w1 b 1 _ _ _ hb];rfl
   have m2:w1.cell? ⟨b,2,none⟩=some (.slice pu nu cu):=by rw [cell_of_row w1 b 2 _ _ _ hb];rfl
   obtain⟨HB,H1,H2,H3⟩:=h_4 hb h1 h2 h3
   obtain⟨p',c',e1,_⟩:=h1.rd.len_eq
   obtain rfl:nf=s.free.length:=by cases e1;rfl
   clear hb h1 h2 h3 e1 hr
   go_wp2_with fail
   go_loopw [7,8,26] (fun _ _ i wr=> ∃k:Nat,k<=s.free.length/\i= .int .i64 k/\Ext [] w1 wr/\Hid ((s.free.take k).find? (cG_ n)=none)) (fun _ _ i _=> s.free.length - (intOf i).toNat)
   case atStart=> exact⟨0,Nat.zero_le _,rfl,Ext.refl _ _,rfl⟩
   case round=>
    obtain⟨k,hk,rfl,hB,hnone⟩:=hrel
    by_cases hlt:k < s.free.length
    ·obtain⟨g,o,rfl⟩: ∃g o,pf=some ⟨g,o,none⟩:=by
      rcases H1.out.rd with ⟨_,h⟩ | ⟨g,o,c,h,_⟩
      ·rw [h] at hlt;simp at hlt
      ·cases h;exact⟨g,o,rfl⟩
     obtain⟨hm1,hm2⟩:=E_ (H1.out.ext0 hB).rd k hlt
     have hx0:=HI.out.okF.at hlt
     have hgd:s.free[k]? =some (s.free.getD k (0,0)):=by simp [List.getD,hlt]
     obtain⟨x,hx⟩: ∃x,x=s.free.getD k (0,0):=⟨_,rfl⟩
     rw [<-hx] at hm1 hm2 hx0 hgd
     have HGD:=hi_ hgd
     have n1:wr.cell? ⟨b,1,none⟩=some (.slice (some ⟨g,o,none⟩) s.free.length cf):=hB.cell m1 (by simp)
     have n2:wr.cell? ⟨b,2,none⟩=some (.slice pu nu cu):=hB.cell m2 (by simp)
     obtain⟨x1,x2,x3⟩:=hx0
     have hbl:b < wr.heap.size:=hB.lt (g_ HB.out)
     clear hx hgd
     by_cases g3:x.2 - x.1 < n
     ·go_wp2
      go_roundw
      case rel=>
       refine⟨k+1,by omega,by go_num,hB.alloc _, ?_⟩
       show _=none
       rw [List.take_add_one,List.find?_append,hnone.out,HGD.out]
       simp [cG_];omega
      case measure=> simp [intOf];omega
     ·have hxe:s.free.find? (cG_ n)=some x:=by
       rw [<-List.take_append_drop k s.free,List.find?_append,hnone.out,List.drop_eq_getElem_cons hlt]
       have:=HGD.out
       rw [List.getElem?_eq_getElem hlt] at this
       simp only [Option.some.injEq] at this
       rw [this]
       have hf:cG_ n x=true:=by simp [cG_];omega
       simp [hf]
      have HXE:=hi_ hxe
      clear hxe
      go_wp2_with fail
      have hS0:((((wr.alloc (.cells #[.int .i64 x.1,.int .i64 x.2] 165)).alloc (.cells #[.int .i64 x.1,.int .i64 (x.1+n)] 165)).drew.cell? ⟨b,1,none⟩=some (.slice (some ⟨g,o,none⟩) s.free.length cf)/\
       ((wr.alloc (.cells #[.int .i64 x.1,.int .i64 x.2] 165)).alloc (.cells #[.int .i64 x.1,.int .i64 (x.1+n)] 165)).drew.cell? ⟨b,2,none⟩=some (.slice pu nu cu))/\
       ((wr.alloc (.cells #[.int .i64 x.1,.int .i64 x.2] 165)).alloc (.cells #[.int .i64 x.1,.int .i64 (x.1+n)] 165)).drew.cell? ⟨wr.heap.size+1,0,none⟩=some (.int .i64 x.1)/\
       ((wr.alloc (.cells #[.int .i64 x.1,.int .i64 x.2] 165)).alloc (.cells #[.int .i64 x.1,.int .i64 (x.1+n)] 165)).drew.cell? ⟨wr.heap.size+1,1,none⟩=some (.int .i64 (x.1+n))):=by
       go_simp
      refine e_ (fun W=> (W.cell? ⟨b,1,none⟩=some (.slice (some ⟨g,o,none⟩) s.free.length cf)/\W.cell? ⟨b,2,none⟩=some (.slice pu nu cu))/\
       W.cell? ⟨wr.heap.size+1,0,none⟩=some (.int .i64 x.1)/\W.cell? ⟨wr.heap.size+1,1,none⟩=some (.int .i64 (x.1+n))) (fun i=> decide (i < 14) && !(i==1)) (by kernel_rfl) hS0 (fun hS=> ?_)
      refine PUq 1 ?_;(try go_frame)
      refine ta 0 ?_;(try go_frame)
      refine ta 2 ?_;(try go_frame)
      refine ta 3 ?_;(try go_frame)
      refine ta 4 ?_;(try go_frame)
      refine ta 5 ?_;(try go_frame)
      refine ta 6 ?_;(try go_frame)
      refine ta 8 ?_;(try go_frame)
      refine ta 9 ?_;(try go_frame)
      refine ta 10 ?_;(try go_frame)
      refine ta 11 ?_;(try go_frame)
      refine ta 12 ?_;(try go_frame)
      refine a_ (i:=7) (by kernel_rfl) rfl (fun K hK=> ?_)
      (try simp only [Act.put,zA,zB,zC,List.setIfInBounds_toArray,zD,zE]);refine iw rfl ?_
      go_simp
      have hhas:hasB s.free (x.1,x.1+n)=true:=by
       have h1:=List.mem_of_find?_eq_some HXE.out
       have h2:=List.find?_some HXE.out
       simp only [cG_,decide_eq_true_eq] at h2
       simp only [hasB,List.any_eq_true]
       exact⟨x,h1,by simp;omega⟩
      refine(cut_c _ s.free _ _ _ (H1.out.ext0 (hB.alloc _ |>.alloc _ |>.drew)) HI.out.okF x1 (by omega) (by omega) hhas).mono ?_
      rintro e w5 ⟨v5,s5,rfl,how5,hp5,hE5⟩
      have hE5':Ext [] w1 w5:=(hB.alloc _ |>.alloc _ |>.drew).trans hE5
      refine hK.out _ _ (fun _=> ⟨⟨hE5.cell hS.1.1 (by simp),hE5.cell hS.1.2 (by simp)⟩,hE5.cell hS.2.1 (by simp),hE5.cell hS.2.2 (by simp)⟩) (fun hS5=> ?_)
      have hS5':=hS5 rfl
      refine a_ (i:=13) (by kernel_rfl) rfl (fun K hK=> ?_)
      (try simp only [Act.put,zA,zB,zC,List.setIfInBounds_toArray,zD,zE]);refine iw rfl ?_
      go_simp
      have hmeet:ah_ s.used (x.1,x.1+n)=false:=by
       cases hm:ah_ s.used (x.1,x.1+n) with
       | false=> rfl
       | true=>
        obtain⟨c,hc1,hc2,hc3⟩:=(bk_ (by simp;omega) (fun y hy=> (HI.out.okU.2 y hy).2.1)).1 hm
        simp only at hc2 hc3
        exact(HI.out.fu c ⟨⟨x,List.mem_of_find?_eq_some HXE.out,by omega,by omega⟩,hc1⟩).elim
      refine(add_c _ s.used _ _ _ (H2.out.ext0 hE5') HI.out.okU x1 (by omega) (by omega) hmeet).mono ?_
      rintro e w6 ⟨v6,s6,rfl,how6,hp6,hE6⟩
      refine hK.out _ _ (fun _=> ⟨⟨hE6.cell hS5'.1.1 (by simp),hE6.cell hS5'.1.2 (by simp)⟩,hE6.cell hS5'.2.1 (by simp),hE6.cell hS5'.2.2 (by simp)⟩) (fun hS6=> ?_)
      clear hS hS0 hS5 hS5'
      have hS6':=hS6 rfl
      have hE6':Ext [] w1 w6:=hE5'.trans hE6
      have hb6:=hE6'.blk HB.out (by simp)
      have how5':=how5.ext0 hE6
      obtain⟨p5,c5,rfl,_⟩:=how5.rd.len_eq
      obtain⟨p6,c6,rfl,_⟩:=how6.rd.len_eq
      have hfz6: ∀j,w6.frozen? ⟨b,j,none⟩=false:=fun j=> frozen_of_row _ _ _ _ _ hb6
      have n61:=hS6'.1.1
      have n62:=hS6'.1.2
      obtain⟨HB6,HO5,HO6,HP5,HP6⟩:=h_5 hb6 how5' how6 hp5 hp6
      clear hS6 hS6' hb6 how5' how5 how6 hp5 hp6
      refine PUq 14 ?_;(try go_frame)
      refine PUq 15 ?_;(try go_frame)
      refine a_ (i:=16) (by kernel_rfl) rfl (fun K hK=> ?_)
      (try simp only [Act.put,zA,zB,zC,List.setIfInBounds_toArray,zD,zE]);refine iw rfl ?_
      go_simp
      refine nk hK ?_
      refine PUq 17 ?_;(try go_frame)
      refine PUq 18 ?_;(try go_frame)
      refine a_ (i:=19) (by kernel_rfl) rfl (fun K hK=> ?_)
      (try simp only [Act.put,zA,zB,zC,List.setIfInBounds_toArray,zD,zE]);refine iw rfl ?_
      go_simp
      refine nk hK ?_
      refine c_ (by kernel_rfl) ?_ _
      have n67:((w6.setCell ⟨b,1,none⟩ (.slice p5 s5.length c5)).setCell ⟨b,2,none⟩ (.slice p6 s6.length c6)).cell? ⟨wr.heap.size,0,none⟩=some (.int .i64 x.1):=by
       have hn:wr.heap.size≠b:=by omega
       have h0:((wr.alloc (.cells #[.int .i64 x.1,.int .i64 x.2] 165)).alloc (.cells #[.int .i64 x.1,.int .i64 (x.1+n)] 165)).drew.cell? ⟨wr.heap.size,0,none⟩=some (.int .i64 x.1):=by go_simp
       have h1:=(hE5.trans hE6).cell h0 (by simp)
       exact(((Ext.refl [b] w6).setCell (.inl (by simp)) _).setCell (.inl (by simp)) _).cell h1 (by simpa using hn)
      have hW8:Ext [b] w1 ((w6.setCell ⟨b,1,none⟩ (.slice p5 s5.length c5)).setCell ⟨b,2,none⟩ (.slice p6 s6.length c6)):=((hE6'.nil (S:= [b])).setCell (.inl (by simp)) _).setCell (.inl (by simp)) _
      have hW68:Ext [b] w6 ((w6.setCell ⟨b,1,none⟩ (.slice p5 s5.length c5)).setCell ⟨b,2,none⟩ (.slice p6 s6.length c6)):=((Ext.refl [b] w6).setCell (.inl (by simp)) _).setCell (.inl (by simp)) _
      have hb8:=heap_setCell_same _ b 2 _ _ (.slice p6 s6.length c6) (heap_setCell_same _ b 1 _ _ (.slice p5 s5.length c5) HB6.out)
      have HB8:=hi_ hb8
      clear hb8
      revert n67 hW8 hW68 HB8
      generalize World.setCell _ _ _=w8
      intro n67 hW8 hW68 HB8
      go_wp2
      go_ret2
      have hnf: ∀(xs:List Rng) (v:Value),ER.Ow 165 w6 v xs->ER.Ow 165 w8 v xs:=fun xs v h=> h.ext hW68 (by simpa using h.ne HB6.out (by decide))
      have ht:Took s ⟨s.cells,s5,s6,s.leaving,s.back⟩ x.1 n:=by
       obtain⟨_,q2,q3⟩:=HP5.out
       obtain⟨_,q5,q6⟩:=HP6.out
       have hx:=List.mem_of_find?_eq_some HXE.out
       exact⟨rfl,rfl,rfl,q2,q5,by rw [q3];omega,by rw [q6];omega,x1,fun c hc=> ⟨x,hx,by omega,by omega⟩⟩
      refine⟨⟨s.cells,s5,s6,s.leaving,s.back⟩,x.1,0,rfl,⟨_,_,_,_,_,_,_,_,_,HB8.out,hnf _ _ HO5.out,hnf _ _ HO6.out,hnf _ _ (H3.out.ext0 hE6')⟩,HI.out.took ht HP5.out.1 HP6.out.1 g2,hE.nil.trans hW8,.inr (.inr ⟨by omega,g2,⟨x,HXE.out,rfl⟩,rfl,ht⟩)⟩
    ·go_wp2
     go_ret2
     refine⟨s,0,5,rfl,HR.out.ext0 (hE.trans hB),HI.out,(hE.trans hB).nil,.inr (.inl ⟨by omega,.inr ?_,rfl,rfl,rfl⟩)⟩
     have:=hnone.out
     rwa [List.take_of_length_le (by omega)] at this
structure Given (s s':Spc) (a n:Int):Prop where
 cells:s'.cells=s.cells
 back:s'.back=s.back
 free:s'.free=s.free
 used: ∀c,Mem s'.used c↔Mem s.used c/\ ¬(a<=c/\c < a+n)
 leaving: ∀c,Mem s'.leaving c↔Mem s.leaving c\/(a<=c/\c < a+n)
 cntU:cntL s'.used=cntL s.used - n
 cntV:cntL s'.leaving=cntL s.leaving+n
 at1: ∀c,a<=c/\c < a+n->Mem s.used c
theorem SpI.given {s s':Spc} {a n:Int} (h:SpI s) (t:Given s s' a n) (okU:Ok s'.used) (okL:Ok s'.leaving):SpI s':=by
 obtain⟨t1,t2,t3,t4,t5,t6,t7,t8⟩:=t
 refine⟨by rw [t1];exact h.c1,by rw [t1];exact h.c2,by rw [t3];exact h.okF,okU,okL,fun c=> ?_,fun c=> ?_,fun c=> ?_,fun c=> ?_,by rw [t2];exact h.b0,by rw [t2,t3];exact h.b1⟩
 ·rw [t1,t3,t4,t5,h.all]
  have:=t8 c
  grind
 ·rw [t3,t4];have:=h.fu c;grind
 ·rw [t3,t5];have:=h.fl c;have:=h.fu c;have:=t8 c;grind
 ·rw [t4,t5];have:=h.ul c;grind
def fl_ (s:Spc) (f n:Int) (s':Spc) (err:Int):Prop:=
 (inB s f n=false/\s'=s/\err=1)\/
 (inB s f n=true/\hasB s.used (f,f+n)=false/\s'=s/\err=7)\/
 (inB s f n=true/\hasB s.used (f,f+n)=true/\err=0/\Given s s' f n)
def GivePost (b:Nat) (s:Spc) (f n:Int) (w:World) (e:Ending) (w':World):Prop:=
 ∃s' err,e= .returned (.int .i64 err)/\SpR w' b s'/\SpI s'/\Ext [b] w w'/\fl_ s f n s' err
theorem give_c (b:Nat) (s:Spc) (f n:Int) (w:World) (hr:SpR w b s) (hi:SpI s) (hf1: -9223372036854775808<=f) (hf2:f<=9223372036854775807) (hn1: -9223372036854775808<=n) (hn2:n<=9223372036854775807):
  Calls Tryz.prog 59 #[.pointer (some ⟨b,0,none⟩),.int .i64 f,.int .i64 n] w (GivePost b s f n w):=by
 obtain⟨HR,HI⟩:=h_2 hr hi
 by_cases g1:inB s f n=false
 ·clear hi
  go_enter Tryz.func59,Tryz.ntmps59
  go_wp2_with fail
  refine(in_c b s f n _ hr HI.out).mono ?_
  rintro e w1 ⟨rfl,rfl⟩
  go_wp2
  go_ret
  exact⟨s,1,rfl,HR.out,HI.out,Ext.refl _ _,.inl ⟨g1,rfl,rfl⟩⟩
 ·have g1':inB s f n=true:=by simpa using g1
  have G1:=hi_ g1'
  simp only [inB,Bool.and_eq_true,decide_eq_true_eq] at g1'
  obtain⟨⟨⟨x1,x2⟩,x3⟩,x4⟩:=g1'
  have c2:=HI.out.c2
  clear hi g1
  go_enter Tryz.func59,Tryz.ntmps59
  go_wp2_with fail
  refine(in_c b s f n _ hr HI.out).mono ?_
  rintro e w1 ⟨rfl,rfl⟩
  rw [G1.out]
  obtain⟨pf,nf,cf,pu,nu,cu,pl,nl,cl,hb,h1,h2,h3⟩:=hr
  have m2:w.cell? ⟨b,2,none⟩=some (.slice pu nu cu):=by rw [cell_of_row w b 2 _ _ _ hb];rfl
  have m3:w.cell? ⟨b,3,none⟩=some (.slice pl nl cl):=by rw [cell_of_row w b 3 _ _ _ hb];rfl
  have hbl:b < w.heap.size:=g_ hb
  obtain⟨HB,H1,H2,H3⟩:=h_4 hb h1 h2 h3
  clear hb h1 h2 h3
  go_wp2_with fail
  have hE0:Ext [] w (w.alloc (.cells #[.int .i64 f,.int .i64 (f+n)] 165)).drew:=((Ext.refl [] w).alloc _).drew
  have q2:(w.alloc (.cells #[.int .i64 f,.int .i64 (f+n)] 165)).cell? ⟨w.heap.size,0,none⟩=some (.int .i64 f):=by go_simp
  have q3:(w.alloc (.cells #[.int .i64 f,.int .i64 (f+n)] 165)).cell? ⟨w.heap.size,1,none⟩=some (.int .i64 (f+n)):=by go_simp
  by_cases g2:hasB s.used (f,f+n)=false
  ·have G2:=hi_ g2
   clear g2
   go_region_held3 (fun W=> W.cell? ⟨b,2,none⟩=some (.slice pu nu cu)/\W.cell? ⟨w.heap.size,0,none⟩=some (.int .i64 f)/\W.cell? ⟨w.heap.size,1,none⟩=some (.int .i64 (f+n)))
    (first | exact⟨hE1.cell m2 (by simp),hE1'.cell q2 (by simp),hE1'.cell q3 (by simp)⟩ | go_keep)
    (first | (go_at_call 89;refine(has_c _ s.used _ _ _ (H2.out.rd.ext0 hE0) HI.out.okU x3 (by omega) (by omega)).mono ?_;rintro e w1 ⟨rfl,hE1'⟩;have hE1:Ext [] w w1:=hE0.trans hE1'))
   rw [G2.out]
   go_wp2
   go_ret
   exact⟨s,7,rfl,HR.out.ext0 hE1,HI.out,hE1.nil,.inr (.inl ⟨G1.out,G2.out,rfl,rfl⟩)⟩
  ·have g2':hasB s.used (f,f+n)=true:=by simpa using g2
   have G2:=hi_ g2'
   clear g2 g2'
   go_region_held3 (fun W=> W.cell? ⟨b,2,none⟩=some (.slice pu nu cu)/\W.cell? ⟨w.heap.size,0,none⟩=some (.int .i64 f)/\W.cell? ⟨w.heap.size,1,none⟩=some (.int .i64 (f+n)))
    (first | exact⟨hE1.cell m2 (by simp),hE1'.cell q2 (by simp),hE1'.cell q3 (by simp)⟩ | go_keep)
    (first | (go_at_call 89;refine(has_c _ s.used _ _ _ (H2.out.rd.ext0 hE0) HI.out.okU x3 (by omega) (by omega)).mono ?_;rintro e w1 ⟨rfl,hE1'⟩;have hE1:Ext [] w w1:=hE0.trans hE1'))
   rw [G2.out]
   have q2':=hE1'.cell (o:=0) (g:=w.heap.size) q2 (by simp)
   have q3':=hE1'.cell (o:=1) (g:=w.heap.size) q3 (by simp)
   have n2':=hE1.cell m2 (by simp)
   have n3':=hE1.cell m3 (by simp)
   go_wp2_with fail
   have hhas: ∃x∈s.used,x.1<=f/\f+n<=x.2:=by
    have h:=G2.out
    simp only [hasB,List.any_eq_true,Bool.and_eq_true,decide_eq_true_eq] at h
    exact h
   have hmeet:ah_ s.leaving (f,f+n)=false:=by
    cases hm:ah_ s.leaving (f,f+n) with
    | false=> rfl
    | true=>
     obtain⟨c,hc1,hc2,hc3⟩:=(bk_ (by simp;omega) (fun y hy=> (HI.out.okL.2 y hy).2.1)).1 hm
     simp only at hc2 hc3
     obtain⟨x,hx,hx1,hx2⟩:=hhas
     exact(HI.out.ul c ⟨⟨x,hx,by omega,by omega⟩,hc1⟩).elim
   have hD0:Ext [] (w1) (w1).drew:=(Ext.refl [] _).drew
   refine e_ (fun W=> (W.cell? ⟨b,2,none⟩=some (.slice pu nu cu)/\W.cell? ⟨b,3,none⟩=some (.slice pl nl cl))/\W.cell? ⟨w.heap.size,0,none⟩=some (.int .i64 (f))/\W.cell? ⟨w.heap.size,1,none⟩=some (.int .i64 (f+n))) (fun i=> decide (i < 14) && !(i==1)) (by kernel_rfl) ⟨⟨hD0.cell (n2') (by simp),hD0.cell (n3') (by simp)⟩,hD0.cell (q2') (by simp),hD0.cell (q3') (by simp)⟩ (fun hS=> ?_)
   refine PUq 1 ?_;(try go_frame)
   refine ta 0 ?_;(try go_frame)
   refine ta 2 ?_;(try go_frame)
   refine ta 3 ?_;(try go_frame)
   refine ta 4 ?_;(try go_frame)
   refine ta 5 ?_;(try go_frame)
   refine ta 6 ?_;(try go_frame)
   refine ta 8 ?_;(try go_frame)
   refine ta 9 ?_;(try go_frame)
   refine ta 10 ?_;(try go_frame)
   refine ta 11 ?_;(try go_frame)
   refine ta 12 ?_;(try go_frame)
   refine a_ (i:=7) (by kernel_rfl) rfl (fun K hK=> ?_)
   (try simp only [Act.put,zA,zB,zC,List.setIfInBounds_toArray,zD,zE]);refine iw rfl ?_
   go_simp
   have hD1:=(hE1).trans hD0
   refine(cut_c _ s.used _ _ _ (H2.out.ext0 hD1) HI.out.okU x3 (by omega) (by omega) G2.out).mono ?_
   rintro e w5 ⟨v5,s5,rfl,how5,hp5,hE5⟩
   have hE5':=hD1.trans hE5
   refine hK.out _ _ (fun _=> ⟨⟨hE5.cell hS.1.1 (by simp),hE5.cell hS.1.2 (by simp)⟩,hE5.cell hS.2.1 (by simp),hE5.cell hS.2.2 (by simp)⟩) (fun hS5=> ?_)
   have hS5':=hS5 rfl
   refine a_ (i:=13) (by kernel_rfl) rfl (fun K hK=> ?_)
   (try simp only [Act.put,zA,zB,zC,List.setIfInBounds_toArray,zD,zE]);refine iw rfl ?_
   go_simp
   refine(add_c _ s.leaving _ _ _ (H3.out.ext0 hE5') HI.out.okL x3 (by omega) (by omega) hmeet).mono ?_
   rintro e w6 ⟨v6,s6,rfl,how6,hp6,hE6⟩
   refine hK.out _ _ (fun _=> ⟨⟨hE6.cell hS5'.1.1 (by simp),hE6.cell hS5'.1.2 (by simp)⟩,hE6.cell hS5'.2.1 (by simp),hE6.cell hS5'.2.2 (by simp)⟩) (fun hS6=> ?_)
   have hS6':=hS6 rfl
   have hE6':=hE5'.trans hE6
   have hE56:=(hD0.trans hE5).trans hE6
   have hb6:=hE6'.blk (HB).out (by simp)
   have how5':=how5.ext0 hE6
   obtain⟨p5,c5,rfl,_⟩:=how5.rd.len_eq
   obtain⟨p6,c6,rfl,_⟩:=how6.rd.len_eq
   have hfz6: ∀j,w6.frozen? ⟨b,j,none⟩=false:=fun j=> frozen_of_row _ _ _ _ _ hb6
   have n61:=hS6'.1.1
   have n62:=hS6'.1.2
   obtain⟨HB6,HO5,HO6,HP5,HP6⟩:=h_5 hb6 how5' how6 hp5 hp6
   clear hS hS5 hS5' hS6 hS6' hb6 how5' how5 how6 hp5 hp6
   refine PUq 14 ?_;(try go_frame)
   refine PUq 15 ?_;(try go_frame)
   refine a_ (i:=16) (by kernel_rfl) rfl (fun K hK=> ?_)
   (try simp only [Act.put,zA,zB,zC,List.setIfInBounds_toArray,zD,zE]);refine iw rfl ?_
   go_simp
   refine nk hK ?_
   refine PUq 17 ?_;(try go_frame)
   refine PUq 18 ?_;(try go_frame)
   refine a_ (i:=19) (by kernel_rfl) rfl (fun K hK=> ?_)
   (try simp only [Act.put,zA,zB,zC,List.setIfInBounds_toArray,zD,zE]);refine iw rfl ?_
   go_simp
   refine nk hK ?_
   refine c_ (by kernel_rfl) ?_ _
   have hW8:Ext [b] _ ((w6.setCell ⟨b,2,none⟩ (.slice p5 s5.length c5)).setCell ⟨b,3,none⟩ (.slice p6 s6.length c6)):=((hE6'.nil (S:= [b])).setCell (.inl (by simp)) _).setCell (.inl (by simp)) _
   have hW68:Ext [b] w6 ((w6.setCell ⟨b,2,none⟩ (.slice p5 s5.length c5)).setCell ⟨b,3,none⟩ (.slice p6 s6.length c6)):=((Ext.refl [b] w6).setCell (.inl (by simp)) _).setCell (.inl (by simp)) _
   have hb8:=heap_setCell_same _ b 3 _ _ (.slice p6 s6.length c6) (heap_setCell_same _ b 2 _ _ (.slice p5 s5.length c5) HB6.out)
   have HB8:=hi_ hb8
   clear hb8 hfz6 n61 n62
   revert hW8 hW68 HB8
   generalize World.setCell _ _ _=w8
   intro hW8 hW68 HB8
   have hnf: ∀(xs:List Rng) (v:Value),ER.Ow 165 w6 v xs->ER.Ow 165 w8 v xs:=fun xs v h=> h.ext hW68 (by simpa using h.ne HB6.out (by decide))
   have HNF:=hi_ hnf
   clear hnf
   go_wp2
   go_ret
   have ht:Given s ⟨s.cells,s.free,s5,s6,s.back⟩ f n:=by
    obtain⟨_,q2,q3⟩:=HP5.out
    obtain⟨_,q5,q6⟩:=HP6.out
    obtain⟨x,hx,hx1,hx2⟩:=hhas
    exact⟨rfl,rfl,rfl,q2,q5,by rw [q3];omega,by rw [q6];omega,fun c hc=> ⟨x,hx,by omega,by omega⟩⟩
   exact⟨⟨s.cells,s.free,s5,s6,s.back⟩,0,rfl,⟨_,_,_,_,_,_,_,_,_,HB8.out,HNF.out _ _ (H1.out.ext0 hE6'),HNF.out _ _ HO5.out,HNF.out _ _ HO6.out⟩,HI.out.given ht HP5.out.1 HP6.out.1,hW8,.inr (.inr ⟨G1.out,G2.out,rfl,ht⟩)⟩
theorem aX_ {s:List Rng} (h:Ok s):0<=cntL s:=h.cnt.1
theorem fE_ {l:List Rng} (hk:k < l.length):l.take (k+1)=l.take k++ [l.getD k (0,0)]:=by
 have e:l.getD k (0,0)=l[k]:=by simp [List.getD,hk]
 rw [e,List.take_succ_eq_append_getElem hk]
end Go.Proofs.YtkpgjkekmdecbaaGreat
