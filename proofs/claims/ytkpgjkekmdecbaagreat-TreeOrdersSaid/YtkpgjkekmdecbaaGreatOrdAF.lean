/- Lemmas for the claim. No conditions beside those that each states. -/
import Derived.Test.YtkpgjkekmdecbaaGreatOrdAA
set_option maxRecDepth 100000
set_option maxHeartbeats 8000000
set_option linter.all false

namespace Go.Proofs.YtkpgjkekmdecbaaGreat
open Go.RowKit
variable {w:World} {T:TypeId}
def z_ {α:Type} (E:Enc α) (T:TypeId) (v:Value) (zs:List α) (w:World) (e:Ending) (w':World):Prop:=
 ∃v',e= .returned v'/\E.Ow T w' v' zs/\Ext (blkL v) w w'/\Near w v v'
theorem szR:(Tryz.prog.info? 165).map (·.size)=some ER.k:=by kernel_rfl
theorem iv_ (u:Value) (ys:List Rng) (w:World) (hu:ER.Ow 165 w u ys) (hl:ys.length<=1000000):
  Calls Tryz.prog 114 #[.slice none 0 0,.int .i64 0,u] w (z_ ER 165 (.slice none 0 0) ys w):=by
 obtain⟨p,cu,rfl,hcu⟩:=hu.rd.len_eq
 by_cases hy:ys.length=0
 ·obtain rfl:ys= []:=List.eq_nil_of_length_eq_zero hy
  go_enter Tryz.func114,Tryz.ntmps114
  go_wp2
  go_ret
  exact⟨_,rfl,.inl ⟨rfl,rfl⟩,Ext.refl _ _,by simp [Near,blkL]⟩
 ·have hy':0 < ys.length:=by omega
  have HU:=hi_ hu
  clear hu
  go_enter Tryz.func114,Tryz.ntmps114
  go_wp2_with (with_reducible refine f_ (d:=25) ?_)
  refine k_ rfl fun K hK=> b_ (E:=ER) (T:=165) (zero:=(0,0)) (bytes:=16) (v:= .slice none 0 0) (xs:= []) (ys:=ys) tiR Tryz.underlying166 Tryz.underlying62 rfl rfl rfl (.inl ⟨rfl,rfl⟩) HU.out.rd (by simp;omega) (by simp;omega) ?_
  intro v' w' how hext hnear hnn
  refine hK _ _ ?_
  clear hK
  go_wp2
  go_ret
  exact⟨_,rfl,how,hext,hnear⟩
theorem iu_ (g q cap:Nat) (l:List Rng) (u:Value) (xs ys:List Rng) (i:Nat) (w:World) (hg:w.heap[g]? =some (.cells (ER.flat l).toArray 165 (0,0))) (hcap:xs.length<=cap) (hq:q+cap<=l.length) (hxs:win l q xs.length=xs)
  (hu:ER.Ow 165 w u ys) (hne: ∀b∈blkL u,b≠g) (hi:i<=xs.length) (hl:xs.length+ys.length<=1000000):
  Calls Tryz.prog 114 #[.slice (some ⟨g,q*2,none⟩) xs.length cap,.int .i64 i,u] w (z_ ER 165 (.slice (some ⟨g,q*2,none⟩) xs.length cap) (xs.take i++ys++xs.drop i) w):=by
 have hv:ER.Ow 165 w (.slice (some ⟨g,q*2,none⟩) xs.length cap) xs:= .inr ⟨g,q,cap,l,rfl,hg,hcap,hq,hxs⟩
 obtain⟨HV,HU,HG,HX⟩:=h_4 hv hu hg hxs
 obtain⟨p,cu,rfl,hcu⟩:=hu.rd.len_eq
 clear hu hv hg hxs
 by_cases hy:ys.length=0
 ·obtain rfl:ys= []:=List.eq_nil_of_length_eq_zero hy
  by_cases hci:cap=i
  ·subst hci
   go_enter Tryz.func114,Tryz.ntmps114
   go_wp2
   go_ret
   exact⟨_,rfl,by simpa using HV.out,Ext.refl _ _,fun x hx=> .inl hx⟩
  ·go_enter Tryz.func114,Tryz.ntmps114
   go_wp2
   go_ret
   exact⟨_,rfl,by simpa using HV.out,Ext.refl _ _,fun x hx=> .inl hx⟩
 ·have hy':0 < ys.length:=by omega
  by_cases hin:i=xs.length
  ·subst hin
   have fin: ∀(w':World) (v':Value),ER.Ow 165 w' v' (xs++ys)->Ext [g] w w'->Near w (.slice (some ⟨g,q*2,none⟩) xs.length cap) v'->z_ ER 165 (.slice (some ⟨g,q*2,none⟩) xs.length cap) (xs.take xs.length++ys++xs.drop xs.length) w (.returned v') w':=
    fun w' v' h1 h2 h3=> ⟨v',rfl,by simpa using h1,h2,h3⟩
   by_cases hci:cap=xs.length
   ·subst hci
    go_enter Tryz.func114,Tryz.ntmps114
    go_wp2_with (with_reducible refine f_ (d:=25) ?_)
    refine k_ rfl fun K hK=> b_ (E:=ER) (T:=165) (zero:=(0,0)) (bytes:=16) (v:= .slice (some ⟨g,q*2,none⟩) xs.length xs.length) (xs:=xs) (ys:=ys) tiR Tryz.underlying166 Tryz.underlying62 rfl rfl rfl HV.out HU.out.rd (by omega) (by omega) ?_
    intro v' w' how hext hnear hnn
    refine hK _ _ ?_
    clear hK
    go_wp2
    go_ret
    exact fin _ _ how hext hnear
   ·go_enter Tryz.func114,Tryz.ntmps114
    go_wp2_with (with_reducible refine f_ (d:=25) ?_)
    refine k_ rfl fun K hK=> b_ (E:=ER) (T:=165) (zero:=(0,0)) (bytes:=16) (v:= .slice (some ⟨g,q*2,none⟩) xs.length cap) (xs:=xs) (ys:=ys) tiR Tryz.underlying166 Tryz.underlying62 rfl rfl rfl HV.out HU.out.rd (by omega) (by omega) ?_
    intro v' w' how hext hnear hnn
    refine hK _ _ ?_
    clear hK
    go_wp2
    go_ret
    exact fin _ _ how hext hnear
  ·have hin':i < xs.length:=by omega
   have hvi:ER.Ow 165 w (.slice (some ⟨g,q*2,none⟩) i cap) (xs.take i):=by
    have e:(xs.take i).length=i:=by simp;omega
    refine .inr ⟨g,q,cap,l,by rw [e];rfl,HG.out,by omega,hq, ?_⟩
    rw [e,<-HX.out,win,List.take_take,show min i xs.length=i from by omega]
   by_cases hroom:cap < xs.length+ys.length
   ·have HVI:=hi_ hvi
    clear hvi
    have e1:(xs.take i).length=i:=by simp;omega
    go_enter Tryz.func114,Tryz.ntmps114
    go_wp2_with (with_reducible refine f_ (d:=40) ?_)
    refine k_ rfl fun K hK=> L_ (E:=ER) (T:=165) (zero:=(0,0)) (bytes:=16) (v:= .slice (some ⟨g,q*2,none⟩) i cap) (xs:=xs.take i) (n:=xs.length+ys.length - i) tiR Tryz.underlying166 Tryz.underlying3 rfl rfl ?_ HVI.out (by rw [e1];omega) (by rw [e1];omega) ?_
    ·show Value.int _ _=_
     congr 1;omega
    intro v2 w2 how hext hnear hfresh
    obtain⟨hext0,hfr⟩:=hfresh _ cap (by rw [e1]) (by rw [e1];omega)
    have hu2:=HU.out.ext0 hext0
    have hg2:=hext0.blk HG.out (by simp)
    clear hext hnear hfresh HVI
    rcases how with ⟨_,h⟩ | ⟨g2,q2,cap2,l2,rfl,hb2,hc2,hq2,hw2⟩
    ·have:=congrArg List.length h;simp at this;omega
    have hlen:(xs.take i++List.replicate (xs.length+ys.length - i) ((0,0):Rng)).length=xs.length+ys.length:=by simp;omega
    rw [hlen] at hc2 hw2 ⊢
    have hfr2:w.heap.size<=g2:=hfr g2 (by simp [blkL])
    have hg2lt:g < w.heap.size:=g_ HG.out
    obtain⟨HB2,HW2,HU2,HG2⟩:=h_4 hb2 hw2 hu2 hg2
    clear hb2 hw2 hu2 hg2 hfr
    refine hK _ _ ?_
    clear hK
    go_wp2_with (with_reducible refine f_ (d:=45) ?_)
    obtain⟨pu,ou,hpu,hsrc⟩: ∃g' o':Nat,p=some ⟨g',o',none⟩/\ ∀j u,(ER.flat ys)[j]? =some u->w2.cell? ⟨g',o'+j,none⟩=some u:=by
     rcases HU2.out.rd with ⟨_,h⟩ | ⟨g',o',c',h,_,_,h3⟩
     ·subst h;simp at hy'
     ·cases h;exact⟨g',o',rfl,h3⟩
    refine k_ rfl fun K hK=> N_ (E:=ER) (T:=165) (g:=g2) (q:=q2+i) (l:=l2) (ys:=ys) Tryz.underlying166 szR rfl rfl rfl HB2.out (by omega) (fun _=> ⟨by simp [Nat.add_mul],pu,ou,hpu,hsrc⟩) (by omega) ?_
    intro w3 hb3 hext3
    have hg3:=hext3.blk HG2.out (by simp;omega)
    have HB3:=hi_ hb3
    have hsrc2: ∀j u,(ER.flat (xs.drop i))[j]? =some u->w3.cell? ⟨g,q*2+i*2+j,none⟩=some u:=by
     intro j u hj
     rw [ER.flat_drop,<-HX.out,win,ER.flat_take,ER.flat_drop,List.getElem?_drop,List.getElem?_take] at hj
     split at hj
     ·rw [List.getElem?_drop] at hj
      rw [cell_of_row w3 g _ _ _ _ hg3]
      simpa [Nat.add_assoc] using hj
     ·cases hj
    clear hb3 hg3
    refine hK _ _ ?_
    clear hK
    go_wp2_with fail
    have ew:IntKind.i64.wrap ((i:Int)+(ys.length:Int))=(i:Int)+(ys.length:Int):=IntWalk.i64_in _ (by omega)
    have hn1: ¬cap2=i+ys.length:=by omega
    have hn2: ¬cap=i:=by omega
    have hn4:(0:Int)<=(i:Int)+(ys.length:Int):=by omega
    have hn5:((i:Int)+(ys.length:Int)).toNat=i+ys.length:=by omega
    go_region_law ((try simp only [Act.put,zA,zB,zC,List.setIfInBounds_toArray,zD,zE]);refine iw rfl ?_;refine(N_ (s:= .tmp 50) (x:= .tmp 53) (dT:=166) (sT:=166) (E:=ER) (T:=165) (g:=g2) (q:=q2+i+ys.length) (l:=splice l2 (q2+i) ys) (ys:=xs.drop i) Tryz.underlying166 szR (by rfl) (by rfl) (by rfl) (by exact HB3.out) (by simp;omega) (by exact fun _=> ⟨by simp [Nat.add_mul,Nat.add_assoc],g,q*2+i*2,rfl,hsrc2⟩) (by rw [length_splice _ _ _ (by omega)];simp;omega) ?_);intro w4 hb4 hext4)
    have hE3:Ext [] w w3:=hext0.trans' hext3 (by simp) (by simp;omega)
    have hE:Ext [] w w4:=hE3.drew.trans' hext4 (by simp) (by simp;omega)
    have hL1:(splice l2 (q2+i) ys).length=l2.length:=length_splice _ _ _ (by omega)
    have hL2:(splice (splice l2 (q2+i) ys) (q2+i+ys.length) (xs.drop i)).length=l2.length:=by rw [length_splice _ _ _ (by rw [hL1];simp;omega),hL1]
    have fin:z_ ER 165 (.slice (some ⟨g,q*2,none⟩) xs.length cap) (xs.take i++ys++xs.drop i) w (.returned (.slice (some ⟨g2,q2*2,none⟩) (xs.length+ys.length) cap2)) w4:=by
     have e3:(xs.take i++ys++xs.drop i).length=xs.length+ys.length:=by simp;omega
     refine⟨_,rfl,.inr ⟨g2,q2,cap2,_,by rw [e3];rfl,hb4,by rw [e3];exact hc2,by rw [hL2];exact hq2, ?_⟩,hE.nil,fun x hx=> .inr (by simp [blkL] at hx;omega)⟩
     rw [e3]
     show win _ _ _=_
     rw [Nat.add_assoc,I_ _ _ _ _ _ (by simp;omega) (by rw [length_splice _ _ _ (by omega)];omega),I_ _ _ _ _ _ (by omega) (by omega),win,HW2.out]
     exact bD_ _ _ _ _ _ e1 (by simp;omega)
    clear hb4 hext4 hext3 hE
    go_wp2
    go_ret
    exact fin
   ·clear hvi
    have hu:=HU.out
    rcases hu with ⟨h,_⟩ | ⟨gu,qu,cu',lu,h,hbu,hcu1,hqu,hwu⟩
    ·simp at h;omega
    cases h
    have hgu:gu≠g:=hne gu (by simp [blkL])
    have hov:=fun W (h1:W.heap[gu]? =some (.cells (ER.flat lu).toArray 165 (0,0))) (h2:W.heap[g]? =some (.cells (ER.flat l).toArray 165 (0,0))) (o1 o2 la ca lb cb:Nat)=>
     cV_ W ⟨gu,o1,none⟩ ⟨g,o2,none⟩ la ca lb cb hgu _ _ _ _ h1 h2 (by simp [Enc.length_flat];omega)
    have hov':=hov w hbu HG.out
    have HBU:=hi_ hbu
    clear hov hbu hwu
    go_enter Tryz.func114,Tryz.ntmps114
    go_wp2_with fail
    have hsrc2: ∀j u,(ER.flat (xs.drop i))[j]? =some u->w.cell? ⟨g,q*2+i*2+j,none⟩=some u:=by
     intro j u hj
     rw [ER.flat_drop,<-HX.out,win,ER.flat_take,ER.flat_drop,List.getElem?_drop,List.getElem?_take] at hj
     split at hj
     ·rw [List.getElem?_drop] at hj
      rw [cell_of_row w g _ _ _ _ HG.out]
      simpa [Nat.add_assoc] using hj
     ·cases hj
    have ew:IntKind.i64.wrap ((i:Int)+(ys.length:Int))=(i:Int)+(ys.length:Int):=IntWalk.i64_in _ (by omega)
    have hn1: ¬cap=i+ys.length:=by omega
    have hn2: ¬cap=i:=by omega
    have hn4:(0:Int)<=(i:Int)+(ys.length:Int):=by omega
    have hn5:((i:Int)+(ys.length:Int)).toNat=i+ys.length:=by omega
    have hn6:(i:Int)<=(xs.length:Int)+ys.length:=by omega
    go_region_law ((try simp only [Act.put,zA,zB,zC,List.setIfInBounds_toArray,zD,zE]);refine iw rfl ?_;refine(N_ (s:= .tmp 73) (x:= .tmp 76) (dT:=166) (sT:=166) (E:=ER) (T:=165) (g:=g) (q:=q+(i+ys.length)) (l:=l) (ys:=xs.drop i) Tryz.underlying166 szR (by rfl) (by rfl) (by rfl) (by exact HG.out) (by simp;omega) (by exact fun _=> ⟨by simp [Nat.add_mul],g,q*2+i*2,rfl,hsrc2⟩) (by simp;omega) ?_);intro w3 hb3 hext3)
    have hL1:(splice l (q+(i+ys.length)) (xs.drop i)).length=l.length:=length_splice _ _ _ (by simp;omega)
    have hE3:Ext [g] w w3:=(Ext.refl [g] w).drew.trans hext3
    have HB3:=hi_ hb3
    have hu3:=HU.out.ext hE3 (by simpa [blkL] using hgu)
    clear hb3 ew hn1 hn4 hn5 hn6 hov' hext3
    go_wp2_with (with_reducible refine f_ (d:=82) ?_)
    rcases hu3.rd with ⟨h,_⟩ | ⟨g',o',c',h,_,_,h3⟩
    ·cases h
    refine k_ rfl fun K hK=> N_ (s:= .tmp 80) (x:= .tmp 81) (dT:=166) (sT:=62) (E:=ER) (T:=165) (g:=g) (q:=q+i) (l:=splice l (q+(i+ys.length)) (xs.drop i)) (ys:=ys) Tryz.underlying166 szR rfl rfl rfl HB3.out (by omega) (fun _=> ⟨by simp [Nat.add_mul],g',o',by simpa using (Value.slice.inj h).1,h3⟩) (by omega) ?_
    intro w4 hb4 hext4
    refine hK _ _ ?_
    clear hK h3 hu3
    have hE:Ext [g] w w4:=hE3.trans hext4
    have hL2:(splice (splice l (q+(i+ys.length)) (xs.drop i)) (q+i) ys).length=l.length:=by rw [length_splice _ _ _ (by rw [hL1];omega),hL1]
    have fin:z_ ER 165 (.slice (some ⟨g,q*2,none⟩) xs.length cap) (xs.take i++ys++xs.drop i) w (.returned (.slice (some ⟨g,q*2,none⟩) (xs.length+ys.length) cap)) w4:=by
     have e3:(xs.take i++ys++xs.drop i).length=xs.length+ys.length:=by simp;omega
     refine⟨_,rfl,.inr ⟨g,q,cap,_,by rw [e3];rfl,hb4,by rw [e3];omega,by rw [hL2];exact hq, ?_⟩,hE,fun x hx=> .inl hx⟩
     rw [e3]
     show win _ _ _=_
     rw [I_ _ _ _ _ _ (by omega) (by omega),I_ _ _ _ _ _ (by simp;omega) (by omega)]
     have e4:win l q (xs.length+ys.length)=xs++win l (q+xs.length) ys.length:=by
      apply List.ext_getElem?
      intro j
      have hx:=congrArg (fun(z:List Rng)=> z[j]?) HX.out
      simp only [v_] at hx
      simp only [v_,List.getElem?_append]
      (repeat' split) <;> first | (exfalso;omega) | (rw [<-hx,if_pos (by omega)]) | (congr 1 <;> omega)
     rw [e4]
     exact cR_ _ _ _ _ hi (cE_ _ _ _ (by omega))
    clear hb4 hext4 hE3 hE
    go_wp2
    go_ret
    exact fin
theorem insert_c (v u:Value) (xs ys:List Rng) (i:Nat) (w:World) (hv:ER.Ow 165 w v xs)
  (hu:ER.Ow 165 w u ys) (hne: ∀b∈blkL u,b∉blkL v) (hi:i<=xs.length) (hl:xs.length+ys.length<=1000000):
  Calls Tryz.prog 114 #[v,.int .i64 i,u] w (z_ ER 165 v (xs.take i++ys++xs.drop i) w):=by
 rcases hv with ⟨rfl,rfl⟩ | ⟨g,q,cap,l,rfl,hg,h1,h2,h3⟩
 ·obtain rfl:i=0:=by simpa using hi
  simpa using iv_ u ys w hu (by omega)
 ·exact iu_ g q cap l u xs ys i w hg h1 h2 h3 hu (by simpa [blkL] using hne) hi hl
theorem da_ {g q:Nat} {l xs:List Rng} {fr:Nat×Nat} (hg:w.heap[g]? =some (.cells (ER.flat l).toArray T fr)) (hx:win l q xs.length=xs) (i:Nat):
  ∀j u,(ER.flat (xs.drop i))[j]? =some u->w.cell? ⟨g,q*2+i*2+j,none⟩=some u:=by
 intro j u hj
 rw [ER.flat_drop,<-hx,win,ER.flat_take,ER.flat_drop,List.getElem?_drop,List.getElem?_take] at hj
 split at hj
 ·rw [List.getElem?_drop] at hj
  rw [cell_of_row w g _ _ _ _ hg]
  simpa [Nat.add_assoc] using hj
 ·cases hj
theorem gG_ (g q cap:Nat) (l:List Rng) (u:Value) (xs ys:List Rng) (i j:Nat) (w:World) (hg:w.heap[g]? =some (.cells (ER.flat l).toArray 165 (0,0))) (hcap:xs.length<=cap) (hq:q+cap<=l.length) (hxs:win l q xs.length=xs)
  (hu:ER.Ow 165 w u ys) (hne: ∀b∈blkL u,b≠g) (hij:i < j) (hj:j<=xs.length) (hl:xs.length+ys.length<=1000000) (hjn:j=xs.length):
  Calls Tryz.prog 113 #[.slice (some ⟨g,q*2,none⟩) xs.length cap,.int .i64 i,.int .i64 j,u] w (z_ ER 165 (.slice (some ⟨g,q*2,none⟩) xs.length cap) (xs.take i++ys++xs.drop j) w):=by
 have hv:ER.Ow 165 w (.slice (some ⟨g,q*2,none⟩) xs.length cap) xs:= .inr ⟨g,q,cap,l,rfl,hg,hcap,hq,hxs⟩
 obtain⟨HV,HU,HG,HX⟩:=h_4 hv hu hg hxs
 obtain⟨p,cu,rfl,hcu⟩:=hu.rd.len_eq
 have hvi:ER.Ow 165 w (.slice (some ⟨g,q*2,none⟩) i cap) (xs.take i):=by
  have e:(xs.take i).length=i:=by simp;omega
  refine .inr ⟨g,q,cap,l,by rw [e];rfl,HG.out,by omega,hq, ?_⟩
  rw [e,<-HX.out,win,List.take_take,show min i xs.length=i from by omega]
 have HVI:=hi_ hvi
 clear hu hv hg hxs hvi
 have e1:(xs.take i).length=i:=by simp;omega
 subst hjn
 have hci: ¬cap=i:=by omega
 by_cases hsh:i+ys.length < xs.length
 ·go_enter Tryz.func113,Tryz.ntmps113
  go_wp2_with (with_reducible refine f_ (d:=34) ?_)
  refine k_ rfl fun K hK=> H_ (E:=ER) (T:=165) (zero:=(0,0)) (bytes:=16) (g:=g) (q:=q) (n:=i) (l:=l) (ys:=ys) tiR Tryz.underlying166 Tryz.underlying62 rfl rfl rfl HG.out HU.out.rd (by omega) hq ?_
  intro w2 hb2 hext2
  have HB2:=hi_ hb2
  clear hb2
  refine hK _ _ ?_
  clear hK
  have hn3: ¬cap=i+ys.length:=by omega
  go_wp2_with (with_reducible refine P_ ?_)
  refine k_ rfl fun K hK=> Z_ (E:=ER) (T:=165) (zero:=(0,0)) (bytes:=16) (g:=g) (q:=q+(i+ys.length)) (l:=splice l (q+i) ys) tiR Tryz.underlying166 rfl rfl HB2.out (fun _=> by simp [Nat.add_mul]) (by rw [length_splice _ _ _ (by omega)];omega) ?_
  intro w3 hb3 hext3
  refine hK _ _ ?_
  clear hK
  have fin:z_ ER 165 (.slice (some ⟨g,q*2,none⟩) xs.length cap) (xs.take i++ys++xs.drop xs.length) w (.returned (.slice (some ⟨g,q*2,none⟩) (i+ys.length) cap)) w3:=by
   have e3:(xs.take i++ys++xs.drop xs.length).length=i+ys.length:=by simp;omega
   have hL1:(splice l (q+i) ys).length=l.length:=length_splice _ _ _ (by omega)
   refine⟨_,rfl,.inr ⟨g,q,cap,_,by rw [e3];rfl,hb3,by rw [e3];omega,by rw [length_splice _ _ _ (by rw [hL1];simp;omega),hL1];exact hq, ?_⟩,hext2.trans hext3,fun x hx=> .inl hx⟩
   rw [e3]
   show win _ _ _=_
   apply List.ext_getElem?
   intro k
   have hx:=congrArg (fun(z:List Rng)=> z[k]?) HX.out
   simp only [v_] at hx
   rw [v_,m_ _ _ _ _ (by rw [hL1];omega),m_ _ _ _ _ (by omega)]
   simp only [List.drop_length,List.append_nil,List.getElem?_append,e1,List.getElem?_take]
   (repeat' split) <;> first | rfl | (exfalso;omega) | (rw [<-hx,if_pos (by omega)]) | (congr 1 <;> omega) | (rw [List.getElem?_eq_none (by omega)])
  clear hext2 hext3 hb3
  go_wp2
  go_ret
  exact fin
 ·go_enter Tryz.func113,Tryz.ntmps113
  go_wp2_with (with_reducible refine f_ (d:=34) ?_)
  refine k_ rfl fun K hK=> b_ (E:=ER) (T:=165) (zero:=(0,0)) (bytes:=16) (v:= .slice (some ⟨g,q*2,none⟩) i cap) (xs:=xs.take i) (ys:=ys) tiR Tryz.underlying166 Tryz.underlying62 rfl rfl rfl HVI.out HU.out.rd (by rw [e1];omega) (by rw [e1];omega) ?_
  intro v2 w2 how hext hnear hnn
  obtain⟨p2,c2,hv2,hc2⟩:=how.rd.len_eq
  have elen:(xs.take i++ys).length=i+ys.length:=by simp;omega
  rw [elen] at hv2 hc2
  subst hv2
  have fin:z_ ER 165 (.slice (some ⟨g,q*2,none⟩) xs.length cap) (xs.take i++ys++xs.drop xs.length) w (.returned (.slice p2 (i+ys.length) c2)) w2:=
   ⟨_,rfl,by simpa using how,hext,hnear⟩
  clear how hnn hext hnear
  refine hK _ _ ?_
  clear hK
  go_wp2
  go_ret
  exact fin
theorem fK_ (g q cap:Nat) (l:List Rng) (u:Value) (xs ys:List Rng) (i j:Nat) (w:World) (hg:w.heap[g]? =some (.cells (ER.flat l).toArray 165 (0,0))) (hcap:xs.length<=cap) (hq:q+cap<=l.length) (hxs:win l q xs.length=xs)
  (hu:ER.Ow 165 w u ys) (hne: ∀b∈blkL u,b≠g) (hij:i < j) (hj:j<=xs.length) (hl:xs.length+ys.length<=1000000) (hjn:j≠xs.length) (hroom:cap < i+ys.length+(xs.length - j)):
  Calls Tryz.prog 113 #[.slice (some ⟨g,q*2,none⟩) xs.length cap,.int .i64 i,.int .i64 j,u] w (z_ ER 165 (.slice (some ⟨g,q*2,none⟩) xs.length cap) (xs.take i++ys++xs.drop j) w):=by
 have hv:ER.Ow 165 w (.slice (some ⟨g,q*2,none⟩) xs.length cap) xs:= .inr ⟨g,q,cap,l,rfl,hg,hcap,hq,hxs⟩
 obtain⟨HV,HU,HG,HX⟩:=h_4 hv hu hg hxs
 obtain⟨p,cu,rfl,hcu⟩:=hu.rd.len_eq
 have hvi:ER.Ow 165 w (.slice (some ⟨g,q*2,none⟩) i cap) (xs.take i):=by
  have e:(xs.take i).length=i:=by simp;omega
  refine .inr ⟨g,q,cap,l,by rw [e];rfl,HG.out,by omega,hq, ?_⟩
  rw [e,<-HX.out,win,List.take_take,show min i xs.length=i from by omega]
 have HVI:=hi_ hvi
 clear hu hv hg hxs hvi
 have e1:(xs.take i).length=i:=by simp;omega
 have hjn':j < xs.length:=by omega
 have ew1:IntKind.i64.wrap ((i:Int)+(ys.length:Int))=(i:Int)+(ys.length:Int):=IntWalk.i64_in _ (by omega)
 have ew2:IntKind.i64.wrap ((i:Int)+(ys.length:Int)+((xs.length - j:Nat):Int))=(i:Int)+(ys.length:Int)+((xs.length - j:Nat):Int):=IntWalk.i64_in _ (by omega)
 have hn1: ¬cap=j:=by omega
 have hn2: ¬cap=i:=by omega
 have ekk:(xs.drop j).length=xs.length - j:=by simp
 have e3:(xs.take i++ys++xs.drop j).length=i+ys.length+(xs.length - j):=by simp;omega
 go_enter Tryz.func113,Tryz.ntmps113
 go_wp2_with (with_reducible refine f_ (d:=67) ?_)
 go_quiet (fail)
 go_wp2_with (with_reducible refine f_ (d:=67) ?_)
 generalize hW:w.drewN nq=W
 have hE0:Ext [] w W:=hW ▸ (Ext.refl _ _).drewN _
 clear hW
 refine k_ rfl fun K hK=> L_ (E:=ER) (T:=165) (zero:=(0,0)) (bytes:=16) (v:= .slice (some ⟨g,q*2,none⟩) i cap) (xs:=xs.take i) (n:=i+ys.length+(xs.length - j) - i) tiR Tryz.underlying166 Tryz.underlying3 rfl rfl ?_ (HVI.out.ext0 hE0) (by rw [e1];omega) (by rw [e1];omega) ?_
 ·show Value.int _ _=_
  congr 1;omega
 intro v2 w2 how hext hnear hfresh
 obtain⟨hext0,hfr⟩:=hfresh _ cap (by rw [e1]) (by rw [e1];omega)
 have hE2:Ext [] w w2:=hE0.trans hext0
 have hu2:=HU.out.ext0 hE2
 have hg2:=hE2.blk HG.out (by simp)
 clear hext hnear hfresh HVI
 rcases how with ⟨_,h⟩ | ⟨g2,q2,cap2,l2,rfl,hb2,hc2,hq2,hw2⟩
 ·have:=congrArg List.length h;simp at this;omega
 have hlen:(xs.take i++List.replicate (i+ys.length+(xs.length - j) - i) ((0,0):Rng)).length=i+ys.length+(xs.length - j):=by simp;omega
 rw [hlen] at hc2 hw2 ⊢
 have hfr2:W.heap.size<=g2:=hfr g2 (by simp [blkL])
 have hfr3:w.heap.size<=g2:=Nat.le_trans hE0.size hfr2
 have hg2lt:g < w.heap.size:=g_ HG.out
 obtain⟨HB2,HW2,HU2,HG2⟩:=h_4 hb2 hw2 hu2 hg2
 clear hb2 hw2 hu2 hg2 hfr
 refine hK _ _ ?_
 clear hK
 go_wp2_with (with_reducible refine f_ (d:=72) ?_)
 refine k_ rfl fun K hK=> N_ (E:=ER) (T:=165) (g:=g2) (q:=q2+i) (l:=l2) (ys:=ys) Tryz.underlying166 szR rfl rfl rfl HB2.out (by omega) ?_ (by omega) ?_
 ·intro hpos
  rcases HU2.out.rd with ⟨_,h⟩ | ⟨g',o',c',h,_,_,h3⟩
  ·subst h;simp at hpos
  ·cases h;exact⟨by simp [Nat.add_mul],g',o',rfl,h3⟩
 intro w3 hb3 hext3
 have hg3:=hext3.blk HG2.out (by simp;omega)
 have HB3:=hi_ hb3
 have hsrc2:=da_ hg3 HX.out j
 clear hb3 hg3
 refine hK _ _ ?_
 clear hK
 go_wp2_with fail
 have hn3: ¬cap2=i+ys.length:=by omega
 have hn4:(0:Int)<=(i:Int)+(ys.length:Int):=by omega
 have hn5:((i:Int)+(ys.length:Int)).toNat=i+ys.length:=by omega
 have hn6:(i:Int)+(ys.length:Int)<=(i:Int)+(ys.length:Int)+((xs.length - j:Nat):Int):=by omega
 have hn7:i+ys.length<=i+ys.length+(xs.length - j):=by omega
 go_region_law ((try simp only [Act.put,zA,zB,zC,List.setIfInBounds_toArray,zD,zE]);refine iw rfl ?_;refine(N_ (s:= .tmp 78) (x:= .tmp 81) (dT:=166) (sT:=166) (E:=ER) (T:=165) (g:=g2) (q:=q2+(i+ys.length)) (l:=splice l2 (q2+i) ys) (ys:=xs.drop j) Tryz.underlying166 szR (by rfl) (by rfl) (by rfl) (by exact HB3.out) (by simp <;> omega) (by exact fun _=> ⟨by simp [Nat.add_mul],g,q*2+j*2,rfl,hsrc2⟩) (by rw [length_splice _ _ _ (by omega)];simp;omega) ?_);intro w4 hb4 hext4)
 have hE3:Ext [] w w3:=hE2.trans' hext3 (by simp) (by simp;omega)
 have hE:Ext [] w w4:=hE3.drew.trans' hext4 (by simp) (by simp;omega)
 have hL1:(splice l2 (q2+i) ys).length=l2.length:=length_splice _ _ _ (by omega)
 have hL2:(splice (splice l2 (q2+i) ys) (q2+(i+ys.length)) (xs.drop j)).length=l2.length:=by rw [length_splice _ _ _ (by rw [hL1];simp;omega),hL1]
 have fin:z_ ER 165 (.slice (some ⟨g,q*2,none⟩) xs.length cap) (xs.take i++ys++xs.drop j) w (.returned (.slice (some ⟨g2,q2*2,none⟩) (i+ys.length+(xs.length - j)) cap2)) w4:=by
  refine⟨_,rfl,.inr ⟨g2,q2,cap2,_,by rw [e3];rfl,hb4,by rw [e3];exact hc2,by rw [hL2];exact hq2, ?_⟩,hE.nil,fun x hx=> .inr (by simp [blkL] at hx;omega)⟩
  rw [e3]
  show win _ _ _=_
  rw [I_ _ _ _ _ _ (by rw [ekk];omega) (by rw [hL1];omega),I_ _ _ _ _ _ (by omega) (by omega),win,HW2.out]
  exact bD_ _ _ _ _ _ e1 (by simp;omega)
 clear hb4 hext4 hext3 hE hE3 hE2
 go_wp2
 go_ret
 exact fin
theorem gF_ (g q cap:Nat) (l:List Rng) (u:Value) (xs ys:List Rng) (i j:Nat) (w:World) (hg:w.heap[g]? =some (.cells (ER.flat l).toArray 165 (0,0))) (hcap:xs.length<=cap) (hq:q+cap<=l.length) (hxs:win l q xs.length=xs)
  (hu:ER.Ow 165 w u ys) (hne: ∀b∈blkL u,b≠g) (hij:i < j) (hj:j<=xs.length) (hl:xs.length+ys.length<=1000000) (hjn:j≠xs.length) (hroom: ¬cap < i+ys.length+(xs.length - j)) (hfit:i+ys.length<=j):
  Calls Tryz.prog 113 #[.slice (some ⟨g,q*2,none⟩) xs.length cap,.int .i64 i,.int .i64 j,u] w (z_ ER 165 (.slice (some ⟨g,q*2,none⟩) xs.length cap) (xs.take i++ys++xs.drop j) w):=by
 have hv:ER.Ow 165 w (.slice (some ⟨g,q*2,none⟩) xs.length cap) xs:= .inr ⟨g,q,cap,l,rfl,hg,hcap,hq,hxs⟩
 obtain⟨HV,HU,HG,HX⟩:=h_4 hv hu hg hxs
 obtain⟨p,cu,rfl,hcu⟩:=hu.rd.len_eq
 have hvi:ER.Ow 165 w (.slice (some ⟨g,q*2,none⟩) i cap) (xs.take i):=by
  have e:(xs.take i).length=i:=by simp;omega
  refine .inr ⟨g,q,cap,l,by rw [e];rfl,HG.out,by omega,hq, ?_⟩
  rw [e,<-HX.out,win,List.take_take,show min i xs.length=i from by omega]
 have HVI:=hi_ hvi
 clear hu hv hg hxs hvi
 have e1:(xs.take i).length=i:=by simp;omega
 have hjn':j < xs.length:=by omega
 have ew1:IntKind.i64.wrap ((i:Int)+(ys.length:Int))=(i:Int)+(ys.length:Int):=IntWalk.i64_in _ (by omega)
 have ew2:IntKind.i64.wrap ((i:Int)+(ys.length:Int)+((xs.length - j:Nat):Int))=(i:Int)+(ys.length:Int)+((xs.length - j:Nat):Int):=IntWalk.i64_in _ (by omega)
 have hn1: ¬cap=j:=by omega
 have hn2: ¬cap=i:=by omega
 have ekk:(xs.drop j).length=xs.length - j:=by simp
 have e3:(xs.take i++ys++xs.drop j).length=i+ys.length+(xs.length - j):=by simp;omega
 have hL1:(splice l (q+i) ys).length=l.length:=length_splice _ _ _ (by omega)
 have hn3: ¬cap=i+ys.length:=by omega
 have hn4:(0:Int)<=(i:Int)+(ys.length:Int):=by omega
 have hn5:((i:Int)+(ys.length:Int)).toNat=i+ys.length:=by omega
 have hn6:(i:Int)+(ys.length:Int)<=(i:Int)+(ys.length:Int)+((xs.length - j:Nat):Int):=by omega
 have hjz:(j:Int)<=xs.length:=by omega
 have hnj: ¬xs.length - j=0:=by omega
 have hu:=HU.out
 have hct:cap=i+ys.length+(xs.length - j)\/ ¬cap=i+ys.length+(xs.length - j):=by omega
 rcases hct with rfl | hct
 all_goals
  go_enter Tryz.func113,Tryz.ntmps113
  go_wp2_with (with_reducible refine f_ (d:=97) ?_)
  go_quiet (fail)
  go_wp2_with (with_reducible refine f_ (d:=97) ?_)
  generalize hW:w.drewN nq=W
  have hE0:Ext [] w W:=hW ▸ (Ext.refl _ _).drewN _
  clear hW hu
  refine k_ rfl fun K hK=> N_ (E:=ER) (T:=165) (g:=g) (q:=q+i) (l:=l) (ys:=ys) Tryz.underlying166 szR rfl rfl rfl (hE0.blk HG.out (by simp)) (by omega) ?_ (by omega) ?_
  ·intro hpos
   rcases(HU.out.ext0 hE0).rd with ⟨_,h⟩ | ⟨g',o',c',h,_,_,h3⟩
   ·subst h;simp at hpos
   ·cases h;exact⟨by simp [Nat.add_mul],g',o',rfl,h3⟩
  intro w3 hb3 hext3
  have hE3:Ext [g] w w3:=hE0.nil.trans hext3
  have HB3:=hi_ hb3
  have hsrc2: ∀k u,(ER.flat (xs.drop j))[k]? =some u->w3.cell? ⟨g,q*2+j*2+k,none⟩=some u:=by
   have hw:win (splice l (q+i) ys) q (splice xs i ys).length=splice xs i ys:=by
    rw [length_splice _ _ _ (by omega),I_ _ _ _ _ _ (by omega) (by omega),HX.out]
   have ht:(splice xs i ys).drop j=xs.drop j:=by
    apply List.ext_getElem?
    intro k
    rw [List.getElem?_drop,List.getElem?_drop,m_ _ _ _ _ (by omega),if_neg (by omega),if_neg (by omega)]
   have h:=da_ hb3 hw j
   rwa [ht] at h
  clear hb3 hext3
  refine hK _ _ ?_
  clear hK
  go_wp2_with fail
  go_region_law ((try simp only [Act.put,zA,zB,zC,List.setIfInBounds_toArray,zD,zE]);refine iw rfl ?_;refine(N_ (s:= .tmp 103) (x:= .tmp 106) (dT:=166) (sT:=166) (E:=ER) (T:=165) (g:=g) (q:=q+(i+ys.length)) (l:=splice l (q+i) ys) (ys:=xs.drop j) Tryz.underlying166 szR (by rfl) (by rfl) (by rfl) (by exact HB3.out) (by simp <;> omega) (by exact fun _=> ⟨by simp [Nat.add_mul],g,q*2+j*2,rfl,hsrc2⟩) (by rw [hL1];simp;omega) ?_);intro w4 hb4 hext4)
  have hE4:Ext [g] w w4:=hE3.drew.trans hext4
  have HB4:=hi_ hb4
  clear hb4 hext4
  have hL2:(splice (splice l (q+i) ys) (q+(i+ys.length)) (xs.drop j)).length=l.length:=by rw [length_splice _ _ _ (by rw [hL1];simp;omega),hL1]
  go_wp2_with (with_reducible refine P_ ?_)
  refine k_ rfl fun K hK=> Z_ (E:=ER) (T:=165) (zero:=(0,0)) (bytes:=16) (g:=g) (q:=q+(i+ys.length+(xs.length - j))) tiR Tryz.underlying166 rfl rfl HB4.out ?_ (by rw [hL2];omega) ?_
  ·intro hpos
   first | (exfalso;omega) | (simp [Nat.add_mul])
  intro w5 hb5 hext5
  have hE:Ext [g] w w5:=hE4.trans hext5
  have HB5:=hi_ hb5
  clear hb5 hext5
  refine hK _ _ ?_
  clear hK
  go_wp2
  go_ret
  refine⟨_,rfl,.inr ⟨g,q,_,_,by rw [e3];rfl,HB5.out,by rw [e3];omega,by rw [length_splice _ _ _ (by rw [hL2];simp;omega),hL2];exact hq, ?_⟩,hE,fun x hx=> .inl hx⟩
  rw [e3]
  show win _ _ _=_
  apply List.ext_getElem?
  intro k
  have hx:=congrArg (fun(z:List Rng)=> z[k]?) HX.out
  simp only [v_] at hx
  rw [v_,m_ _ _ _ _ (by rw [hL2];omega),m_ _ _ _ _ (by rw [hL1];omega),m_ _ _ _ _ (by omega)]
  simp only [List.getElem?_append,e1,List.getElem?_take,ekk,List.length_append,List.getElem?_drop]
  (repeat' split) <;> first | rfl | (exfalso;omega) | (rw [<-hx,if_pos (by omega)]) | (congr 1 <;> omega) | (rw [List.getElem?_eq_none (by omega)])
theorem dR_ (g q cap:Nat) (l:List Rng) (u:Value) (xs ys:List Rng) (i j:Nat) (w:World) (hg:w.heap[g]? =some (.cells (ER.flat l).toArray 165 (0,0))) (hcap:xs.length<=cap) (hq:q+cap<=l.length) (hxs:win l q xs.length=xs)
  (hu:ER.Ow 165 w u ys) (hne: ∀b∈blkL u,b≠g) (hij:i < j) (hj:j<=xs.length) (hl:xs.length+ys.length<=1000000) (hjn:j≠xs.length) (hroom: ¬cap < i+ys.length+(xs.length - j)) (hfit: ¬i+ys.length<=j):
  Calls Tryz.prog 113 #[.slice (some ⟨g,q*2,none⟩) xs.length cap,.int .i64 i,.int .i64 j,u] w (z_ ER 165 (.slice (some ⟨g,q*2,none⟩) xs.length cap) (xs.take i++ys++xs.drop j) w):=by
 have hv:ER.Ow 165 w (.slice (some ⟨g,q*2,none⟩) xs.length cap) xs:= .inr ⟨g,q,cap,l,rfl,hg,hcap,hq,hxs⟩
 obtain⟨HV,HU,HG,HX⟩:=h_4 hv hu hg hxs
 obtain⟨p,cu,rfl,hcu⟩:=hu.rd.len_eq
 have hvi:ER.Ow 165 w (.slice (some ⟨g,q*2,none⟩) i cap) (xs.take i):=by
  have e:(xs.take i).length=i:=by simp;omega
  refine .inr ⟨g,q,cap,l,by rw [e];rfl,HG.out,by omega,hq, ?_⟩
  rw [e,<-HX.out,win,List.take_take,show min i xs.length=i from by omega]
 have HVI:=hi_ hvi
 clear hu hv hg hxs hvi
 have e1:(xs.take i).length=i:=by simp;omega
 have hjn':j < xs.length:=by omega
 have ew1:IntKind.i64.wrap ((i:Int)+(ys.length:Int))=(i:Int)+(ys.length:Int):=IntWalk.i64_in _ (by omega)
 have ew2:IntKind.i64.wrap ((i:Int)+(ys.length:Int)+((xs.length - j:Nat):Int))=(i:Int)+(ys.length:Int)+((xs.length - j:Nat):Int):=IntWalk.i64_in _ (by omega)
 have hn1: ¬cap=j:=by omega
 have hn2: ¬cap=i:=by omega
 have ekk:(xs.drop j).length=xs.length - j:=by simp
 have e3:(xs.take i++ys++xs.drop j).length=i+ys.length+(xs.length - j):=by simp;omega
 have hL1:(splice l (q+i) ys).length=l.length:=length_splice _ _ _ (by omega)
 have hn3: ¬cap=i+ys.length:=by omega
 have hn4:(0:Int)<=(i:Int)+(ys.length:Int):=by omega
 have hn5:((i:Int)+(ys.length:Int)).toNat=i+ys.length:=by omega
 have hn6:(i:Int)+(ys.length:Int)<=(i:Int)+(ys.length:Int)+((xs.length - j:Nat):Int):=by omega
 have hjz:(j:Int)<=xs.length:=by omega
 have hnj: ¬xs.length - j=0:=by omega
 have hu:=HU.out
 rcases hu with ⟨h,_⟩ | ⟨gu,qu,cu',lu,h,hbu,hcu1,hqu,hwu⟩
 ·simp at h;omega
 cases h
 have hgu:gu≠g:=hne gu (by simp [blkL])
 have hov:=fun W (h1:W.heap[gu]? =some (.cells (ER.flat lu).toArray 165 (0,0))) (h2:W.heap[g]? =some (.cells (ER.flat l).toArray 165 (0,0))) (o1 o2 la ca lb cb:Nat)=>
  cV_ W ⟨g,o2,none⟩ ⟨gu,o1,none⟩ la ca lb cb (Ne.symm hgu) _ _ _ _ h2 h1 (by simp [Enc.length_flat];omega)
 have hov':=fun nq=> hov (w.drewN nq) hbu HG.out
 clear hov hbu hwu
 go_enter Tryz.func113,Tryz.ntmps113
 go_wp2_with (with_reducible refine f_ (d:=119) ?_)
 go_quiet (fail)
 go_wp2_with fail
 generalize hW:w.drewN nq=W
 have hE0:Ext [] w W:=hW ▸ (Ext.refl _ _).drewN _
 clear hW hov'
 have HG2:=hi_ (hE0.blk HG.out (by simp))
 have hsrc2:=da_ HG2.out HX.out j
 go_region_law ((try simp only [Act.put,zA,zB,zC,List.setIfInBounds_toArray,zD,zE]);refine iw rfl ?_;refine(N_ (s:= .tmp 126) (x:= .tmp 129) (dT:=166) (sT:=166) (E:=ER) (T:=165) (g:=g) (q:=q+(i+ys.length)) (l:=l) (ys:=xs.drop j) Tryz.underlying166 szR (by rfl) (by rfl) (by rfl) (by exact HG2.out) (by simp <;> omega) (by exact fun _=> ⟨by simp [Nat.add_mul],g,q*2+j*2,rfl,hsrc2⟩) (by simp;omega) ?_);intro w3 hb3 hext3)
 have hL1:(splice l (q+(i+ys.length)) (xs.drop j)).length=l.length:=length_splice _ _ _ (by simp;omega)
 have hE3:Ext [g] w w3:=hE0.drew.nil.trans hext3
 have HB3:=hi_ hb3
 have hu3:=HU.out.ext hE3 (by simpa [blkL] using hgu)
 clear hb3 hext3
 go_wp2_with (with_reducible refine f_ (d:=135) ?_)
 rcases hu3.rd with ⟨h,_⟩ | ⟨g',o',c',h,_,_,h3⟩
 ·cases h
 refine k_ rfl fun K hK=> N_ (s:= .tmp 133) (x:= .tmp 134) (dT:=166) (sT:=62) (E:=ER) (T:=165) (g:=g) (q:=q+i) (l:=splice l (q+(i+ys.length)) (xs.drop j)) (ys:=ys) Tryz.underlying166 szR rfl rfl rfl HB3.out (by omega) (fun _=> ⟨by simp [Nat.add_mul],g',o',by simpa using (Value.slice.inj h).1,h3⟩) (by omega) ?_
 intro w4 hb4 hext4
 have hE:Ext [g] w w4:=hE3.trans hext4
 have HB4:=hi_ hb4
 refine hK _ _ ?_
 clear hK h3 hu3 hb4 hext4 hsrc2
 have hL2:(splice (splice l (q+(i+ys.length)) (xs.drop j)) (q+i) ys).length=l.length:=by rw [length_splice _ _ _ (by rw [hL1];omega),hL1]
 go_wp2
 go_ret
 refine⟨_,rfl,.inr ⟨g,q,_,_,by rw [e3];rfl,HB4.out,by rw [e3];omega,by rw [hL2];exact hq, ?_⟩,hE,fun x hx=> .inl hx⟩
 rw [e3]
 show win _ _ _=_
 apply List.ext_getElem?
 intro k
 have hx:=congrArg (fun(z:List Rng)=> z[k]?) HX.out
 simp only [v_] at hx
 rw [v_,m_ _ _ _ _ (by rw [hL1];omega),m_ _ _ _ _ (by omega)]
 simp only [List.getElem?_append,e1,List.getElem?_take,ekk,List.length_append,List.getElem?_drop]
 (repeat' split) <;> first | rfl | (exfalso;omega) | (rw [<-hx,if_pos (by omega)]) | (congr 1 <;> omega) | (rw [List.getElem?_eq_none (by omega)])
theorem ch_ (g q cap:Nat) (l:List Rng) (u:Value) (xs ys:List Rng) (i j:Nat) (w:World) (hg:w.heap[g]? =some (.cells (ER.flat l).toArray 165 (0,0))) (hcap:xs.length<=cap) (hq:q+cap<=l.length) (hxs:win l q xs.length=xs)
  (hu:ER.Ow 165 w u ys) (hne: ∀b∈blkL u,b≠g) (hij:i < j) (hj:j<=xs.length) (hl:xs.length+ys.length<=1000000):
  Calls Tryz.prog 113 #[.slice (some ⟨g,q*2,none⟩) xs.length cap,.int .i64 i,.int .i64 j,u] w (z_ ER 165 (.slice (some ⟨g,q*2,none⟩) xs.length cap) (xs.take i++ys++xs.drop j) w):=by
 by_cases hjn:j=xs.length
 ·exact gG_ g q cap l u xs ys i j w hg hcap hq hxs hu hne hij hj hl hjn
 ·by_cases hroom:cap < i+ys.length+(xs.length - j)
  ·exact fK_ g q cap l u xs ys i j w hg hcap hq hxs hu hne hij hj hl hjn hroom
  ·by_cases hfit:i+ys.length<=j
   ·exact gF_ g q cap l u xs ys i j w hg hcap hq hxs hu hne hij hj hl hjn hroom hfit
   ·exact dR_ g q cap l u xs ys i j w hg hcap hq hxs hu hne hij hj hl hjn hroom hfit
end Go.Proofs.YtkpgjkekmdecbaaGreat
