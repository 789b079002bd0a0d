/- Lemmas for the claim. No conditions beside those that each states. -/
import Derived.Test.YtkpgjkekmdecbaaGreatEmpAF
import Derived.Test.YtkpgjkekmdecbaaGreatEmpAC
import Derived.Test.YtkpgjkekmdecbaaGreatEmpAQ
import Derived.Test.YtkpgjkekmdecbaaGreatEmpAO
set_option maxRecDepth 100000
set_option maxHeartbeats 8000000
set_option linter.all false

namespace Go.Proofs.YtkpgjkekmdecbaaGreat
open Go.RowKit
variable {w:World} {T:TypeId} {k:Nat} {zs:List (List UInt8)} {ws:List (Nat × Nat × List UInt8)} {err:Int} {y:Sy} {v v':Sv} {L:List Blk}
@[simp] theorem EPc_k:EPc.k=6:=rfl
theorem szPc:(Tryz.prog.info? 184).map (·.size)=some EPc.k:=by kernel_rfl
theorem iw_ {g q:Nat} {l xs:List Pcm} {fr:Nat×Nat} (hg:w.heap[g]? =some (.cells (EPc.flat l).toArray T fr)) (hx:win l q xs.length=xs) (i:Nat):
  ∀j u,(EPc.flat (xs.drop i))[j]? =some u->w.cell? ⟨g,q*6+i*6+j,none⟩=some u:=by
 intro j u hj
 rw [EPc.flat_drop,<-hx,win,EPc.flat_take,EPc.flat_drop,List.getElem?_drop,List.getElem?_take] at hj
 split at hj
 ·rw [List.getElem?_drop] at hj
  rw [cell_of_row w g _ _ _ _ hg]
  simpa [Nat.add_assoc] using hj
 ·cases hj
theorem eV_ (g q cap:Nat) (l:List Pcm) (u:Value) (xs ys:List Pcm) (i j:Nat) (w:World) (hg:w.heap[g]? =some (.cells (EPc.flat l).toArray 184 (0,0))) (hcap:xs.length<=cap) (hq:q+cap<=l.length) (hxs:win l q xs.length=xs)
  (hu:EPc.Ow 184 w u ys) (hne: ∀b∈blkL u,b≠g) (hij:i < j) (hj:j<=xs.length) (hl:xs.length+ys.length<=1000000) (hjn:j=xs.length):
  Calls Tryz.prog 134 #[.slice (some ⟨g,q*6,none⟩) xs.length cap,.int .i64 i,.int .i64 j,u] w (B_ EPc 184 (.slice (some ⟨g,q*6,none⟩) xs.length cap) (xs.take i++ys++xs.drop j) w):=by
 have hv:EPc.Ow 184 w (.slice (some ⟨g,q*6,none⟩) xs.length cap) xs:= .inr ⟨g,q,cap,l,rfl,hg,hcap,hq,hxs⟩
 obtain⟨HV,HU,HG,HX⟩:=h_4 hv hu hg hxs
 obtain⟨p,cu,rfl,hcu⟩:=hu.rd.len_eq
 have hvi:EPc.Ow 184 w (.slice (some ⟨g,q*6,none⟩) i cap) (xs.take i):=by
  have e:(xs.take i).length=i:=by simp;omega
  refine .inr ⟨g,q,cap,l,by rw [e];rfl,HG.out,by omega,hq, ?_⟩
  rw [e,<-HX.out,win,List.take_take,show min i xs.length=i from by omega]
 have HVI:=hi_ hvi
 clear hu hv hg hxs hvi
 have e1:(xs.take i).length=i:=by simp;omega
 subst hjn
 have hci: ¬cap=i:=by omega
 by_cases hsh:i+ys.length < xs.length
 ·go_enter Tryz.func134,Tryz.ntmps134
  go_wp2_with (with_reducible refine e_ (d:=34) ?_)
  refine k_ rfl fun K hK=> I_ (E:=EPc) (T:=184) (zero:=(R0,[])) (bytes:=64) (g:=g) (q:=q) (n:=i) (l:=l) (ys:=ys) tiEPc Tryz.underlying147 Tryz.underlying147 rfl rfl rfl HG.out HU.out.rd (by omega) hq ?_
  intro w2 hb2 hext2
  have HB2:=hi_ hb2
  clear hb2
  refine hK _ _ ?_
  clear hK
  have hn3: ¬cap=i+ys.length:=by omega
  go_wp2_with (with_reducible refine R_ ?_)
  refine k_ rfl fun K hK=> Z_ (E:=EPc) (T:=184) (zero:=(R0,[])) (bytes:=64) (g:=g) (q:=q+(i+ys.length)) (l:=splice l (q+i) ys) tiEPc Tryz.underlying147 rfl rfl HB2.out (fun _=> by simp [Nat.add_mul]) (by rw [length_splice _ _ _ (by omega)];omega) ?_
  intro w3 hb3 hext3
  refine hK _ _ ?_
  clear hK
  have fin:B_ EPc 184 (.slice (some ⟨g,q*6,none⟩) xs.length cap) (xs.take i++ys++xs.drop xs.length) w (.returned (.slice (some ⟨g,q*6,none⟩) (i+ys.length) cap)) w3:=by
   have e3:(xs.take i++ys++xs.drop xs.length).length=i+ys.length:=by simp;omega
   have hL1:(splice l (q+i) ys).length=l.length:=length_splice _ _ _ (by omega)
   refine⟨_,rfl,.inr ⟨g,q,cap,_,by rw [e3];rfl,hb3,by rw [e3];omega,by rw [length_splice _ _ _ (by rw [hL1];simp;omega),hL1];exact hq, ?_⟩,hext2.trans hext3,fun x hx=> .inl hx⟩
   rw [e3]
   show win _ _ _=_
   apply List.ext_getElem?
   intro k
   have hx:=congrArg (fun(z:List Pcm)=> z[k]?) HX.out
   simp only [w_] at hx
   rw [w_,n_ _ _ _ _ (by rw [hL1];omega),n_ _ _ _ _ (by omega)]
   simp only [List.drop_length,List.append_nil,List.getElem?_append,e1,List.getElem?_take]
   (repeat' split) <;> first | rfl | (exfalso;omega) | (rw [<-hx,if_pos (by omega)]) | (congr 1 <;> omega) | (rw [List.getElem?_eq_none (by omega)])
  clear hext2 hext3 hb3
  go_wp2
  go_ret
  exact fin
 ·go_enter Tryz.func134,Tryz.ntmps134
  go_wp2_with (with_reducible refine e_ (d:=34) ?_)
  refine k_ rfl fun K hK=> b_ (E:=EPc) (T:=184) (zero:=(R0,[])) (bytes:=64) (v:= .slice (some ⟨g,q*6,none⟩) i cap) (xs:=xs.take i) (ys:=ys) tiEPc Tryz.underlying147 Tryz.underlying147 rfl rfl rfl HVI.out HU.out.rd (by rw [e1];omega) (by rw [e1];omega) ?_
  intro v2 w2 how hext hnear hnn
  obtain⟨p2,c2,hv2,hc2⟩:=how.rd.len_eq
  have elen:(xs.take i++ys).length=i+ys.length:=by simp;omega
  rw [elen] at hv2 hc2
  subst hv2
  have fin:B_ EPc 184 (.slice (some ⟨g,q*6,none⟩) xs.length cap) (xs.take i++ys++xs.drop xs.length) w (.returned (.slice p2 (i+ys.length) c2)) w2:=
   ⟨_,rfl,by simpa using how,hext,hnear⟩
  clear how hnn hext hnear
  refine hK _ _ ?_
  clear hK
  go_wp2
  go_ret
  exact fin
theorem eU_ (g q cap:Nat) (l:List Pcm) (u:Value) (xs ys:List Pcm) (i j:Nat) (w:World) (hg:w.heap[g]? =some (.cells (EPc.flat l).toArray 184 (0,0))) (hcap:xs.length<=cap) (hq:q+cap<=l.length) (hxs:win l q xs.length=xs)
  (hu:EPc.Ow 184 w u ys) (hne: ∀b∈blkL u,b≠g) (hij:i < j) (hj:j<=xs.length) (hl:xs.length+ys.length<=1000000) (hjn:j≠xs.length) (hroom: ¬cap < i+ys.length+(xs.length - j)) (hfit:i+ys.length<=j):
  Calls Tryz.prog 134 #[.slice (some ⟨g,q*6,none⟩) xs.length cap,.int .i64 i,.int .i64 j,u] w (B_ EPc 184 (.slice (some ⟨g,q*6,none⟩) xs.length cap) (xs.take i++ys++xs.drop j) w):=by
 have hv:EPc.Ow 184 w (.slice (some ⟨g,q*6,none⟩) xs.length cap) xs:= .inr ⟨g,q,cap,l,rfl,hg,hcap,hq,hxs⟩
 obtain⟨HV,HU,HG,HX⟩:=h_4 hv hu hg hxs
 obtain⟨p,cu,rfl,hcu⟩:=hu.rd.len_eq
 have hvi:EPc.Ow 184 w (.slice (some ⟨g,q*6,none⟩) i cap) (xs.take i):=by
  have e:(xs.take i).length=i:=by simp;omega
  refine .inr ⟨g,q,cap,l,by rw [e];rfl,HG.out,by omega,hq, ?_⟩
  rw [e,<-HX.out,win,List.take_take,show min i xs.length=i from by omega]
 have HVI:=hi_ hvi
 clear hu hv hg hxs hvi
 have e1:(xs.take i).length=i:=by simp;omega
 have hjn':j < xs.length:=by omega
 have ew1:IntKind.i64.wrap ((i:Int)+(ys.length:Int))=(i:Int)+(ys.length:Int):=IntWalk.i64_in _ (by omega)
 have ew2:IntKind.i64.wrap ((i:Int)+(ys.length:Int)+((xs.length - j:Nat):Int))=(i:Int)+(ys.length:Int)+((xs.length - j:Nat):Int):=IntWalk.i64_in _ (by omega)
 have hn1: ¬cap=j:=by omega
 have hn2: ¬cap=i:=by omega
 have ekk:(xs.drop j).length=xs.length - j:=by simp
 have e3:(xs.take i++ys++xs.drop j).length=i+ys.length+(xs.length - j):=by simp;omega
 have hL1:(splice l (q+i) ys).length=l.length:=length_splice _ _ _ (by omega)
 have hn3: ¬cap=i+ys.length:=by omega
 have hn4:(0:Int)<=(i:Int)+(ys.length:Int):=by omega
 have hn5:((i:Int)+(ys.length:Int)).toNat=i+ys.length:=by omega
 have hn6:(i:Int)+(ys.length:Int)<=(i:Int)+(ys.length:Int)+((xs.length - j:Nat):Int):=by omega
 have hjz:(j:Int)<=xs.length:=by omega
 have hnj: ¬xs.length - j=0:=by omega
 have hu:=HU.out
 have hct:cap=i+ys.length+(xs.length - j)\/ ¬cap=i+ys.length+(xs.length - j):=by omega
 rcases hct with rfl | hct
 all_goals
  go_enter Tryz.func134,Tryz.ntmps134
  go_wp2_with (with_reducible refine e_ (d:=97) ?_)
  go_quiet (fail)
  go_wp2_with (with_reducible refine e_ (d:=97) ?_)
  generalize hW:w.drewN nq=W
  have hE0:Ext [] w W:=hW ▸ (Ext.refl _ _).drewN _
  clear hW hu
  refine k_ rfl fun K hK=> O_ (E:=EPc) (T:=184) (g:=g) (q:=q+i) (l:=l) (ys:=ys) Tryz.underlying147 szPc rfl rfl rfl (hE0.blk HG.out (by simp)) (by omega) ?_ (by omega) ?_
  ·intro hpos
   rcases(HU.out.ext0 hE0).rd with ⟨_,h⟩ | ⟨g',o',c',h,_,_,h3⟩
   ·subst h;simp at hpos
   ·cases h;exact⟨by simp [Nat.add_mul],g',o',rfl,h3⟩
  intro w3 hb3 hext3
  have hE3:Ext [g] w w3:=hE0.nil.trans hext3
  have HB3:=hi_ hb3
  have hsrc2: ∀k u,(EPc.flat (xs.drop j))[k]? =some u->w3.cell? ⟨g,q*6+j*6+k,none⟩=some u:=by
   have hw:win (splice l (q+i) ys) q (splice xs i ys).length=splice xs i ys:=by
    rw [length_splice _ _ _ (by omega),J_ _ _ _ _ _ (by omega) (by omega),HX.out]
   have ht:(splice xs i ys).drop j=xs.drop j:=by
    apply List.ext_getElem?
    intro k
    rw [List.getElem?_drop,List.getElem?_drop,n_ _ _ _ _ (by omega),if_neg (by omega),if_neg (by omega)]
   have h:=iw_ hb3 hw j
   rwa [ht] at h
  clear hb3 hext3
  refine hK _ _ ?_
  clear hK
  go_wp2_with fail
  go_region_law ((try simp only [Act.put,zA,zB,zC,List.setIfInBounds_toArray,zD,zE]);refine iw rfl ?_;refine(O_ (s:= .tmp 103) (x:= .tmp 106) (dT:=147) (sT:=147) (E:=EPc) (T:=184) (g:=g) (q:=q+(i+ys.length)) (l:=splice l (q+i) ys) (ys:=xs.drop j) Tryz.underlying147 szPc (by rfl) (by rfl) (by rfl) (by exact HB3.out) (by simp <;> omega) (by exact fun _=> ⟨by simp [Nat.add_mul],g,q*6+j*6,rfl,hsrc2⟩) (by rw [hL1];simp;omega) ?_);intro w4 hb4 hext4)
  have hE4:Ext [g] w w4:=hE3.drew.trans hext4
  have HB4:=hi_ hb4
  clear hb4 hext4
  have hL2:(splice (splice l (q+i) ys) (q+(i+ys.length)) (xs.drop j)).length=l.length:=by rw [length_splice _ _ _ (by rw [hL1];simp;omega),hL1]
  go_wp2_with (with_reducible refine R_ ?_)
  refine k_ rfl fun K hK=> Z_ (E:=EPc) (T:=184) (zero:=(R0,[])) (bytes:=64) (g:=g) (q:=q+(i+ys.length+(xs.length - j))) tiEPc Tryz.underlying147 rfl rfl HB4.out ?_ (by rw [hL2];omega) ?_
  ·intro hpos
   first | (exfalso;omega) | (simp [Nat.add_mul])
  intro w5 hb5 hext5
  have hE:Ext [g] w w5:=hE4.trans hext5
  have HB5:=hi_ hb5
  clear hb5 hext5
  refine hK _ _ ?_
  clear hK
  go_wp2
  go_ret
  refine⟨_,rfl,.inr ⟨g,q,_,_,by rw [e3];rfl,HB5.out,by rw [e3];omega,by rw [length_splice _ _ _ (by rw [hL2];simp;omega),hL2];exact hq, ?_⟩,hE,fun x hx=> .inl hx⟩
  rw [e3]
  show win _ _ _=_
  apply List.ext_getElem?
  intro k
  have hx:=congrArg (fun(z:List Pcm)=> z[k]?) HX.out
  simp only [w_] at hx
  rw [w_,n_ _ _ _ _ (by rw [hL2];omega),n_ _ _ _ _ (by rw [hL1];omega),n_ _ _ _ _ (by omega)]
  simp only [List.getElem?_append,e1,List.getElem?_take,ekk,List.length_append,List.getElem?_drop]
  (repeat' split) <;> first | rfl | (exfalso;omega) | (rw [<-hx,if_pos (by omega)]) | (congr 1 <;> omega) | (rw [List.getElem?_eq_none (by omega)])
theorem gx_ {D F c d:Nat} (h1:c % D=d % D) (h2:F+c / D=F+d / D):c=d:=by
 have h3:=Nat.div_add_mod c D
 have h4:=Nat.div_add_mod d D
 have h5:c / D=d / D:=by omega
 rw [h1,h5] at h3
 omega
theorem fA_ (D F a:Nat) (zs:List (List UInt8)) (j:Nat) (z:List UInt8) (h:zs[j]? =some z):(wsOf D F a zs)[j]? =some ((a+j) % D,F+(a+j) / D,z):=by
 rw [wsOf,List.getElem?_map,List.getElem?_zipIdx,h]
 simp
theorem hp_ {D F a:Nat} {j:Nat} {x:Nat×Nat×List UInt8} (hx:(wsOf D F a zs)[j]? =some x):j < zs.length/\x.1=(a+j) % D/\x.2.1=F+(a+j) / D:=by
 have hj:j < (wsOf D F a zs).length:=(List.getElem?_eq_some_iff.1 hx).1
 rw [eE_] at hj
 rw [fA_ D F a zs j _ (List.getElem?_eq_getElem hj)] at hx
 cases hx
 exact⟨hj,rfl,rfl⟩
theorem Stands.keep {D F a a':Nat} {zs zs':List (List UInt8)} (h:Stands ws D F a zs) (hd: ∀i j,i < zs.length->j < zs'.length->a+i≠a'+j):Stands (ws++wsOf D F a' zs') D F a zs:=by
 intro i z hi
 have hil:=(List.getElem?_eq_some_iff.1 hi).1
 obtain⟨h1,n,h2,h3⟩:=h i z hi
 have hn:=(List.getElem?_eq_some_iff.1 h2).1
 refine⟨h1,n,by rw [List.getElem?_append_left hn];exact h2,fun m x hm hx=> ?_⟩
 by_cases hml:m < ws.length
 ·rw [List.getElem?_append_left hml] at hx
  exact h3 m x hm hx
 ·rw [List.getElem?_append_right (by omega)] at hx
  obtain⟨h5,h6,h7⟩:=hp_ hx
  intro h8
  rw [h6,h7] at h8
  exact hd i _ hil h5 (gx_ h8.1 h8.2).symm
theorem Stands.new {D F a:Nat} (hz: ∀z∈zs,z.length=128):Stands (ws++wsOf D F a zs) D F a zs:=by
 intro j z hj
 refine⟨hz z (List.mem_of_getElem? hj),ws.length+j, ?_,fun n x hn hx=> ?_⟩
 ·rw [List.getElem?_append_right (by omega),Nat.add_sub_cancel_left]
  exact fA_ D F a zs j z hj
 ·rw [List.getElem?_append_right (by omega)] at hx
  obtain⟨h1,h2,h3⟩:=hp_ hx
  intro h4
  rw [h2,h3] at h4
  have:=gx_ h4.1 h4.2
  omega
def gE_ (k:Nat) (x:Blk) (c:Int):Prop:=(x.1:Int)<=c/\c < x.1+C_ k x.2.length
structure DkS (y:Sy) (v:Sv) (L:List Blk):Prop where
 dsk:Dsk y v L
 used: ∀x∈L,∀c,gE_ y.k x c->Mem v.spc.used c
 apart: ∀x∈L,∀x'∈L,x.1≠x'.1-> ∀c,¬(gE_ y.k x c/\gE_ y.k x' c)
theorem StdAt.cost {x:Blk} (h:StdAt y ws x):4<=C_ y.k x.2.length/\C_ y.k x.2.length<=32:=aV_ _ _ h.1 h.2.1
theorem LayOf.cost {P:List UInt8} {size:Nat} (h:LayOf k P ((size+127) / 128) zs):zs.length=C_ k size:=by
 have h1:=h.len 0
 have h2:=dl_ k size 0
 omega
theorem PutRel.took {bs:List UInt8} {a:Nat} (p:PutRel y v v' bs a):Took v.spc v'.spc a (C_ y.k bs.length)/\(C_ y.k bs.length:Int)<=cntL v.spc.free - v.spc.back:=by
 rcases p.take with ⟨_,_,_,h⟩ | ⟨_,_,_,_,h⟩ | ⟨_,h1,_,_,h⟩
 ·cases h
 ·cases h
 ·exact⟨h,h1⟩
theorem DkS.put {bs:List UInt8} {a:Nat} (h:DkS y v L) (hi:SpI v.spc) (hc:v.spc.cells=(((y.k+4)*(y.S - y.F):Nat):Int)) (p:PutRel y v v' bs a) (h1:1<=bs.length) (h2:bs.length<=1024) (hw:v'.ws.length<=900000):DkS y v' ((a,bs)::L):=by
 obtain⟨tk, -⟩:=p.took
 obtain⟨zs,hl,hz,hws⟩:=p.sec
 have hcb:=aV_ y.k bs.length h1 h2
 have hbd:=tk.bound hi (by omega)
 have hzl:=hl.cost
 have hnew: ∀x∈L,∀c,¬(gE_ y.k x c/\gE_ y.k (a,bs) c):=fun x hx c hcc=> by
  have h3:=h.used x hx c hcc.1
  have h4:=tk.at1 c ⟨hcc.2.1,hcc.2.2⟩
  exact hi.fu c ⟨h4,h3⟩
 have hne: ∀x∈L,x.1≠a:=fun x hx e=> by
  have h3:=(h.dsk.std x hx).cost
  exact hnew x hx (a:Int) ⟨⟨by omega,by omega⟩,⟨by simp,by simp;omega⟩⟩
 refine⟨⟨fun x hx=> ?_,fun m hm=> ?_,fun x hx x' hx' he=> ?_,hw⟩,fun x hx c hcc=> ?_,fun x hx x' hx' he c hcc=> ?_⟩
 ·rcases List.mem_cons.1 hx with rfl | hx
  ·refine⟨h1,h2, ?_,zs,hl,by rw [hws];exact Stands.new hz⟩
   rw [hc] at hbd
   show a+C_ y.k bs.length<=_
   omega
  ·obtain⟨a1,a2,a3,zx,a4,a5⟩:=h.dsk.std x hx
   refine⟨a1,a2,a3,zx,a4, ?_⟩
   rw [hws]
   refine a5.keep (fun i j hi hj e=> ?_)
   have h3:=a4.cost
   exact hnew x hx ((x.1+i:Nat):Int) ⟨⟨by omega,by omega⟩,⟨by simp only;omega,by simp only;omega⟩⟩
 ·rw [p.st] at hm
  rcases hG_ hm with hm | hm
  ·obtain⟨x,hx,he⟩:=h.dsk.mem m hm
   exact⟨x,List.mem_cons_of_mem _ hx,he⟩
  ·exact⟨(a,bs),by simp,hm⟩
 ·rcases List.mem_cons.1 hx with rfl | hx <;> rcases List.mem_cons.1 hx' with rfl | hx'
  ·rfl
  ·exact absurd he.symm (hne x' hx')
  ·exact absurd he (hne x hx)
  ·exact h.dsk.uniq x hx x' hx' he
 ·rw [tk.used]
  rcases List.mem_cons.1 hx with rfl | hx
  ·exact .inr ⟨hcc.1,hcc.2⟩
  ·exact .inl (h.used x hx c hcc)
 ·rcases List.mem_cons.1 hx with rfl | hx <;> rcases List.mem_cons.1 hx' with rfl | hx'
  ·exact he rfl
  ·exact hnew x' hx' c ⟨hcc.2,hcc.1⟩
  ·exact hnew x hx c hcc
  ·exact h.apart x hx x' hx' he c hcc
def offL (L:List Blk) (a:Nat):List Blk:=L.filter (fun x=> !(x.1==a))
theorem av_ {a:Nat} {x:Blk}:x∈offL L a↔x∈L/\x.1≠a:=by simp [offL]
theorem DkS.give {x:Blk} (h:DkS y v L) (hi:SpI v.spc) (hc:v.spc.cells=(((y.k+4)*(y.S - y.F):Nat):Int)) (hx:x∈L) (hg:dR_ v.spc x.1 (C_ y.k x.2.length) v'.spc err) (hw:v'.ws=v.ws) (hm:(err≠0/\v'.st=v.st)\/(err=0/\v'.st={v.st with mem:=aS_ v.st.mem x.1})):
  err=0/\Given v.spc v'.spc x.1 (C_ y.k x.2.length)/\DkS y v' (offL L x.1):=by
 have hsd:=h.dsk.std x hx
 have hcb:=hsd.cost
 have hin:inB v.spc x.1 (C_ y.k x.2.length)=true:=by
  have h3:=hsd.2.2.1
  simp only [inB,Bool.and_eq_true,decide_eq_true_eq]
  rw [hc]
  omega
 have hhas:hasB v.spc.used ((x.1:Int),(x.1:Int)+C_ y.k x.2.length)=true:=
  dE_ hi.okU (by simp;omega) (fun c hcc=> h.used x hx c hcc)
 rcases hg with ⟨h3,_⟩ | ⟨_,h3,_⟩ | ⟨_,_,he,gv⟩
 ·rw [hin] at h3;cases h3
 ·rw [hhas] at h3;cases h3
 ·refine⟨he,gv,⟨fun z hz=> ?_,fun m hmm=> ?_,fun z hz z' hz'=> h.dsk.uniq z (av_.1 hz).1 z' (av_.1 hz').1,by rw [hw];exact h.dsk.wl⟩,fun z hz c hcc=> ?_,fun z hz z' hz'=> h.apart z (av_.1 hz).1 z' (av_.1 hz').1⟩
  ·rw [hw];exact h.dsk.std z (av_.1 hz).1
  ·rcases hm with ⟨h4,_⟩ | ⟨_,h4⟩
   ·exact absurd he h4
   ·rw [h4] at hmm
    have h5:=List.mem_filter.1 hmm
    obtain⟨z,hz,hze⟩:=h.dsk.mem m h5.1
    refine⟨z,av_.2 ⟨hz,fun e=> ?_⟩,hze⟩
    have h6:=h5.2
    rw [hze] at h6
    simp [e] at h6
  ·obtain⟨hz1,hz2⟩:=av_.1 hz
   rw [gv.used]
   refine⟨h.used z hz1 c hcc,fun h4=> ?_⟩
   exact h.apart z hz1 x hx hz2 c ⟨hcc,h4⟩
theorem DkS.settle (h:DkS y v L) (hs:Settled v.spc v'.spc) (hw:v'.ws=v.ws) (hm:v'.st.mem=v.st.mem):DkS y v' L:=
 ⟨⟨by rw [hw];exact h.dsk.std,by rw [hm];exact h.dsk.mem,h.dsk.uniq,by rw [hw];exact h.dsk.wl⟩,fun x hx c hc=> by rw [hs.used];exact h.used x hx c hc,h.apart⟩
theorem DkS.same (h:DkS y v L) (hs:SameV v v') (hd:Dsk y v' L):DkS y v' L:=⟨hd,fun x hx c hc=> by rw [hs.spc];exact h.used x hx c hc,h.apart⟩
end Go.Proofs.YtkpgjkekmdecbaaGreat
