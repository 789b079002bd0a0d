/- Lemmas for the claim. No conditions beside those that each states. -/
import Derived.Test.YtkpgjkekmdecbaaGreatOrdAL
set_option maxRecDepth 100000
set_option maxHeartbeats 8000000
set_option linter.all false

namespace Go.Proofs.YtkpgjkekmdecbaaGreat
open Go.RowKit
variable {w w' W W' w1:World} {T:TypeId} {g k:Nat} {S:List Nat} {zs:List (List UInt8)}
abbrev Wri:=Int×Int×(Option Addr×Nat×Nat)
abbrev W0:Wri:=(0,0,(none,0,0))
theorem hW_ {g o n cap:Nat} {s:List Wri} (h:EW.Rd w (.slice (some ⟨g,o,none⟩) n cap) s) (i:Nat) (hi:i < s.length):
  w.cell? ⟨g,o+i*3,none⟩=some (.int .i64 (s.getD i W0).1)/\w.cell? ⟨g,o+i*3+1,none⟩=some (.int .i64 (s.getD i W0).2.1)/\w.cell? ⟨g,o+i*3+2,none⟩=some (.slice (s.getD i W0).2.2.1 (s.getD i W0).2.2.2.1 (s.getD i W0).2.2.2.2):=by
 have e:s.getD i W0=s[i]:=by simp [List.getD,hi]
 rw [e]
 exact⟨h.cells i 0 hi (by decide),h.cells i 1 hi (by decide),h.cells i 2 hi (by decide)⟩
def hU_ (ws:List (Nat×Nat×List UInt8)) (d a i:Nat) (bs:List UInt8):Prop:=ws[i]? =some (d,a,bs)/\ ∀j x,i < j->ws[j]? =some x-> ¬(x.1=d/\x.2.1=a)
def NewPostR (bs:List UInt8) (w:World) (e:Ending) (w':World):Prop:=
 ∃g o p n c,e= .returned (.pointer (some ⟨g,o,none⟩))/\w.cell? ⟨g,o+2,none⟩=some (.slice p n c)/\EB.Ow 5 w (.slice p n c) bs/\Ext [] w w'
theorem im_ (b gg D S:Nat) (ws:List (Nat×Nat×List UInt8)) (d a i:Nat) (bs:List UInt8) (w:World) (h:RackR w b gg D S ws) (hn:hU_ ws d a i bs) (hwl:ws.length<=1000000):
  Calls Tryz.prog 227 #[.pointer (some ⟨b,0,none⟩),.agg #[.int .i64 d,.int .i64 a]] w (NewPostR bs w):=by
 obtain⟨mv,pw,nw,cw,left,rs,h1,h2,h3,⟨h4,h5⟩,h6⟩:=h
 have hil:i < ws.length:=(List.getElem?_eq_some_iff.1 hn.1).1
 obtain⟨pw',cw',e3,_⟩:=h3.rd.len_eq
 simp only [Value.slice.injEq] at e3
 obtain⟨rfl,rfl,rfl⟩:=e3
 rw [h4] at h1 h3
 obtain⟨n,hnn⟩: ∃n,n=ws.length:=⟨_,rfl⟩
 rw [<-hnn] at h1 h3 hwl hil h4
 have HNN:=hi_ hnn
 have hEa:=(Ext.refl [] w).alloc (.cells #[.int .i64 d,.int .i64 a] 311)
 have c4:w.cell? ⟨b,4,none⟩=some (.slice pw n cw):=by rw [cell_of_row w b 4 _ _ _ h1];rfl
 have c4':=hEa.cell c4 (by simp)
 obtain⟨g,o,rfl⟩: ∃g o,pw=some ⟨g,o,none⟩:=by
  rcases h3.rd with ⟨_,h⟩ | ⟨g,o,c,h,_⟩
  ·rw [h] at h4;simp at h4;omega
  ·simp only [Value.slice.injEq] at h;exact⟨g,o,h.1⟩
 obtain⟨H3,H4,H5,HN⟩:=h_4 h3 h4 h5 hn
 clear h1 h2 h3 h4 h5 h6 hn hnn c4
 go_enter Tryz.func227,Tryz.ntmps227
 go_wp2_with fail
 have hbp:=heap_alloc_new w (.cells #[.int .i64 d,.int .i64 a] 311)
 obtain⟨bp,hbpe⟩: ∃x,x=w.heap.size:=⟨_,rfl⟩
 rw [<-hbpe] at hbp
 simp only [<-hbpe]
 have HB:=hi_ hbp
 clear hbp hbpe
 revert hEa c4' HB
 generalize World.alloc _ _=W0'
 intro hEa c4' HB
 go_loopw [4,5] (fun _ iv wr=> ∃j:Nat,i<=j/\j < n/\iv= .int .i64 j/\Ext [] W0' wr) (fun _ iv _=> (intOf iv).toNat)
 case atStart=> exact⟨n - 1,by omega,by omega,by rw [show ((n - 1:Nat):Int)=(n:Int) - 1 by omega],Ext.refl _ _⟩
 case round=>
  obtain⟨j,hj1,hj2,rfl,hE⟩:=hrel
  have z1:(0:Int)<=(j:Int):=by omega
  have z2:(j:Int) < (n:Int):=by omega
  have hr3:=(H3.out.rd.ext0 hEa).ext0 hE
  have hjr:j < rs.length:=by rw [H4.out];exact hj2
  obtain⟨m0,m1,m2⟩:=hW_ hr3 j hjr
  have c4:=hE.cell c4' (by simp)
  have q0:=hE.cell (show W0'.cell? ⟨bp,0,none⟩=some (.int .i64 d) by rw [cell_of_row _ _ 0 _ _ _ HB.out];rfl) (by simp)
  have q1:=hE.cell (show W0'.cell? ⟨bp,1,none⟩=some (.int .i64 a) by rw [cell_of_row _ _ 1 _ _ _ HB.out];rfl) (by simp)
  obtain⟨r,hr⟩: ∃r,r=rs.getD j W0:=⟨_,rfl⟩
  rw [<-hr] at m0 m1 m2
  have hrj:rs[j]? =some r:=by rw [hr];simp [List.getD,hjr]
  have hjw:j < ws.length:=by rw [<-HNN.out];exact hj2
  obtain⟨y1,y2,y3⟩:=H5.out j r ws[j] hrj (List.getElem?_eq_getElem hjw)
  obtain⟨x,hx⟩: ∃x,x=ws[j]:=⟨_,rfl⟩
  rw [<-hx] at y1 y2 y3
  rw [y1] at m0
  rw [y2] at m1
  obtain⟨HR,HX,HY3⟩:=h_3 hr hx y3
  clear hr hrj y1 y2 y3 hx
  have c44:=c4
  by_cases hji:j=i
  ·have hxe:x=(d,a,bs):=by
    have h:=HN.out.1
    rw [HX.out]
    rw [<-hji,List.getElem?_eq_getElem hjw] at h
    exact Option.some.inj h
   rw [hxe] at m0 m1
   simp only at m0 m1
   obtain⟨HXE,HJI⟩:=h_2 hxe hji
   clear hxe hji
   go_wp2_with fail
   go_big_quiet (fail)
   go_wp2_with fail
   go_ret
   have hm:=(hW_ H3.out.rd j hjr).2.2
   have hre:rs.getD j W0=r:=HR.out.symm
   rw [hre] at hm
   refine⟨g,o+j*3,_,_,_,rfl,hm, ?_,(hEa.trans hE).drewN _⟩
   have h:=HY3.out
   rw [HXE.out] at h
   exact h
  ·have hgt:i < j:=by omega
   have hno:=HN.out.2 j x hgt (by rw [HX.out];exact List.getElem?_eq_getElem hjw)
   have HNO:=hi_ hno
   clear hno hji
   by_cases hd:x.1=d
   ·have ha: ¬x.2.1=a:=fun h=> HNO.out ⟨hd,h⟩
    have hb:(((x.2.1:Nat):Int)==(a:Int))=false:=beq_eq_false_iff_ne.2 (by omega)
    have hb2: ¬(((x.2.1:Nat):Int)=(a:Int)):=by omega
    rw [hd] at m0
    have HD:=hi_ hd
    clear hd
    go_wp2_with fail
    go_big_quiet (fail)
    go_wp2_with fail
    go_roundw
    case rel=> exact⟨j - 1,by omega,by omega,by rw [show ((j - 1:Nat):Int)=(j:Int) - 1 by omega],hE.drewN _⟩
    case measure=> simp [intOf];omega
   ·have hb:(((x.1:Nat):Int)==(d:Int))=false:=beq_eq_false_iff_ne.2 (by omega)
    have hb2: ¬(((x.1:Nat):Int)=(d:Int)):=by omega
    clear hd
    go_wp2_with fail
    go_big_quiet (fail)
    go_wp2_with fail
    go_roundw
    case rel=> exact⟨j - 1,by omega,by omega,by rw [show ((j - 1:Nat):Int)=(j:Int) - 1 by omega],hE.drewN _⟩
    case measure=> simp [intOf];omega
theorem rkheld_c (b gg D S:Nat) (ws:List (Nat×Nat×List UInt8)) (d a i:Nat) (bs:List UInt8) (w:World) (h:RackR w b gg D S ws) (hn:hU_ ws d a i bs) (hwl:ws.length<=1000000):
  Calls Tryz.prog 203 #[.pointer (some ⟨b,0,none⟩),.agg #[.int .i64 d,.int .i64 a]] w fun e w'=> ∃v,e= .returned v/\EB.Ow 5 w' v bs/\Ext [] w w':=by
 have hEa:=(Ext.refl [] w).alloc (.cells #[.int .i64 d,.int .i64 a] 311)
 have HR:=hi_ (h.ext0 hEa)
 have HEA:=hi_ hEa
 clear h hEa
 have HN:=hi_ hn
 clear hn
 go_enter Tryz.func203,Tryz.ntmps203
 go_wp2_with fail
 refine(im_ b gg D S ws d a i bs _ HR.out HN.out hwl).mono ?_
 rintro e W1 ⟨g,o,p,n,c,rfl,hc,ho,hE1⟩
 have hc1:=hE1.cell hc (by simp)
 have hE01:=HEA.out.trans hE1
 have HO:=hi_ (ho.ext0 hE1)
 clear hc hE1 ho
 go_wp2_with fail
 go_ret
 exact⟨_,rfl,HO.out,hE01⟩
theorem rkread_c (b gg D S:Nat) (ws:List (Nat×Nat×List UInt8)) (d a i:Nat) (bs:List UInt8) (w:World) (h:RackR w b gg D S ws) (hd:d < D) (ha:a < S) (hn:hU_ ws d a i bs) (hwl:ws.length<=1000000) (hbl:bs.length<=1000000):
  Calls Tryz.prog 170 #[.pointer (some ⟨b,0,none⟩),.int .i64 d,.int .i64 a] w fun e w'=> ∃v,e= .returned (.tuple #[v,.int .i64 0])/\EB.Ow 5 w' v bs/\(∀g∈blkL v,w.heap.size<=g)/\Ext [] w w':=by
 have HR:=hi_ h
 obtain⟨mv,pw,nw,cw,left,rs,h1,h2,_⟩:=h
 have c3:w.cell? ⟨b,3,none⟩=some (.slice (some ⟨gg,0,none⟩) D D):=by rw [cell_of_row w b 3 _ _ _ h1];rfl
 have c5:w.cell? ⟨b,5,none⟩=some (.bool false):=by rw [cell_of_row w b 5 _ _ _ h1];rfl
 have cg:w.cell? ⟨gg,d,none⟩=some (.bool false):=by rw [cell_of_row w gg d _ _ _ h2];simp [flatBo,hd]
 have z1:(0:Int)<=(d:Int):=by omega
 have z2:(d:Int) < (D:Int):=by omega
 have HN:=hi_ hn
 clear h1 h2 hn
 go_enter Tryz.func170,Tryz.ntmps170
 go_wp2_with fail
 refine(rkin_c b gg D S ws d a _ HR.out hd ha).mono ?_
 rintro e W1 ⟨rfl,rfl⟩
 go_wp2_with fail
 refine(rkheld_c b gg D S ws d a i bs _ HR.out HN.out hwl).mono ?_
 rintro e W2 ⟨v2,rfl,ho2,hE2⟩
 have HO2:=hi_ ho2
 clear ho2 c3 c5 cg
 go_wp2_with fail
 refine(cx_ v2 bs _ hbl HO2.out.rd).mono ?_
 rintro e W3 ⟨v3,rfl,ho3,hE3,hn3, -⟩
 have HO3:=hi_ ho3
 have hn': ∀g∈blkL v3,W1.heap.size<=g:=fun g hg=> Nat.le_trans hE2.size (hn3 g hg)
 have hE03:=hE2.trans hE3
 clear ho3 hn3 hE2 hE3
 go_wp2_with fail
 go_ret2
 exact⟨_,rfl,HO3.out,hn',hE03⟩
abbrev Slc2:=Option Addr×Nat×Nat
abbrev Str:=Slc2×Slc2
def EST:Enc Str where
 k:=2
 hk:=by decide
 enc x:= [.slice x.1.1 x.1.2.1 x.1.2.2,.slice x.2.1 x.2.2.1 x.2.2.2]
 len _:=rfl
 one _ v hv:=by simp at hv;rcases hv with rfl | rfl <;> rfl
theorem tiST:Ti Tryz.prog EST 302 48 ((none,0,0),(none,0,0)):=Ti.mk' (z:= .agg #[.slice none 0 0,.slice none 0 0]) (by kernel_rfl) rfl
theorem EST_cells {g o n cap:Nat} {s:List Str} (h:EST.Rd w (.slice (some ⟨g,o,none⟩) n cap) s) (i:Nat) (x:Str) (hx:s[i]? =some x):
  w.cell? ⟨g,o+i*2,none⟩=some (.slice x.1.1 x.1.2.1 x.1.2.2)/\w.cell? ⟨g,o+i*2+1,none⟩=some (.slice x.2.1 x.2.2.1 x.2.2.2):=by
 obtain⟨hi,rfl⟩:=List.getElem?_eq_some_iff.1 hx
 exact⟨h.cells i 0 hi (by decide),h.cells i 1 hi (by decide)⟩
theorem one_rdST (W0:World) (x:Str):EST.Rd (W0.alloc (.cells #[.slice x.1.1 x.1.2.1 x.1.2.2,.slice x.2.1 x.2.2.1 x.2.2.2] T)) (.slice (some ⟨W0.heap.size,0,none⟩) 1 1) [x]:=by
 refine .inr ⟨W0.heap.size,0,1,rfl,Nat.le_refl _,by simp,fun j u hj=> ?_⟩
 rw [cell_of_row _ W0.heap.size _ _ _ _ (heap_alloc_new _ _)]
 match j,hj with
 | 0,hj=> exact hj
 | 1,hj=> exact hj
 | j+2,hj=> simp [EST,Enc.flat] at hj
def StrOk (w:World) (B:Nat) (x:Str) (cs:List (List UInt8)):Prop:= ∃(zc:List (Slc2×List UInt8)) (ds:List Int),ES.Ow 158 w (.slice x.1.1 x.1.2.1 x.1.2.2) (zc.map (·.1))/\CellsOk w B zc/\zc.map (·.2)=cs/\EI.Ow 3 w (.slice x.2.1 x.2.2.1 x.2.2.2) ds/\ds.length=cs.length
theorem StrOk.ext {B:Nat} {x:Str} {cs:List (List UInt8)} (h:StrOk w B x cs) (he:Ext S w w') (h1: ∀y∈S,r_ w y≠some 5/\r_ w y≠some 158/\r_ w y≠some 3):StrOk w' B x cs:=by
 obtain⟨zc,ds,a1,a2,a3,a4,a5⟩:=h
 refine⟨zc,ds,a1.ext he (fun y hy hy2=> ?_),a2.ext he (fun y hy=> (h1 y hy).1),a3,a4.ext he (fun y hy hy2=> ?_),a5⟩
 ·obtain⟨c,hc⟩:=a1.tag y hy
  exact(h1 y hy2).2.1 (d_ hc)
 ·obtain⟨c,hc⟩:=a4.tag y hy
  exact(h1 y hy2).2.2 (d_ hc)
inductive StripesOf (k:Nat):List UInt8->Nat->List (List (List UInt8))->Prop
 | nil (P:List UInt8):StripesOf k P 0 []
 | row (P:List UInt8) (l:Nat) (p1 p2 p3:List UInt8) (rest:List (List (List UInt8))):l≠0->StripesOf k (P.drop (128*min l (k+1))) (l - min l (k+1)) rest->StripesOf k P l ((az_ P (min l (k+1))++ [p1,p2,p3])::rest)
theorem turn_get (D:List (List UInt8)) (p1 p2 p3:List UInt8) (rest:List (List UInt8)) (i:Nat) (hi:i < D.length+3):(D++ [p1,p2,p3])[i]? =(p1::p2::p3::(D++rest))[(i+3) % (D.length+3)]? :=by
 by_cases h:i < D.length
 ·rw [Nat.mod_eq_of_lt (by omega),List.getElem?_append_left h]
  show _=(D++rest)[i]?
  rw [List.getElem?_append_left h]
 ·obtain⟨j,rfl⟩: ∃j,i=D.length+j:=⟨i - D.length,by omega⟩
  rw [show (D.length+j+3)=j+(D.length+3) by omega,Nat.add_mod_right,Nat.mod_eq_of_lt (by omega),List.getElem?_append_right (by omega),Nat.add_sub_cancel_left]
  match j,hi with
  | 0,_=> rfl
  | 1,_=> rfl
  | 2,_=> rfl
  | j+3,hi=> omega
structure SQ (w1 W:World) (B b:Nat) (cv dv:Slc2) (zc:List (Slc2×List UInt8)) (ds:List Int):Prop where
 ext:Ext [b] w1 W
 hb:W.heap[b]? =some (.cells #[.slice cv.1 cv.2.1 cv.2.2,.slice dv.1 dv.2.1 dv.2.2] 302 (0,0))
 oc:ES.Ow 158 W (.slice cv.1 cv.2.1 cv.2.2) (zc.map (·.1))
 kc:CellsOk W B zc
 od:EI.Ow 3 W (.slice dv.1 dv.2.1 dv.2.2) ds
 lc: ∀y∈blkL (.slice cv.1 cv.2.1 cv.2.2),w1.heap.size<=y
 ld: ∀y∈blkL (.slice dv.1 dv.2.1 dv.2.2),w1.heap.size<=y
structure SR (w1 W:World) (B b:Nat) (cv dv:Slc2) (u1 u2:Value) (L1:List Slc2) (L2:List Int) (z:List (Slc2×List UInt8)):Prop where
 ext:Ext [b] w1 W
 hb:W.heap[b]? =some (.cells #[.slice cv.1 cv.2.1 cv.2.2,.slice dv.1 dv.2.1 dv.2.2] 302 (0,0))
 bl:w1.heap.size<=W.heap.size
 oc:ES.Ow 158 W u1 L1
 kc:CellsOk W B z
 od:EI.Ow 3 W u2 L2
 lc: ∀y∈blkL u1,w1.heap.size<=y
 ld: ∀y∈blkL u2,w1.heap.size<=y
theorem SR.ext0 {B b:Nat} {cv dv:Slc2} {u1 u2:Value} {L1:List Slc2} {L2:List Int} {z:List (Slc2×List UInt8)} (h:SR w1 W B b cv dv u1 u2 L1 L2 z) (he:Ext [] W W'):SR w1 W' B b cv dv u1 u2 L1 L2 z:=
 ⟨h.ext.andThen he,he.blk h.hb (by simp),Nat.le_trans h.bl he.size,h.oc.ext0 he,h.kc.ext he (by simp),h.od.ext0 he,h.lc,h.ld⟩
theorem SR.app1 {B b:Nat} {cv dv:Slc2} {u1 u2 v':Value} {L1 L:List Slc2} {L2:List Int} {z:List (Slc2×List UInt8)} (h:SR w1 W B b cv dv u1 u2 L1 L2 z) (how:ES.Ow 158 W' v' L) (hE:Ext (blkL u1) W W') (hn:Near W u1 v'):SR w1 W' B b cv dv v' u2 L L2 z:=by
 refine⟨h.ext.trans' hE (fun _ h=> .inl h) (fun y hy=> .inr (h.lc y hy)),hE.blk h.hb (fun hm=> h.oc.ne h.hb (by decide) b hm rfl),Nat.le_trans h.bl hE.size,how,h.kc.ext hE (fun y hy=> ?_),h.od.ext hE (fun y hy hy2=> ?_),fun y hy=> ?_,h.ld⟩
 ·obtain⟨c,hc⟩:=h.oc.tag y hy
  rw [d_ hc];decide
 ·obtain⟨c,hc⟩:=h.oc.tag y hy2
  exact h.od.ne hc (by decide) y hy rfl
 ·rcases hn y hy with h1 | h1
  ·exact h.lc y h1
  ·have:=h.bl;omega
theorem SR.app2 {B b:Nat} {cv dv:Slc2} {u1 u2 v':Value} {L1:List Slc2} {L2 L:List Int} {z:List (Slc2×List UInt8)} (h:SR w1 W B b cv dv u1 u2 L1 L2 z) (how:EI.Ow 3 W' v' L) (hE:Ext (blkL u2) W W') (hn:Near W u2 v'):SR w1 W' B b cv dv u1 v' L1 L z:=by
 refine⟨h.ext.trans' hE (fun _ h=> .inl h) (fun y hy=> .inr (h.ld y hy)),hE.blk h.hb (fun hm=> h.od.ne h.hb (by decide) b hm rfl),Nat.le_trans h.bl hE.size,h.oc.ext hE (fun y hy hy2=> ?_),h.kc.ext hE (fun y hy=> ?_),how,h.lc,fun y hy=> ?_⟩
 ·obtain⟨c,hc⟩:=h.od.tag y hy2
  exact h.oc.ne hc (by decide) y hy rfl
 ·obtain⟨c,hc⟩:=h.od.tag y hy
  rw [d_ hc];decide
 ·rcases hn y hy with h1 | h1
  ·exact h.ld y h1
  ·have:=h.bl;omega
theorem keepI {u1 v:Value} {L1:List Slc2} {xs:List Int} (h:EI.Ow 3 W v xs) (h2:ES.Ow 158 W u1 L1) (hE:Ext (blkL u1) W W'):EI.Ow 3 W' v xs:=h.ext hE (fun y hy hy2=> by
 obtain⟨c,hc⟩:=h2.tag y hy2
 exact h.ne hc (by decide) y hy rfl)
theorem one_owS (W0:World) (x:Slc2):ES.Ow 158 (W0.alloc (.cells #[.slice x.1 x.2.1 x.2.2] 158)) (.slice (some ⟨W0.heap.size,0,none⟩) 1 1) [x]:= .inr ⟨W0.heap.size,0,1,[x],rfl,heap_alloc_new _ _,by simp,by simp,rfl⟩
theorem gJ_ (W0:World) (x:Int):EI.Ow 3 (W0.alloc (.cells #[.int .i64 x] 3)) (.slice (some ⟨W0.heap.size,0,none⟩) 1 1) [x]:= .inr ⟨W0.heap.size,0,1,[x],rfl,heap_alloc_new _ _,by simp,by simp,rfl⟩
theorem SR.cells {B b:Nat} {cv dv:Slc2} {u1 u2:Value} {L1:List Slc2} {L2:List Int} {z:List (Slc2×List UInt8)} (h:SR w1 W B b cv dv u1 u2 L1 L2 z):W.cell? ⟨b,0,none⟩=some (.slice cv.1 cv.2.1 cv.2.2)/\W.cell? ⟨b,1,none⟩=some (.slice dv.1 dv.2.1 dv.2.2):=
 ⟨by rw [cell_of_row _ _ 0 _ _ _ h.hb];rfl,by rw [cell_of_row _ _ 1 _ _ _ h.hb];rfl⟩
theorem SQ.ext0 {B b:Nat} {cv dv:Slc2} {zc:List (Slc2×List UInt8)} {ds:List Int} (h:SQ w1 W B b cv dv zc ds) (he:Ext [] W W'):SQ w1 W' B b cv dv zc ds:=
 ⟨h.ext.andThen he,he.blk h.hb (by simp),h.oc.ext0 he,h.kc.ext he (by simp),h.od.ext0 he,h.lc,h.ld⟩
theorem SQ.start {B b:Nat} {cv dv:Slc2} {zc:List (Slc2×List UInt8)} {ds:List Int} (h:SQ w1 W B b cv dv zc ds) {x:Slc2×List UInt8} (hx:x.1.2.1=128/\x.2.length=128/\Sec W B x.1 x.2):SR w1 W B b cv dv (.slice cv.1 cv.2.1 cv.2.2) (.slice dv.1 dv.2.1 dv.2.2) (zc.map (·.1)) ds (zc++ [x]):=
 ⟨h.ext,h.hb,h.ext.size,h.oc,h.kc.append (fun z hz=> by simp at hz;subst hz;exact hx),h.od,h.lc,h.ld⟩
theorem SR.done {B b:Nat} {cv dv cu du:Slc2} {L2:List Int} {z:List (Slc2×List UInt8)} (h:SR w1 W B b cv dv (.slice cu.1 cu.2.1 cu.2.2) (.slice du.1 du.2.1 du.2.2) (z.map (·.1)) L2 z):
  SQ w1 ((W.setCell ⟨b,0,none⟩ (.slice cu.1 cu.2.1 cu.2.2)).setCell ⟨b,1,none⟩ (.slice du.1 du.2.1 du.2.2)) B b cu du z L2:=by
 have hE:Ext [b] W ((W.setCell ⟨b,0,none⟩ (.slice cu.1 cu.2.1 cu.2.2)).setCell ⟨b,1,none⟩ (.slice du.1 du.2.1 du.2.2)):=((Ext.refl [b] W).setCell (.inl (by simp)) _).setCell (.inl (by simp)) _
 have hb2:=heap_setCell_same _ b 1 _ _ (.slice du.1 du.2.1 du.2.2) (heap_setCell_same W b 0 _ _ (.slice cu.1 cu.2.1 cu.2.2) h.hb)
 have ht:=d_ h.hb
 exact⟨h.ext.trans hE,hb2,h.oc.ext hE (fun y hy=> by simpa using h.oc.ne h.hb (by decide) y hy),h.kc.ext hE (fun y hy=> by simp at hy;subst hy;rw [ht];decide),h.od.ext hE (fun y hy=> by simpa using h.od.ne h.hb (by decide) y hy),h.lc,h.ld⟩
theorem LayOf.row_inv {P:List UInt8} {l:Nat} (h:LayOf k P l zs) (hl:l≠0): ∃p1 p2 p3 rest,zs=p1::p2::p3::(az_ P (min l (k+1))++rest)/\LayOf k (P.drop (128*min l (k+1))) (l - min l (k+1)) rest:=by
 cases h with
 | nil P=> exact(hl rfl).elim
 | row P l p1 p2 p3 rest _ h1=> exact⟨p1,p2,p3,rest,rfl,h1⟩
def gW_ (k:Nat) (P:List UInt8) (l:Nat) (w:World) (e:Ending) (w':World):Prop:= ∃(v:Value) (ss:List (Str×List (List UInt8))),e= .returned (.tuple #[v,.int .i64 0])/\EST.Ow 302 w' v (ss.map (·.1))/\(∀x∈ss,StrOk w' w.heap.size x.1 x.2)/\StripesOf k P l (ss.map (·.2))/\ss.length<=8/\(∀y∈blkL v,w.heap.size<=y)/\Ext [] w w'
def Stands (ws:List (Nat×Nat×List UInt8)) (D F addr:Nat) (zs:List (List UInt8)):Prop:= ∀i z,zs[i]? =some z->z.length=128/\ ∃j,hU_ ws ((addr+i) % D) (F+(addr+i) / D) j z
theorem gV_ (a r gg k S F addr size:Nat) (ws:List (Nat×Nat×List UInt8)) (P:List UInt8) (zs:List (List UInt8)) (w:World) (hr:RackR w r gg (k+4) S ws) (ha:ArrR w a r (k+4) F) (hk1:1<=k) (hk:k<=8) (hS:S<=2000) (hF:F<=S) (h1:1<=size) (h2:size<=1024) (had:addr+B_ k size<=(k+4)*(S - F)) (hlay:LayOf k P ((size+127) / 128) zs) (hst:Stands ws (k+4) F addr zs) (hwl:ws.length<=1000000):
  Calls Tryz.prog 160 #[.pointer (some ⟨a,0,none⟩),.int .i64 addr,.int .i64 size] w (gW_ k P ((size+127) / 128) w):=by
 obtain⟨HR,HA⟩:=h_2 hr ha
 have hm:(k+4)*(S - F)<=12*2000:=Nat.mul_le_mul (by omega) (by omega)
 have hzl:addr+zs.length<=(k+4)*(S - F):=by
  have h3:=hlay.len 0
  rw [<-dg_] at h3
  omega
 have hrl:=dv_ k ((size+127) / 128) (addr:Int)
 obtain⟨l0,hl0⟩: ∃l,l=(size+127) / 128:=⟨_,rfl⟩
 rw [<-hl0] at hlay hrl ⊢
 have hl8:l0<=8:=by omega
 obtain⟨CC,hCC⟩: ∃C,C=(k+4)*(S - F):=⟨_,rfl⟩
 rw [<-hCC] at hzl hm
 obtain⟨HL0,HCC,HLAY,HST⟩:=h_4 hl0 hCC hlay hst
 clear hr ha hlay hst hl0 had hCC
 go_enter Tryz.func160,Tryz.ntmps160
 go_wp2_with fail
 refine(fg_ a r k F addr size w HA.out (by omega) (by omega) (by omega) h1 h2).mono ?_
 rintro e W1 ⟨v1,rfl,how1,hn1,hE1⟩
 rw [<-HL0.out] at how1
 obtain⟨p1,c1,rfl,_⟩:=how1.rd.len_eq
 obtain⟨rs,hrs⟩: ∃rs,rs=ax_ k (addr:Int) l0:=⟨_,rfl⟩
 rw [<-hrs] at how1 hrl ⊢
 obtain⟨nr,hnr⟩: ∃n,n=rs.length:=⟨_,rfl⟩
 rw [<-hnr] at how1 hrl ⊢
 obtain⟨HRS,HNR⟩:=h_2 hrs hnr
 have HO1:=hi_ how1.rd
 have HR1:=hi_ (HR.out.ext0 hE1)
 have HA1:=hi_ (HA.out.ext0 hE1)
 have hB1:=hE1.size
 have HE1:=hi_ hE1
 obtain⟨B,hB⟩: ∃B,B=w.heap.size:=⟨_,rfl⟩
 rw [<-hB] at hB1
 have HB:=hi_ hB
 clear how1 hn1 hE1 hrs hnr hB HR HA
 go_wp2_with fail
 go_loopw [8,10,11,12,13,14,15,16,17,23] (fun ov _ _ _ _ _ _ _ _ iv wr=> ∃(q l off:Nat) (P':List UInt8) (zr:List (List UInt8)) (ss:List (Str×List (List UInt8))),q<=nr/\iv= .int .i64 q/\l<=l0/\off+zr.length=zs.length/\ss.length=q/\Ext [] W1 wr/\(∃po co,ov= .slice po q co)/\Hid (rs.drop q=ax_ k ((addr+off:Nat):Int) l)/\Hid (zs.drop off=zr/\LayOf k P' l zr)/\Hid (EST.Ow 302 wr ov (ss.map (·.1))/\(∀x∈ss,StrOk wr B x.1 x.2)/\ ∀y∈blkL ov,W1.heap.size<=y)/\Hid (∀rest,StripesOf k P' l rest->StripesOf k P l0 (ss.map (·.2)++rest))) (fun _ _ _ _ _ _ _ _ _ iv _=> nr - (intOf iv).toNat)
 case atStart=> exact⟨0,l0,0,P,zs,[],by omega,rfl,by omega,by omega,rfl,Ext.refl _ _,⟨none,0,rfl⟩,HRS,hi_ ⟨rfl,HLAY.out⟩,hi_ ⟨.inl ⟨rfl,rfl⟩,(fun x hx=> by cases hx),by simp [blkL]⟩,hi_ (fun rest h=> h)⟩
 case round=>
  obtain⟨q,l,off,P',zr,ss,hq,rfl,hll,hof,hssl,hE,⟨po,co,rfl⟩,HDR,HZ,HO,HL⟩:=hrel
  by_cases hlt:q < nr
  ·have z1:(q:Int) < (nr:Int):=by omega
   obtain⟨g1,o1,rfl⟩: ∃g o,p1=some ⟨g,o,none⟩:=by
    rcases HO1.out with ⟨_,h⟩ | ⟨g,o,c,h,_⟩
    ·have:=HNR.out;rw [h] at this;simp at this;omega
    ·simp only [Value.slice.injEq] at h;exact⟨g,o,h.1⟩
   obtain⟨hm1,hm2⟩:=E_ (HO1.out.ext0 hE) q (by rw [<-HNR.out];exact hlt)
   have hdr:rs.drop q=rs.getD q (0,0)::rs.drop (q+1):=by
    rw [List.drop_eq_getElem_cons (by rw [<-HNR.out];exact hlt)]
    congr 1
    have:=HNR.out
    simp [List.getD,show q < rs.length by omega]
   have hl1:l≠0:=by
    rintro rfl
    have h:=HDR.out
    rw [ao_,hdr] at h
    cases h
   have hrow:=HDR.out
   rw [Y_ k _ l hl1,hdr] at hrow
   simp only [List.cons.injEq] at hrow
   obtain⟨hx1,hrest⟩:=hrow
   rw [hx1] at hm1 hm2
   simp only at hm1 hm2
   obtain⟨q1,q2,q3,zrest,hzr,hlay2⟩:=HZ.out.2.row_inv hl1
   have M1:1<=min l (k+1):=by omega
   have M2:min l (k+1)<=l:=by omega
   have M3:min l (k+1)<=8:=by omega
   have hstr: ∀rest,StripesOf k (P'.drop (128*min l (k+1))) (l - min l (k+1)) rest->StripesOf k P' l ((az_ P' (min l (k+1))++ [q1,q2,q3])::rest):=fun rest h=> .row P' l q1 q2 q3 rest hl1 h
   obtain⟨M,hM⟩: ∃M,M=min l (k+1):=⟨_,rfl⟩
   rw [<-hM] at hm2 M1 M2 M3 hrest hzr hlay2 hstr
   have hzlen:zr.length=3+(M+zrest.length):=by rw [hzr];simp [W_];omega
   obtain⟨A,hAA⟩: ∃A,A=addr+off:=⟨_,rfl⟩
   rw [<-hAA] at hm1 hrest
   have hA1:A+zr.length<=CC:=by omega
   obtain⟨HAA,HZR,HLAY2,HSTR,HREST⟩:=h_5 hAA hzr hlay2 hstr hrest
   clear hdr hx1 hrest hzr hlay2 hstr hM hAA
   obtain⟨N3,hN3⟩: ∃n,n=M+3:=⟨_,rfl⟩
   have w3:IntKind.i64.wrap ((M:Int)+3)=(N3:Int):=by rw [IntWalk.i64_in _ (by omega)];omega
   have w3':(M:Int)+3=(N3:Int):=by omega
   have HN3:=hi_ hN3
   have n4:4<=N3/\N3<=11:=by omega
   obtain⟨T,hT⟩: ∃T,T=az_ P' M++ [q1,q2,q3]:=⟨_,rfl⟩
   have hTl:T.length=N3:=by rw [hT];simp [W_];omega
   have hTg: ∀i < N3,T[i]? =zr[(i+3) % N3]? :=fun i hi=> by
    rw [hT,HZR.out,hN3]
    have h:=turn_get (az_ P' M) q1 q2 q3 zrest i (by rw [W_];omega)
    rw [W_] at h
    exact h
   obtain⟨HT,HTL,HTG⟩:=h_3 hT hTl hTg
   rw [<-hT] at HSTR
   have HRr:=hi_ (HR1.out.ext0 hE)
   have HAr:=hi_ (HA1.out.ext0 hE)
   clear hT hTl hTg hN3
   go_wp2_with fail
   have hbr:=heap_alloc_new wr (.cells #[.int .i64 A,.int .i64 M] 131)
   have hbs:=heap_alloc_new (wr.alloc (.cells #[.int .i64 A,.int .i64 M] 131)) (.cells #[.slice none 0 0,.slice none 0 0] 302)
   have hEa:=(Ext.refl [] wr).alloc (.cells #[.int .i64 A,.int .i64 M] 131)
   have hEb:=(Ext.refl [] (wr.alloc (.cells #[.int .i64 A,.int .i64 M] 131))).alloc (.cells #[.slice none 0 0,.slice none 0 0] 302)
   have hbr2:=hEb.blk hbr (by simp)
   have hEab:=hEa.trans hEb
   have esz:(wr.alloc (.cells #[.int .i64 A,.int .i64 M] 131)).heap.size=wr.heap.size+1:=by simp
   rw [esz] at hbs
   obtain⟨br,hbre⟩: ∃x,x=wr.heap.size:=⟨_,rfl⟩
   rw [<-hbre] at hbr2 hbs
   simp only [<-hbre]
   have lW1:W1.heap.size<=br:=by have:=hE.size;omega
   obtain⟨HBR,HBS,HEAB,HBRE⟩:=h_4 hbr2 hbs hEab hbre
   clear hbr hbs hEa hEb hbr2 hEab esz hm1 hm2 hbre
   revert HBR HBS HEAB
   generalize World.alloc (World.alloc _ _) _=w1
   intro HBR HBS HEAB
   have lbs:=g_ HBS.out
   go_loopw [12,13,14,15,16,17,30] (fun _ _ _ _ _ _ iv W=> ∃(i:Nat) (cv dv:Slc2) (zc:List (Slc2×List UInt8)) (ds:List Int),i<=N3/\iv= .int .i64 i/\zc.length=i/\ds.length=i/\Hid (SQ w1 W B (br+1) cv dv zc ds)/\Hid (zc.map (·.2)=T.take i)) (fun _ _ _ _ _ _ iv _=> N3 - (intOf iv).toNat)
   case atStart=> exact⟨0,(none,0,0),(none,0,0),[],[],by omega,rfl,rfl,rfl,hi_ ⟨Ext.refl _ _,HBS.out,.inl ⟨rfl,rfl⟩,(fun z hz=> by cases hz),.inl ⟨rfl,rfl⟩,by simp [blkL],by simp [blkL]⟩,hi_ (by simp)⟩
   case round=>
    obtain⟨i,cv,dv,zc,ds,hi,rfl,hzcl,hdsl,HQ,HZC⟩:=hrel
    have hext:=HQ.out.ext
    have b0:wr.cell? ⟨br,0,none⟩=some (.int .i64 A):=hext.cell (show w1.cell? ⟨br,0,none⟩=some (.int .i64 A) by rw [cell_of_row _ _ 0 _ _ _ HBR.out];rfl) (by simp)
    have b1:wr.cell? ⟨br,1,none⟩=some (.int .i64 M):=hext.cell (show w1.cell? ⟨br,1,none⟩=some (.int .i64 M) by rw [cell_of_row _ _ 1 _ _ _ HBR.out];rfl) (by simp)
    have bsne: ∀(y:Nat) (c:Array Value) (Ty:TypeId) (f:Nat×Nat),w1.heap[y]? =some (.cells c Ty f)->Ty≠302->y∉ [br+1]:=fun y c Ty f hy hT hm=> by
     simp at hm
     subst hm
     rw [HBS.out] at hy
     simp only [Option.some.injEq,Obj.cells.injEq] at hy
     exact hT hy.2.1.symm
    have HBN:=hi_ bsne
    clear bsne
    by_cases hin:i < N3
    ·have z2:(i:Int) < (N3:Int):=by omega
     have hmod:(i+3) % N3 < N3:=Nat.mod_lt _ (by omega)
     have e1:IntKind.i64.wrap ((i:Int)+3)=((i+3:Nat):Int):=by rw [IntWalk.i64_in _ (by omega)];omega
     have e1':(i:Int)+3=((i+3:Nat):Int):=by omega
     have e2:=tmodD (i+3) N3
     obtain⟨m,hm'⟩: ∃m,m=(i+3) % N3:=⟨_,rfl⟩
     rw [<-hm'] at e2 hmod
     have hcell:T[i]? =zr[m]? :=by rw [hm'];exact HTG.out i hin
     have hmz:m < zr.length:=by omega
     have e3:IntKind.i64.wrap ((A:Int)+(m:Int))=((A+m:Nat):Int):=by rw [IntWalk.i64_in _ (by omega)];omega
     have e3':(A:Int)+(m:Int)=((A+m:Nat):Int):=by omega
     obtain⟨i3,hi3⟩: ∃x,x=i+3:=⟨_,rfl⟩
     rw [<-hi3] at e1 e1' e2
     obtain⟨c,hc⟩: ∃x,x=A+m:=⟨_,rfl⟩
     rw [<-hc] at e3 e3'
     have z3: ¬((N3:Int)=0):=by omega
     have z4:((N3:Int)==0)=false:=beq_eq_false_iff_ne.2 (by omega)
     have hcb:c < CC:=by omega
     obtain⟨zb,hzb⟩: ∃z,zr[m]? =some z:=⟨zr[m],List.getElem?_eq_getElem hmz⟩
     have hzs:zs[off+m]? =some zb:=by
      have h:=HZ.out.1
      rw [<-h,List.getElem?_drop] at hzb
      exact hzb
     obtain⟨hzbl,jn,hnew⟩:=HST.out _ _ hzs
     rw [show addr+(off+m)=c by have:=HAA.out;omega] at hnew
     have HNEW:=hi_ hnew
     have HTI:Hid (T[i]? =some zb):=hi_ (hcell.trans hzb)
     obtain⟨HC,HM',HI3⟩:=h_3 hc hm' hi3
     clear hcell hzb hzs hnew hc hm' hi3
     go_wp2_with fail
     go_big_quiet (fail)
     go_wp2_with fail
     have tbs:=d_ HBS.out
     have hex':ExtT [br+1] [] w1 wr:=ExtT.of hext (by simp)
     have hdq:Ext [] wr (wr.drewN nq):=(Ext.refl [] _).drewN _
     have hrk:RackR (wr.drewN nq) r gg (k+4) S ws:=by
      refine((HRr.out.ext0 HEAB.out).extT hex' ?_ ?_ ?_ (by simp)).ext0 hdq
      ·simpa using ag_ (HRr.out.ext0 HEAB.out).tag.1 tbs (by decide)
      ·simpa using ag_ (HRr.out.ext0 HEAB.out).tag.2 tbs (by decide)
      ·simp only [List.mem_singleton,forall_eq,tbs];decide
     have har:ArrR (wr.drewN nq) a r (k+4) F:=by
      have h0:ArrR w1 a r (k+4) F:=HAr.out.ext0 HEAB.out
      refine ArrR.ext0 (h0.extT hex' ?_ (by simp)) hdq
      simpa using ag_ h0.tag tbs (by decide)
     have HQ1:=hi_ (HQ.out.ext0 hdq)
     obtain⟨HRK,HAR⟩:=h_2 hrk har
     clear hrk har hex' tbs hext b0 b1 HQ hdq e1 e1' e2 e3 e3' z3 z4
     revert HQ1 HRK HAR
     generalize World.drewN _ _=W1'
     intro HQ1 HRK HAR
     refine(gp_ a r (k+4) F c _ HAR.out (by omega) (by omega) (by omega)).mono ?_
     rintro e W2 ⟨rfl,hE2⟩
     have hcd:c % (k+4) < k+4:=Nat.mod_lt _ (by omega)
     have hcs:F+c / (k+4) < S:=by
      have h0:c < (k+4)*(S - F):=by rw [<-HCC.out];exact hcb
      have:c / (k+4) < S - F:=Nat.div_lt_of_lt_mul h0
      omega
     have hrd:=rkread_c r gg (k+4) S ws (c % (k+4)) (F+c / (k+4)) jn zb W2 (HRK.out.ext0 hE2) hcd hcs HNEW.out hwl (by omega)
     obtain⟨dd,hdd⟩: ∃x,x=c % (k+4):=⟨_,rfl⟩
     obtain⟨aa,haa⟩: ∃x,x=F+c / (k+4):=⟨_,rfl⟩
     rw [<-hdd,<-haa] at hrd
     rw [<-hdd,<-haa]
     have HRD:=hi_ hrd
     have k0:W2.cell? ⟨a,0,none⟩=some (.pointer (some ⟨r,0,none⟩)):=hE2.cell (show W1'.cell? ⟨a,0,none⟩=_ by rw [cell_of_row _ a 0 _ _ _ HAR.out];rfl) (by simp)
     have HQ2:=hi_ (HQ1.out.ext0 hE2)
     clear hrd hcd hcs hE2 HQ1 hdd haa
     go_wp2_with fail
     refine HRD.out.mono ?_
     rintro e W3 ⟨v6,rfl,ho6,hn6,hE3⟩
     obtain⟨p6,c6,rfl,_⟩:=ho6.rd.len_eq
     rw [hzbl] at ho6 hn6 ⊢
     have hsz3:B<=W2.heap.size:=by
      have h1:=HQ2.out.ext.size
      have h2:=HEAB.out.size
      have h3:=HBRE.out
      omega
     have hsec:Sec W3 B (p6,128,c6) zb:=⟨ho6.rd,fun y hy=> ⟨by have:=hn6 y hy;omega,by obtain⟨x,hx⟩:=ho6.tag y hy;exact d_ hx⟩⟩
     have hsr:=(HQ2.out.ext0 hE3).start (x:=((p6,128,c6),zb)) ⟨rfl,hzbl,hsec⟩
     have HSR:=hi_ hsr
     clear ho6 hn6 hsec hsr hE3 HQ2 k0 hsz3
     go_wp2_with fail
     have hD:=(Ext.refl [] W3).drew
     have HSD:=hi_ (HSR.out.ext0 hD)
     clear HSR
     revert HSD
     obtain⟨V0,hV0⟩: ∃V,V=W3.drew:=⟨_,rfl⟩
     rw [<-hV0]
     intro HSD
     refine e_ (fun W=> W.cell? ⟨br+1,0,none⟩=some (.slice cv.1 cv.2.1 cv.2.2)/\W.cell? ⟨br+1,1,none⟩=some (.slice dv.1 dv.2.1 dv.2.2)) (fun i=> i==1 || i==3 || i==4 || i==6 || i==8 || i==9) (by kernel_rfl) (by rw [<-hV0];exact HSD.out.cells) (fun hS=> ?_)
     rw [<-hV0] at hS ⊢
     clear hV0 hD
     refine PUq 0 ?_;(try go_frame)
     refine PUq 2 ?_;(try go_frame)
     refine PUq 5 ?_;(try go_frame)
     refine PUq 7 ?_;(try go_frame)
     refine ta 1 ?_;(try go_frame)
     refine ta 6 ?_;(try go_frame)
     clear hS
     have hlz:(zc.map (·.1)++ [((p6,128,c6):Slc2)]).length=i+1:=by rw [List.length_append,List.length_map,hzcl];rfl
     have hld:(ds++ [(dd:Int)]).length=i+1:=by rw [List.length_append,hdsl];rfl
     obtain⟨HLZ,HLD⟩:=h_2 hlz hld
     clear hlz hld
     refine an_ (i:=3) (j:=8) (by kernel_rfl) rfl rfl (fun K hK=> ?_) (fun K hK=> ?_)
     ·refine iw rfl ?_
      go_simp
      have hEa:Ext [] V0 (V0.alloc (.cells #[.slice p6 128 c6] 158)):=(Ext.refl [] _).alloc _
      have HS1:=hi_ ((HSD).out.ext0 hEa)
      have HA1:=hi_ (one_owS V0 (p6,128,c6))
      have hEk:Ext [] V0 (V0.alloc (.cells #[.slice p6 128 c6] 158)):=hEa
      refine hK.out _ _ (fun _=> (HS1).out.cells) (fun _=> ?_)
      clear hK hEa
      revert HS1 HA1 hEk
      obtain⟨b1,hb1⟩: ∃x,x=(V0).heap.size:=⟨_,rfl⟩
      simp only [<-hb1]
      clear hb1
      generalize World.alloc _ _=V1
      intro HS1 HA1 hEk
      refine an_ (i:=4) (j:=8) (by kernel_rfl) rfl rfl (fun K hK=> ?_) (fun K hK=> ?_)
      ·refine iw rfl ?_
       refine b_ (s:= .tmp 66) (x:= .tmp 68) (E:=ES) (T:=158) (zero:=(none,0,0)) (bytes:=24) (v:= .slice cv.1 cv.2.1 cv.2.2) (xs:=zc.map (·.1)) (ys:= [(p6,128,c6)]) tiS Tryz.underlying240 Tryz.underlying240 rfl rfl rfl (HS1).out.oc (HA1).out.rd (by rw [List.length_map,hzcl];simp;omega) (by rw [List.length_map,hzcl];simp;omega) ?_
       intro v7 V2 how7 hE7 hnear7 _
       have HS2:=hi_ ((HS1).out.app1 how7 hE7 hnear7)
       obtain⟨p7,c7,rfl,_⟩:=how7.rd.len_eq
       rw [HLZ.out] at HS2 ⊢
       refine hK.out _ _ (fun _=> (HS2).out.cells) (fun _=> ?_)
       clear hK how7 hnear7
       refine PUq 10 ?_;(try go_frame)
       simp only [zA,zB,zC,zD,zE]
       refine a_ (i:=8) (by kernel_rfl) rfl (fun K hK=> ?_)
       refine iw rfl ?_
       go_simp
       have hEa:Ext [] V2 (V2.alloc (.cells #[.int .i64 dd] 3)):=(Ext.refl [] _).alloc _
       have HS3:=hi_ ((HS2).out.ext0 hEa)
       have HB3:=hi_ (gJ_ V2 (dd:Int))
       have hEk:Ext [] V2 (V2.alloc (.cells #[.int .i64 dd] 3)):=hEa
       refine hK.out _ _ (fun _=> (HS3).out.cells) (fun _=> ?_)
       clear hK hEa
       revert HS3 HB3 hEk
       obtain⟨b2,hb2⟩: ∃x,x=(V2).heap.size:=⟨_,rfl⟩
       simp only [<-hb2]
       clear hb2
       generalize World.alloc _ _=V3
       intro HS3 HB3 hEk
       refine a_ (i:=9) (by kernel_rfl) rfl (fun K hK=> ?_)
       refine iw rfl ?_
       refine b_ (s:= .tmp 71) (x:= .tmp 73) (E:=EI) (T:=3) (zero:=0) (bytes:=8) (v:= .slice dv.1 dv.2.1 dv.2.2) (xs:=ds) (ys:= [(dd:Int)]) tiI Tryz.underlying208 Tryz.underlying208 rfl rfl rfl (HS3).out.od (HB3).out.rd (by rw [hdsl];simp;omega) (by rw [hdsl];simp;omega) ?_
       intro v8 V4 how8 hE8 hnear8 _
       have HS4:=hi_ ((HS3).out.app2 how8 hE8 hnear8)
       obtain⟨p8,c8,rfl,_⟩:=how8.rd.len_eq
       rw [HLD.out] at HS4 ⊢
       refine hK.out _ _ (fun _=> (HS4).out.cells) (fun _=> ?_)
       clear hK how8 hnear8
       have hez:zc.map (·.1)++ [((p6,128,c6):Slc2)]=(zc++ [(((p6,128,c6):Slc2),zb)]).map (·.1):=by simp
       rw [hez] at HS4
       clear hez
       have HQ3:=hi_ ((HS4).out.done (cu:=(p7,i+1,c7)) (du:=(p8,i+1,c8)))
       obtain⟨s0,s1⟩:=(HS4).out.cells
       have hfz: ∀j,(V4).frozen? ⟨br+1,j,none⟩=false:=fun j=> frozen_of_row _ _ _ _ _ (HS4).out.hb
       refine a_ (i:=11) (by kernel_rfl) rfl (fun K hK=> ?_)
       refine iw rfl ?_
       go_simp
       refine nk hK ?_
       clear hK
       refine PUq 12 ?_;(try go_frame)
       simp only [zA,zB,zC,zD,zE]
       refine a_ (i:=13) (by kernel_rfl) rfl (fun K hK=> ?_)
       refine iw rfl ?_
       go_simp
       refine nk hK ?_
       refine c_ (by kernel_rfl) ?_ _
       clear hK s0 s1 hfz
       go_wp2_with fail
       go_roundw
       case rel=> exact⟨i+1,(p7,i+1,c7),(p8,i+1,c8),_,_,by omega,by go_num,by rw [List.length_append,hzcl];rfl,by rw [List.length_append,hdsl];rfl,HQ3,hi_ (by
        rw [List.map_append,HZC.out,List.take_succ_eq_append_getElem (by rw [HTL.out];exact hin)]
        have h:=HTI.out
        rw [List.getElem?_eq_getElem (by rw [HTL.out];exact hin)] at h
        rw [Option.some.inj h]
        rfl)⟩
       case measure=> simp [intOf];omega
      ·refine iw rfl ?_
       go_simp
       have hEa:Ext [] V1 (V1.alloc (.cells #[.int .i64 dd] 3)):=(Ext.refl [] _).alloc _
       have HS2:=hi_ ((HS1).out.ext0 hEa)
       have HB2:=hi_ (gJ_ V1 (dd:Int))
       have hEk:Ext [] V1 (V1.alloc (.cells #[.int .i64 dd] 3)):=hEa
       refine hK.out _ _ (fun _=> (HS2).out.cells) (fun _=> ?_)
       clear hK hEa
       revert HS2 HB2 hEk
       obtain⟨b2,hb2⟩: ∃x,x=(V1).heap.size:=⟨_,rfl⟩
       simp only [<-hb2]
       clear hb2
       generalize World.alloc _ _=V2
       intro HS2 HB2 hEk
       have HA2:=hi_ (HA1.out.ext0 hEk)
       clear hEk HA1
       refine a_ (i:=4) (by kernel_rfl) rfl (fun K hK=> ?_)
       refine iw rfl ?_
       refine b_ (s:= .tmp 66) (x:= .tmp 68) (E:=ES) (T:=158) (zero:=(none,0,0)) (bytes:=24) (v:= .slice cv.1 cv.2.1 cv.2.2) (xs:=zc.map (·.1)) (ys:= [(p6,128,c6)]) tiS Tryz.underlying240 Tryz.underlying240 rfl rfl rfl (HS2).out.oc (HA2).out.rd (by rw [List.length_map,hzcl];simp;omega) (by rw [List.length_map,hzcl];simp;omega) ?_
       intro v7 V3 how7 hE7 hnear7 _
       have HS3:=hi_ ((HS2).out.app1 how7 hE7 hnear7)
       obtain⟨p7,c7,rfl,_⟩:=how7.rd.len_eq
       rw [HLZ.out] at HS3 ⊢
       refine hK.out _ _ (fun _=> (HS3).out.cells) (fun _=> ?_)
       clear hK how7 hnear7
       refine PUq 10 ?_;(try go_frame)
       simp only [zA,zB,zC,zD,zE]
       have HB3:=hi_ (keepI HB2.out HS2.out.oc hE7)
       clear HB2 hE7
       refine a_ (i:=9) (by kernel_rfl) rfl (fun K hK=> ?_)
       refine iw rfl ?_
       refine b_ (s:= .tmp 71) (x:= .tmp 73) (E:=EI) (T:=3) (zero:=0) (bytes:=8) (v:= .slice dv.1 dv.2.1 dv.2.2) (xs:=ds) (ys:= [(dd:Int)]) tiI Tryz.underlying208 Tryz.underlying208 rfl rfl rfl (HS3).out.od (HB3).out.rd (by rw [hdsl];simp;omega) (by rw [hdsl];simp;omega) ?_
       intro v8 V4 how8 hE8 hnear8 _
       have HS4:=hi_ ((HS3).out.app2 how8 hE8 hnear8)
       obtain⟨p8,c8,rfl,_⟩:=how8.rd.len_eq
       rw [HLD.out] at HS4 ⊢
       refine hK.out _ _ (fun _=> (HS4).out.cells) (fun _=> ?_)
       clear hK how8 hnear8
       have hez:zc.map (·.1)++ [((p6,128,c6):Slc2)]=(zc++ [(((p6,128,c6):Slc2),zb)]).map (·.1):=by simp
       rw [hez] at HS4
       clear hez
       have HQ3:=hi_ ((HS4).out.done (cu:=(p7,i+1,c7)) (du:=(p8,i+1,c8)))
       obtain⟨s0,s1⟩:=(HS4).out.cells
       have hfz: ∀j,(V4).frozen? ⟨br+1,j,none⟩=false:=fun j=> frozen_of_row _ _ _ _ _ (HS4).out.hb
       refine a_ (i:=11) (by kernel_rfl) rfl (fun K hK=> ?_)
       refine iw rfl ?_
       go_simp
       refine nk hK ?_
       clear hK
       refine PUq 12 ?_;(try go_frame)
       simp only [zA,zB,zC,zD,zE]
       refine a_ (i:=13) (by kernel_rfl) rfl (fun K hK=> ?_)
       refine iw rfl ?_
       go_simp
       refine nk hK ?_
       refine c_ (by kernel_rfl) ?_ _
       clear hK s0 s1 hfz
       go_wp2_with fail
       go_roundw
       case rel=> exact⟨i+1,(p7,i+1,c7),(p8,i+1,c8),_,_,by omega,by go_num,by rw [List.length_append,hzcl];rfl,by rw [List.length_append,hdsl];rfl,HQ3,hi_ (by
        rw [List.map_append,HZC.out,List.take_succ_eq_append_getElem (by rw [HTL.out];exact hin)]
        have h:=HTI.out
        rw [List.getElem?_eq_getElem (by rw [HTL.out];exact hin)] at h
        rw [Option.some.inj h]
        rfl)⟩
       case measure=> simp [intOf];omega
     ·refine iw rfl ?_
      go_simp
      have hEa:Ext [] V0 (V0.alloc (.cells #[.int .i64 dd] 3)):=(Ext.refl [] _).alloc _
      have HS1:=hi_ ((HSD).out.ext0 hEa)
      have HB1:=hi_ (gJ_ V0 (dd:Int))
      have hEk:Ext [] V0 (V0.alloc (.cells #[.int .i64 dd] 3)):=hEa
      refine hK.out _ _ (fun _=> (HS1).out.cells) (fun _=> ?_)
      clear hK hEa
      revert HS1 HB1 hEk
      obtain⟨b2,hb2⟩: ∃x,x=(V0).heap.size:=⟨_,rfl⟩
      simp only [<-hb2]
      clear hb2
      generalize World.alloc _ _=V1
      intro HS1 HB1 hEk
      refine a_ (i:=3) (by kernel_rfl) rfl (fun K hK=> ?_)
      refine iw rfl ?_
      go_simp
      have hEa:Ext [] V1 (V1.alloc (.cells #[.slice p6 128 c6] 158)):=(Ext.refl [] _).alloc _
      have HS2:=hi_ ((HS1).out.ext0 hEa)
      have HA2:=hi_ (one_owS V1 (p6,128,c6))
      have hEk:Ext [] V1 (V1.alloc (.cells #[.slice p6 128 c6] 158)):=hEa
      refine hK.out _ _ (fun _=> (HS2).out.cells) (fun _=> ?_)
      clear hK hEa
      revert HS2 HA2 hEk
      obtain⟨b1,hb1⟩: ∃x,x=(V1).heap.size:=⟨_,rfl⟩
      simp only [<-hb1]
      clear hb1
      generalize World.alloc _ _=V2
      intro HS2 HA2 hEk
      have HB2:=hi_ (HB1.out.ext0 hEk)
      clear hEk HB1
      refine a_ (i:=4) (by kernel_rfl) rfl (fun K hK=> ?_)
      refine iw rfl ?_
      refine b_ (s:= .tmp 66) (x:= .tmp 68) (E:=ES) (T:=158) (zero:=(none,0,0)) (bytes:=24) (v:= .slice cv.1 cv.2.1 cv.2.2) (xs:=zc.map (·.1)) (ys:= [(p6,128,c6)]) tiS Tryz.underlying240 Tryz.underlying240 rfl rfl rfl (HS2).out.oc (HA2).out.rd (by rw [List.length_map,hzcl];simp;omega) (by rw [List.length_map,hzcl];simp;omega) ?_
      intro v7 V3 how7 hE7 hnear7 _
      have HS3:=hi_ ((HS2).out.app1 how7 hE7 hnear7)
      obtain⟨p7,c7,rfl,_⟩:=how7.rd.len_eq
      rw [HLZ.out] at HS3 ⊢
      refine hK.out _ _ (fun _=> (HS3).out.cells) (fun _=> ?_)
      clear hK how7 hnear7
      refine PUq 10 ?_;(try go_frame)
      simp only [zA,zB,zC,zD,zE]
      have HB3:=hi_ (keepI HB2.out HS2.out.oc hE7)
      clear HB2 hE7
      refine a_ (i:=9) (by kernel_rfl) rfl (fun K hK=> ?_)
      refine iw rfl ?_
      refine b_ (s:= .tmp 71) (x:= .tmp 73) (E:=EI) (T:=3) (zero:=0) (bytes:=8) (v:= .slice dv.1 dv.2.1 dv.2.2) (xs:=ds) (ys:= [(dd:Int)]) tiI Tryz.underlying208 Tryz.underlying208 rfl rfl rfl (HS3).out.od (HB3).out.rd (by rw [hdsl];simp;omega) (by rw [hdsl];simp;omega) ?_
      intro v8 V4 how8 hE8 hnear8 _
      have HS4:=hi_ ((HS3).out.app2 how8 hE8 hnear8)
      obtain⟨p8,c8,rfl,_⟩:=how8.rd.len_eq
      rw [HLD.out] at HS4 ⊢
      refine hK.out _ _ (fun _=> (HS4).out.cells) (fun _=> ?_)
      clear hK how8 hnear8
      have hez:zc.map (·.1)++ [((p6,128,c6):Slc2)]=(zc++ [(((p6,128,c6):Slc2),zb)]).map (·.1):=by simp
      rw [hez] at HS4
      clear hez
      have HQ3:=hi_ ((HS4).out.done (cu:=(p7,i+1,c7)) (du:=(p8,i+1,c8)))
      obtain⟨s0,s1⟩:=(HS4).out.cells
      have hfz: ∀j,(V4).frozen? ⟨br+1,j,none⟩=false:=fun j=> frozen_of_row _ _ _ _ _ (HS4).out.hb
      refine a_ (i:=11) (by kernel_rfl) rfl (fun K hK=> ?_)
      refine iw rfl ?_
      go_simp
      refine nk hK ?_
      clear hK
      refine PUq 12 ?_;(try go_frame)
      simp only [zA,zB,zC,zD,zE]
      refine a_ (i:=13) (by kernel_rfl) rfl (fun K hK=> ?_)
      refine iw rfl ?_
      go_simp
      refine nk hK ?_
      refine c_ (by kernel_rfl) ?_ _
      clear hK s0 s1 hfz
      go_wp2_with fail
      go_roundw
      case rel=> exact⟨i+1,(p7,i+1,c7),(p8,i+1,c8),_,_,by omega,by go_num,by rw [List.length_append,hzcl];rfl,by rw [List.length_append,hdsl];rfl,HQ3,hi_ (by
       rw [List.map_append,HZC.out,List.take_succ_eq_append_getElem (by rw [HTL.out];exact hin)]
       have h:=HTI.out
       rw [List.getElem?_eq_getElem (by rw [HTL.out];exact hin)] at h
       rw [Option.some.inj h]
       rfl)⟩
      case measure=> simp [intOf];omega
    ·obtain rfl:i=N3:=by omega
     have z2: ¬((i:Int) < (i:Int)):=by omega
     have s0:wr.cell? ⟨br+1,0,none⟩=some (.slice cv.1 cv.2.1 cv.2.2):=by rw [cell_of_row _ _ 0 _ _ _ HQ.out.hb];rfl
     have s1:wr.cell? ⟨br+1,1,none⟩=some (.slice dv.1 dv.2.1 dv.2.2):=by rw [cell_of_row _ _ 1 _ _ _ HQ.out.hb];rfl
     go_wp2_with (with_reducible refine f_ (d:=81) ?_)
     have hE6:Ext [] wr (wr.alloc (.cells #[.slice cv.1 cv.2.1 cv.2.2,.slice dv.1 dv.2.1 dv.2.2] 302)):=(Ext.refl [] wr).alloc _
     have hsq:=HQ.out
     have hlt5:br+1∉blkL (.slice po q co):=fun h=> by have:=HO.out.1.lt _ h;have:=HBRE.out;omega
     have ho5:EST.Ow 302 wr (.slice po q co) (ss.map (·.1)):=(HO.out.1.ext0 HEAB.out).ext hsq.ext (fun y hy hy2=> by simp at hy2;subst hy2;exact hlt5 hy)
     have hs5: ∀x∈ss,StrOk wr B x.1 x.2:=fun x hx=> ((HO.out.2.1 x hx).ext HEAB.out (by simp)).ext hsq.ext (fun y hy=> by simp at hy;subst hy;rw [d_ HBS.out];decide)
     have hE5:Ext [] W1 wr:=(hE.trans HEAB.out).trans' hsq.ext (by simp) (fun y hy=> .inr (by simp at hy;omega))
     have hnew:StrOk wr B (cv,dv) T:=⟨zc,ds,hsq.oc,hsq.kc,by rw [HZC.out,List.take_of_length_le (by rw [HTL.out];exact Nat.le_refl _)],hsq.od,by rw [hdsl,HTL.out]⟩
     have HO6:=hi_ (ho5.ext0 hE6)
     have HS6:=hi_ (fun x hx=> (hs5 x hx).ext hE6 (by simp): ∀x∈ss,_)
     have HN6:=hi_ (hnew.ext hE6 (by simp))
     have HE6:=hi_ (hE5.trans hE6)
     have hrd6:=one_rdST (T:=302) wr (cv,dv)
     clear hsq hlt5 ho5 hs5 hE5 hnew s0 s1
     refine k_ rfl fun K hK=> b_ (s:= .tmp 78) (x:= .tmp 80) (E:=EST) (T:=302) (zero:=((none,0,0),(none,0,0))) (bytes:=48) (v:= .slice po q co) (xs:=ss.map (·.1)) (ys:= [(cv,dv)]) tiST Tryz.underlying261 Tryz.underlying261 rfl rfl rfl HO6.out hrd6 (by rw [List.length_map,hssl];simp;omega) (by rw [List.length_map,hssl];simp;omega) ?_
     intro v7 W7 how7 hE7 hnear7 _
     refine hK _ _ ?_
     clear hK hrd6 hE6
     have htag: ∀y∈blkL (.slice po q co),r_ (wr.alloc (.cells #[.slice cv.1 cv.2.1 cv.2.2,.slice dv.1 dv.2.1 dv.2.2] 302)) y≠some 5/\r_ (wr.alloc (.cells #[.slice cv.1 cv.2.1 cv.2.2,.slice dv.1 dv.2.1 dv.2.2] 302)) y≠some 158/\r_ (wr.alloc (.cells #[.slice cv.1 cv.2.1 cv.2.2,.slice dv.1 dv.2.1 dv.2.2] 302)) y≠some 3:=fun y hy=> by
      obtain⟨c,hc⟩:=HO6.out.tag y hy
      rw [d_ hc]
      decide
     have hall: ∀x∈ss++ [((cv,dv),T)],StrOk W7 B x.1 x.2:=fun x hx=> by
      rcases List.mem_append.1 hx with h | h
      ·exact(HS6.out x h).ext hE7 htag
      ·simp at h;subst h;exact HN6.out.ext hE7 htag
     have hn7: ∀y∈blkL v7,W1.heap.size<=y:=fun y hy=> by
      rcases hnear7 y hy with h | h
      ·exact HO.out.2.2 y h
      ·have:=HE6.out.size;omega
     have hE07:Ext [] W1 W7:=HE6.out.trans' hE7 (by simp) (fun y hy=> .inr (HO.out.2.2 y hy))
     obtain⟨p7,c7,rfl,_⟩:=how7.rd.len_eq
     have hl7:(ss.map (·.1)++ [((cv,dv):Str)]).length=q+1:=by rw [List.length_append,List.length_map,hssl];rfl
     rw [hl7] at how7 hn7 ⊢
     have hez:ss.map (·.1)++ [((cv,dv):Str)]=(ss++ [(((cv,dv):Str),T)]).map (·.1):=by simp
     rw [hez] at how7
     have HO7:=hi_ (And.intro how7 (And.intro hall hn7))
     clear how7 hE7 hnear7 htag hall hn7 hl7 hez HO6 HS6 HN6 HE6
     go_wp2_with fail
     go_roundw
     case rel=>
      have hn3:=HN3.out
      have haa:=HAA.out
      refine⟨q+1,l - M,off+(3+M),_,zrest,ss++ [((cv,dv),T)],by omega,by go_num,by omega,by omega,by rw [List.length_append,hssl];rfl,hE07,⟨p7,c7,rfl⟩, ?_,hi_ ⟨?_,HLAY2.out⟩,HO7,hi_ (fun rest h=> ?_)⟩
      ·have h:=HREST.out
       rw [show ((A:Nat):Int)+(M:Int)+3=((addr+(off+(3+M)):Nat):Int) by omega] at h
       exact hi_ h
      ·rw [<-List.drop_drop,HZ.out.1,HZR.out]
       show (q1::q2::q3::(az_ P' M++zrest)).drop (3+M)=zrest
       rw [Nat.add_comm 3 M]
       simp only [List.drop_succ_cons]
       rw [List.drop_append_of_le_length (by rw [W_];exact Nat.le_refl _),List.drop_of_length_le (by rw [W_];exact Nat.le_refl _)]
       rfl
      ·have h1:=HL.out _ (HSTR.out rest h)
       rw [List.map_append,List.append_assoc]
       exact h1
     case measure=> simp [intOf];omega
  ·have z1: ¬((q:Int) < (nr:Int)):=by omega
   have hl0:l=0:=by
    have h:=HDR.out
    rw [List.drop_eq_nil_of_le (by have:=HNR.out;omega)] at h
    by_cases h0:l=0
    ·exact h0
    ·rw [Y_ k _ l h0] at h;cases h
   subst hl0
   have hlay:=HL.out [] (.nil _)
   rw [List.append_nil] at hlay
   have HLY:=hi_ hlay
   clear hlay
   go_wp2
   go_ret2
   have h1:=HE1.out.size
   exact⟨_,ss,rfl,HO.out.1,by rw [<-HB.out];exact HO.out.2.1,HLY.out,by omega,fun y hy=> Nat.le_trans h1 (HO.out.2.2 y hy),HE1.out.trans hE⟩
theorem sortn_c (w:World):Calls Tryz.prog 166 #[.slice none 0 0] w fun e w'=> e= .returned (.tuple #[])/\w'=w:=by
 have z2:IntKind.i64.wrap ((0:Int) - 0)=(0:Int):=IntWalk.i64_in _ (by omega)
 have hi:Calls Tryz.prog 216 #[.slice none 0 0,.int .i64 0,.int .i64 0] w fun e w'=> e= .returned (.tuple #[])/\w'=w:=by
  go_enter Tryz.func216,Tryz.ntmps216
  go_wp2_with fail
  go_loopw [6,7] (fun iv _ wr=> iv= .int .i64 1/\wr=w) (fun _ _ _=> 0)
  case atStart=> exact⟨rfl,rfl⟩
  case round=>
   obtain⟨rfl,rfl⟩:=hrel
   go_wp2
   go_end0
   exact⟨rfl,rfl⟩
 have HI:=hi_ hi
 have hpd: ∀m:Int,Calls Tryz.prog 199 #[.slice none 0 0,.int .i64 0,.int .i64 0,.int .i64 m] w fun e w'=> e= .returned (.tuple #[])/\w'=w:=by
  intro m
  clear hi
  go_enter Tryz.func199,Tryz.ntmps199
  go_wp2_with fail
  go_loopw [1,2] (fun av bv wr=> av= .int .i64 0/\bv= .int .i64 0/\wr=w) (fun _ _ _=> 0)
  case atStart=> exact⟨rfl,rfl,rfl⟩
  case round=>
   obtain⟨rfl,rfl,rfl⟩:=hrel
   go_wp2_with fail
   refine HI.out.mono ?_
   rintro e W2 ⟨rfl,rfl⟩
   go_wp2
   refine bodyPost_ret (results_none rfl _ _ _) rfl ?_
   exact⟨rfl,rfl⟩
 have HPD:=hi_ hpd
 clear hpd hi
 go_enter Tryz.func166,Tryz.ntmps166
 go_wp2_with fail
 have hbl:Calls Tryz.prog 95 #[.int .u64 (0:Nat)] w fun e w'=> ∃m:Int,e= .returned (.int .i64 m)/\w'=w:=by
  clear HPD z2
  go_enter Tryz.func95,Tryz.ntmps95
  go_wp2_with fail
  refine(len64_c 0 (by omega) _).mono ?_
  rintro e W2 ⟨m,rfl,rfl⟩
  go_wp2
  go_ret
  exact⟨m,rfl,rfl⟩
 refine hbl.mono ?_
 rintro e W2 ⟨m,rfl,rfl⟩
 clear hbl
 go_wp2_with fail
 refine(HPD.out m).mono ?_
 rintro e W3 ⟨rfl,rfl⟩
 go_wp2
 go_end0
 exact⟨rfl,rfl⟩
theorem growz_c (w:World):Calls Tryz.prog 198 #[.slice none 0 0,.int .i64 0] w fun e w'=> e= .returned (.slice none 0 0)/\w'=w:=by
 go_enter Tryz.func198,Tryz.ntmps198
 go_wp2
 go_ret
 exact⟨rfl,rfl⟩
theorem heal0_c (f out k n:Value) (w:World):Calls Tryz.prog 226 #[f,out,k,n,.slice none 0 0] w fun e w'=> e= .returned (.int .i64 0)/\w'=w:=by
 go_enter Tryz.func226,Tryz.ntmps226
 go_wp2
 go_ret
 exact⟨rfl,rfl⟩
theorem right_c (n:Nat) (v:Value) (cols:List Slc2) (w:World) (hv:ES.Rd w v cols) (hn1:1<=n) (hn:n<=4096) (h4:4<=cols.length) (h16:cols.length<=16) (hcols: ∀x∈cols,x.2.1=n):
  Calls Tryz.prog 225 #[v,.slice none 0 0] w fun e w'=> e= .returned (.tuple #[.int .i64 n,.int .i64 0])/\Ext [] w w':=by
 have hl:=hA_ n v cols w hv hn1 hn (by intro h;rw [h] at h4;simp at h4) (by omega) hcols
 obtain⟨p,c,rfl,_⟩:=hv.len_eq
 have HL:=hi_ hl
 obtain⟨m,hm⟩: ∃m,m=cols.length:=⟨_,rfl⟩
 rw [<-hm] at h4 h16 HL ⊢
 have z1: ¬((m:Int) < 4):=by omega
 have z2: ¬((16:Int) < (m:Int)):=by omega
 have z3: ¬((n:Int) < 0):=by omega
 clear hv hl hm hcols
 go_enter Tryz.func225,Tryz.ntmps225
 go_wp2_with fail
 go_loopw [6,7,19] (fun _ _ iv wr=> iv= .int .i64 0/\wr=w) (fun _ _ _ _=> 0)
 case atStart=> exact⟨rfl,rfl⟩
 case round=>
  obtain⟨rfl,rfl⟩:=hrel
  go_wp2_with fail
  refine HL.out.mono ?_
  rintro e W1 ⟨rfl,hE⟩
  go_wp2
  go_ret2
  exact⟨rfl,hE⟩
theorem read1_c (x:Int) (pc:Nat) (w:World) (hc:w.cell? ⟨pc,0,none⟩=some (.slice none 0 0)):
  Calls Tryz.prog 162 #[.int .i64 x,.pointer (some ⟨pc,0,none⟩)] w fun e w'=> e= .returned (.bool false)/\Ext [] w w':=by
 go_enter Tryz.func162,Tryz.ntmps162
 go_wp2_with fail
 refine(aD_ _ [] x _ (.inl ⟨rfl,rfl⟩) (by simp)).mono ?_
 rintro e W1 ⟨rfl,hE⟩
 simp only [List.not_mem_nil,decide_false]
 go_wp2
 go_ret
 exact⟨rfl,hE⟩
theorem delfi_c (v:Value) (xs:List Int) (pc:Nat) (w:World) (hv:EI.Rd w v xs) (hl:xs.length<=1000000) (hc:w.cell? ⟨pc,0,none⟩=some (.slice none 0 0)):
  Calls Tryz.prog 161 #[v,.func (.func 162) #[] #[.pointer (some ⟨pc,0,none⟩)]] w fun e w'=> e= .returned v/\Ext [] w w':=by
 obtain⟨p,cap,rfl,_⟩:=hv.len_eq
 obtain⟨HV,HC⟩:=h_2 hv hc
 obtain⟨n,hn⟩: ∃n,n=xs.length:=⟨_,rfl⟩
 rw [<-hn] at HV hl ⊢
 have HN:=hi_ hn
 clear hv hc hn
 have hidx:Calls Tryz.prog 196 #[.slice p n cap,.func (.func 162) #[] #[.pointer (some ⟨pc,0,none⟩)]] w fun e w'=> e= .returned (.int .i64 (-1))/\Ext [] w w':=by
  go_enter Tryz.func196,Tryz.ntmps196
  go_wp2_with fail
  go_loopw [4,5,8] (fun _ _ iv wr=> ∃i:Nat,i<=n/\iv= .int .i64 i/\Ext [] w wr) (fun _ _ iv _=> n - (intOf iv).toNat)
  case atStart=> exact⟨0,Nat.zero_le _,rfl,Ext.refl _ _⟩
  case round=>
   obtain⟨i,hi,rfl,hE⟩:=hrel
   by_cases hlt:i < n
   ·have z1:(i:Int) < (n:Int):=by omega
    obtain⟨g,o,rfl⟩: ∃g o,p=some ⟨g,o,none⟩:=by
     rcases HV.out with ⟨_,h⟩ | ⟨g,o,c,h,_⟩
     ·have:=HN.out;rw [h] at this;simp at this;omega
     ·simp only [Value.slice.injEq] at h;exact⟨g,o,h.1⟩
    have hcell:=fp_ (HV.out.ext0 hE) i (by rw [<-HN.out];exact hlt)
    obtain⟨x,hx⟩: ∃x,x=xs.getD i 0:=⟨_,rfl⟩
    rw [<-hx] at hcell
    clear hx
    go_wp2_with fail
    refine(read1_c x pc _ (hE.cell HC.out (by simp))).mono ?_
    rintro e W1 ⟨rfl,hE1⟩
    have hE01:=hE.trans hE1
    clear hcell hE1 hE
    go_wp2_with fail
    go_roundw
    case rel=> exact⟨i+1,by omega,by go_num,hE01⟩
    case measure=> simp [intOf];omega
   ·have z1: ¬((i:Int) < (n:Int)):=by omega
    go_wp2
    go_ret
    exact⟨rfl,hE⟩
 have HI:=hi_ hidx
 clear hidx
 go_enter Tryz.func161,Tryz.ntmps161
 go_wp2_with fail
 refine HI.out.mono ?_
 rintro e W1 ⟨rfl,hE⟩
 go_wp2
 go_ret
 exact⟨rfl,hE⟩
theorem concat2_c (b c:Nat) (w:World) (hb:w.heap[b]? =some (.cells #[.slice none 0 0,.slice none 0 0] 208 (0,0))):
  Calls Tryz.prog 165 #[.slice (some ⟨b,0,none⟩) 2 c] w fun e w'=> e= .returned (.slice none 0 0)/\Ext [] w w':=by
 have HB:=hi_ hb
 clear hb
 go_enter Tryz.func165,Tryz.ntmps165
 go_wp2_with fail
 go_loopw [3,5,11] (fun sv _ iv wr=> ∃i:Nat,i<=2/\iv= .int .i64 i/\sv= .int .i64 0/\Ext [] w wr) (fun _ _ iv _=> 2 - (intOf iv).toNat)
 case atStart=> exact⟨0,Nat.zero_le _,rfl,rfl,Ext.refl _ _⟩
 case round=>
  obtain⟨i,hi,rfl,rfl,hE⟩:=hrel
  have hb1:=hE.blk HB.out (by simp)
  by_cases hlt:i < 2
  ·have z1:(i:Int) < 2:=by omega
   have hcell:wr.cell? ⟨b,i,none⟩=some (.slice none 0 0):=by
    rw [cell_of_row _ _ i _ _ _ hb1]
    match i,hlt with
    | 0,_=> rfl
    | 1,_=> rfl
   clear hb1
   go_wp2_with fail
   go_roundw
   case rel=> exact⟨i+1,by omega,by go_num,rfl,hE⟩
   case measure=> simp [intOf];omega
  ·have z1: ¬((i:Int) < 2):=by omega
   have hi2:i=2:=by omega
   subst hi2
   clear hb1
   go_wp2_with fail
   refine(growz_c _).mono ?_
   rintro e W1 ⟨rfl,rfl⟩
   go_wp2_with fail
   go_loopw [6,8,27] (fun sv _ iv wr=> ∃i:Nat,i<=2/\iv= .int .i64 i/\sv= .slice none 0 0/\Ext [] w wr) (fun _ _ iv _=> 2 - (intOf iv).toNat)
   case atStart=> exact⟨0,Nat.zero_le _,rfl,rfl,hE⟩
   case round=>
    clear hE
    obtain⟨i,hi,rfl,rfl,hE⟩:=hrel
    have hb1:=hE.blk HB.out (by simp)
    by_cases hlt:i < 2
    ·have z1:(i:Int) < 2:=by omega
     have hcell: ∀W:World,W=wr->W.cell? ⟨b,i,none⟩=some (.slice none 0 0):=by
      rintro W rfl
      rw [cell_of_row _ _ i _ _ _ hb1]
      match i,hlt with
      | 0,_=> rfl
      | 1,_=> rfl
     have hcell:=hcell _ rfl
     clear hb1
     go_wp2_with (with_reducible refine f_ (d:=33) ?_)
     refine k_ rfl fun K hK=> b_ (E:=EI) (T:=3) (zero:=0) (bytes:=8) (v:= .slice none 0 0) (u:= .slice none 0 0) (xs:= []) (ys:= []) tiI Tryz.underlying208 Tryz.underlying208 rfl rfl rfl (.inl ⟨rfl,rfl⟩) (.inl ⟨rfl,rfl⟩) (by simp) (by simp) ?_
     intro v' w' how hext hnear hnn
     have hv':=hnn.1 rfl
     subst hv'
     have hE':=hE.trans hext
     refine hK _ _ ?_
     clear hK hcell hext hnear hnn how hE
     go_wp2_with fail
     go_roundw
     case rel=> exact⟨i+1,by omega,by go_num,rfl,hE'⟩
     case measure=> simp [intOf];omega
    ·have z1: ¬((i:Int) < 2):=by omega
     clear hb1
     go_wp2
     go_ret
     exact⟨rfl,hE⟩
theorem dV_ {L:List Slc2} (hg:w.heap[g]? =some (.cells (ES.flat L).toArray 158 (0,0))) (k c:Nat) (hk:k<=L.length) (hc:k<=c):ES.Rd w (.slice (some ⟨g,0,none⟩) k c) (L.take k):=by
 have hl:(L.take k).length=k:=by rw [List.length_take];omega
 refine .inr ⟨g,0,c,by rw [hl],by rw [hl];exact hc,g_ hg,fun j u hj=> ?_⟩
 rw [Nat.zero_add,cell_of_row _ _ _ _ _ _ hg,List.getElem?_toArray]
 rw [eV_,List.map_take] at hj
 rw [eV_]
 have h2:=List.getElem?_eq_some_iff.1 hj
 obtain⟨h3,h4⟩:=h2
 rw [List.getElem_take] at h4
 exact List.getElem?_eq_some_iff.2 ⟨by rw [List.length_take] at h3;omega,h4⟩
def RebPost (m:Nat) (zc:List (Slc2×List UInt8)) (w:World) (e:Ending) (w':World):Prop:= ∃(g:Nat) (zs:List (Slc2×List UInt8)),e= .returned (.tuple #[.slice (some ⟨g,0,none⟩) m m,.int .i64 0])/\w'.heap[g]? =some (.cells (ES.flat (zs.map (·.1))).toArray 158 (0,0))/\zs.map (·.2)=zc.map (·.2)/\CellsOk w' w.heap.size zs/\Ext [] w w'
theorem Sec.some {B:Nat} {x:Slc2} {b:List UInt8} (h:Sec w B x b) (hb:b.length=128): ∃g o,x.1=some ⟨g,o,none⟩:=by
 rcases h.1 with ⟨_,h1⟩ | ⟨g,o,c,h1,_⟩
 ·rw [h1] at hb;simp at hb
 ·simp only [Value.slice.injEq] at h1;exact⟨g,o,h1.1⟩
theorem rebuild_c (k m B:Nat) (v:Value) (zc:List (Slc2×List UInt8)) (w:World) (hv:ES.Rd w v (zc.map (·.1))) (hk1:1<=k) (hk:k<=13) (hm:m=k+3) (hzl:zc.length=m) (hz:CellsOk w B zc):
  Calls Tryz.prog 200 #[v,.slice none 0 0] w (RebPost m zc w):=by
 have hri:=right_c 128 v _ w hv (by omega) (by omega) (by rw [List.length_map];omega) (by rw [List.length_map];omega) (fun x hx=> by
  obtain⟨z,h1,rfl⟩:=List.mem_map.1 hx
  exact(hz z h1).1)
 have hm3: ∀W:World,(Instr.makeSlice 240 (.int .i64 m) (.int .i64 m)).run Tryz.prog W= .ok (.slice (some ⟨W.heap.size,0,none⟩) m m) (W.alloc (.cells (ES.flat (List.replicate m (none,0,0))).toArray 158)):=fun W=> gL_ (P:=Tryz.prog) tiS rfl rfl Tryz.underlying240 m m (by omega) (by omega) (by omega) W
 obtain⟨p,c,rfl,_⟩:=hv.len_eq
 rw [List.length_map,hzl] at hri ⊢
 have HRI:=hi_ hri
 rw [List.length_map,hzl] at hv
 obtain⟨HV,HZ,HZL⟩:=h_3 hv hz hzl
 obtain⟨Z0,hZ0⟩: ∃Z:List Slc2,Z=List.replicate m (none,0,0):=⟨_,rfl⟩
 rw [<-hZ0] at hm3
 have HZ0:=hi_ hZ0
 have z1:IntKind.i64.wrap ((m:Int) - 3)=(k:Int):=by rw [show (m:Int) - 3=(k:Int) by omega];exact IntWalk.i64_in _ (by omega)
 have hm16:m<=16:=by omega
 have HM:=hi_ hm
 obtain⟨Bw,hBw⟩: ∃x,x=w.heap.size:=⟨_,rfl⟩
 have HBw:=hi_ hBw
 clear hri hv hz hzl hZ0 hm hBw
 go_enter Tryz.func200,Tryz.ntmps200
 go_wp2_with fail
 refine HRI.out.mono ?_
 rintro e W1 ⟨rfl,hE1⟩
 have HE1:=hi_ hE1
 have hB1:=hE1.size
 clear hE1 HRI
 go_wp2_with (with_reducible refine f_ (d:=31) ?_)
 unfold Hold
 refine k_ rfl fun K hK=> ?_
 go_simp
 refine hK _ _ ?_
 clear hK hm3
 have hgt:=heap_alloc_new W1 (.cells (ES.flat Z0).toArray 158)
 have hE:=(Ext.refl [] W1).alloc (.cells (ES.flat Z0).toArray 158)
 have hE2:=HE1.out.trans hE
 obtain⟨g,hge⟩: ∃g,g=W1.heap.size:=⟨_,rfl⟩
 simp only [<-hge] at hgt ⊢
 have lgt:w.heap.size<=g:=by omega
 obtain⟨HG,HE2⟩:=h_2 hgt hE2
 clear hge hgt hE hE2 HE1
 revert HG HE2
 generalize World.alloc _ _=W2
 intro HG HE2
 go_wp2_with fail
 go_loopw [10,11,12,34,39] (fun lv _ _ iv _ wr=> ∃(i:Nat) (zs:List (Slc2×List UInt8)),i<=m/\iv= .int .i64 i/\lv= .slice none 0 0/\zs.length=i/\Hid (Ext [] w wr)/\Hid (wr.heap[g]? =some (.cells (ES.flat (zs.map (·.1)++List.replicate (m - i) (none,0,0))).toArray 158 (0,0)))/\Hid (zs.map (·.2)=(zc.take i).map (·.2))/\Hid (CellsOk wr Bw zs)) (fun _ _ _ iv _ _=> m - (intOf iv).toNat)
 case atStart=> exact⟨0,[],by omega,rfl,rfl,rfl,HE2,by rw [HZ0.out] at HG;exact HG,hi_ rfl,hi_ (fun z hz=> by cases hz)⟩
 case round=>
  obtain⟨i,zs,hi,rfl,rfl,hzsl,HE3,HG3,HB3,HC3⟩:=hrel
  clear HG HE2
  by_cases hlt:i < m
  ·have x1:(i:Int) < (m:Int):=by omega
   obtain⟨z,hz⟩: ∃z,zc[i]? =some z:=⟨zc[i]'(by rw [HZL.out];exact hlt),List.getElem?_eq_getElem _⟩
   obtain⟨⟨pz,nz,cz⟩,bz⟩:=z
   have hcz:=HZ.out _ (List.mem_of_getElem? hz)
   have hv3:=HV.out.ext0 HE3.out
   obtain⟨gv,ov,rfl⟩: ∃g o,p=some ⟨g,o,none⟩:=by
    rcases hv3 with ⟨_,h⟩ | ⟨g,o,c,h,_⟩
    ·have h2:=congrArg List.length h;rw [List.length_map,HZL.out] at h2;simp at h2;omega
    ·simp only [Value.slice.injEq] at h;exact⟨g,o,h.1⟩
   have hzl2:(zc.map (·.1)).length=m:=by rw [List.length_map,HZL.out]
   have hcell:=dM_ hv3 i (pz,nz,cz) (by rw [List.getElem?_map,hz];rfl)
   simp only at hcell
   obtain⟨HCZ,HZI⟩:=h_2 hcz hz
   have hset: ∀x,(zs.map (·.1)++List.replicate (m - i) ((none,0,0):Slc2)).set i x=zs.map (·.1)++ [x]++List.replicate (m - (i+1)) (none,0,0):=fun x=> by
    rw [List.set_append_right _ _ (by simp;omega),show m - i=(m - (i+1))+1 by omega,List.replicate_succ,List.length_map,hzsl,Nat.sub_self,List.set_cons_zero]
    simp
   have HSET:=hi_ hset
   have hold:(ES.flat (zs.map (·.1)++List.replicate (m - i) (none,0,0)))[i]? =some (.slice none 0 0):=by
    rw [eV_,List.getElem?_map,List.getElem?_append_right (by simp;omega),List.length_map,hzsl,Nat.sub_self,show m - i=(m - (i+1))+1 by omega,List.replicate_succ]
    rfl
   have HOLDH:=hi_ hold
   clear hz hcz hv3 hzl2 hset hold
   go_wp2_with fail
   refine(aD_ _ [] (i:Int) _ (.inl ⟨rfl,rfl⟩) (by simp)).mono ?_
   rintro e W4 ⟨rfl,hE4⟩
   simp only [List.not_mem_nil,decide_false]
   have HG4:=hi_ (hE4.blk HG3.out (by simp))
   have HC4:=hi_ (HC3.out.ext hE4 (by simp))
   have HE4:=hi_ (HE3.out.trans hE4)
   clear hE4 HG3 HC3 HE3 hcell
   go_wp2_with fail
   refine(ff_ _ bz _ (by have:=HCZ.out.2.1;omega) (HCZ.out.2.2.1.ext0 HE4.out)).mono ?_
   rintro e W5 ⟨u,rfl,how,hE5,hnew, -⟩
   obtain⟨pu,cu,rfl,_⟩:=how.rd.len_eq
   have hb128:bz.length=128:=HCZ.out.2.1
   rw [hb128] at how hnew ⊢
   have hsec:Sec W5 Bw (pu,128,cu) bz:=⟨how.rd,fun y hy=> ⟨by have h1:=hnew y hy;have h2:=HE4.out.size;rw [HBw.out];omega,by
    obtain⟨c,hc⟩:=how.tag y hy
    exact d_ hc⟩⟩
   have hg5:=hE5.blk HG4.out (by simp)
   have hc5:=HC4.out.ext hE5 (by simp)
   have hE05:=HE4.out.trans hE5
   have hs:=ho_ hg5 i (pu,128,cu)
   rw [HSET.out] at hs
   have hEs:Ext [g] W5 (W5.setCell ⟨g,i,none⟩ (.slice pu 128 cu)):=(Ext.refl _ _).setCell (.inl (by simp)) _
   have htg:=d_ hg5
   have hc6:=(hc5.append (fun z hz=> by
    rw [List.mem_singleton] at hz;subst hz
    exact⟨rfl,hb128,hsec⟩):CellsOk W5 Bw (zs++ [((pu,128,cu),bz)])).ext hEs (fun y hy=> by simp at hy;subst hy;rw [htg];decide)
   have hE06:Ext [] w (W5.setCell ⟨g,i,none⟩ (.slice pu 128 cu)):=hE05.trans' hEs (by simp) (fun y hy=> .inr (by simp at hy;omega))
   have c0:W5.cell? ⟨g,i,none⟩=some (.slice none 0 0):=by
    rw [cell_of_row _ _ i _ _ _ hg5,List.getElem?_toArray]
    exact HOLDH.out
   have hfz:W5.frozen? ⟨g,i,none⟩=false:=frozen_of_row _ _ _ _ _ hg5
   obtain⟨HG6,HC6,HE6⟩:=h_3 hs hc6 hE06
   clear how hnew hsec hg5 hc5 hE05 hs hEs htg hc6 hE06 hE5 HG4 HC4 HE4
   go_wp2_with fail
   go_roundw
   case rel=> exact⟨i+1,zs++ [((pu,128,cu),bz)],by omega,by go_num,rfl,by simp [hzsl],HE6,by rw [List.map_append];exact HG6,hi_ (by
    have h1:=HZI.out
    obtain⟨h2,h3⟩:=List.getElem?_eq_some_iff.1 h1
    rw [List.take_succ_eq_append_getElem h2,h3,List.map_append,List.map_append,HB3.out]
    rfl),HC6⟩
   case measure=> simp [intOf];omega
  ·have x1: ¬((i:Int) < (m:Int)):=by omega
   have him:i=m:=by omega
   have hb3:=HB3.out
   rw [him,<-HZL.out,List.take_length] at hb3
   have hg3:=HG3.out
   rw [him,Nat.sub_self,List.replicate_zero,List.append_nil] at hg3
   obtain⟨HG4,HB4⟩:=h_2 hg3 hb3
   have HZM:=hi_ (hzsl.trans him)
   clear hb3 hg3 HG3 HB3 hzsl
   go_wp2_with (with_reducible refine f_ (d:=63) ?_)
   unfold Hold
   refine cf_ rfl 337 rfl _ di_ ?_
   refine Go.Great.wpList_boxTo rfl 337 (.tmp 63) rfl (some 64) rfl _ rfl zeroFL.toArray (by rfl) ?_
   have hgf:=heap_alloc_new wr (.cells zeroFL.toArray 337)
   have hEa:=(Ext.refl [] wr).alloc (.cells zeroFL.toArray 337)
   have hg5:=hEa.blk HG4.out (by simp)
   have hc5:=HC3.out.ext hEa (by simp)
   have hE5:=HE3.out.trans hEa
   obtain⟨f,hfe⟩: ∃f,f=wr.heap.size:=⟨_,rfl⟩
   have lgf:=g_ HG4.out
   have HCL:Hid (∀z∈zs,∀y∈blkL (.slice z.1.1 z.1.2.1 z.1.2.2),y < f):=hi_ (fun z hz y hy=> by rw [hfe];exact(HC3.out z hz).2.2.1.lt y hy)
   rw [<-hfe] at lgf
   simp only [<-hfe] at hgf ⊢
   have hEf:=hE5.size
   have HFR:=hi_ (fr_ hgf)
   obtain⟨HG5,HC5,HE5⟩:=h_3 hg5 hc5 hE5
   have lwf:w.heap.size<=f:=by rw [hfe];exact HE3.out.size
   clear hgf hfe hEa hg5 hc5 hE5 hEf HG4 HC3 HE3
   revert HFR HG5 HC5 HE5
   obtain⟨ZL,hZL⟩: ∃Z,Z=zeroFL.toArray:=⟨_,rfl⟩
   rw [<-hZL]
   clear hZL
   generalize World.alloc _ _=W6
   intro HFR HG5 HC5 HE5
   simp only [Act.put,List.setIfInBounds_toArray,List.set_cons_zero,List.set_cons_succ]
   go_wp2_with fail
   refine(heal0_c _ _ _ _ _).mono ?_
   rintro e W7 ⟨rfl,rfl⟩
   have y1:(0:Int)<=(k:Int):=by omega
   have y2:(k:Int)<=(m:Int):=by have:=HM.out;omega
   go_wp2_with fail
   have hzm:(zs.map (·.1)).length=m:=by rw [List.length_map,HZM.out]
   have hrd:=dV_ HG5.out k m (by rw [hzm];have:=HM.out;omega) (by have:=HM.out;omega)
   refine(psums_c f 128 _ _ _ HFR.out hrd (by simp [blkL];omega) (by rw [List.length_take];omega) (by omega) (by omega) (fun x hx=> ?_)).mono ?_
   ·obtain⟨z,h1,rfl⟩:=List.mem_map.1 (List.mem_of_mem_take hx)
    obtain⟨h2,h3,h4⟩:=HC5.out z h1
    have h5:=h4.1
    rw [h2] at h5
    exact⟨h2,⟨z.2,h3,h5⟩,fun h=> by
     have h6:=HCL.out z h1 f (by rw [h2];exact h)
     omega⟩
   rintro e W8 ⟨gt,gs,rfl,hgl,hgt,hgs,lgt2, -,hE8⟩
   have hg8:=hE8.blk HG5.out (by simp;omega)
   have hc8:CellsOk W8 Bw zs:=fun z hz=> by
    obtain⟨h2,h3,h4⟩:=HC5.out z hz
    refine⟨h2,h3,h4.1.ext hE8 (fun y hy h=> ?_),fun y hy=> ⟨(h4.2 y hy).1,aG_ (h4.2 y hy).2 hE8 (fun h=> ?_)⟩⟩
    ·have:=HCL.out z hz y hy;simp at h;omega
    ·have:=HCL.out z hz y hy;simp at h;omega
   have hE08:Ext [] w W8:=HE5.out.trans' hE8 (by simp) (fun y hy=> .inr (by simp at hy;omega))
   obtain⟨HG8,HC8,HE8,HGT,HGLL⟩:=h_5 hg8 hc8 hE08 hgt hgl
   clear hzm hrd hgl hgt hgs lgt2 hE8 hg8 hc8 hE08 HG5 HC5 HE5 HFR HCL
   go_wp2_with fail
   go_loopw [15,16,81] (fun _ _ iv wr=> ∃r:Nat,r<=3/\iv= .int .i64 r/\wr=W8) (fun _ _ iv _=> 3 - (intOf iv).toNat)
   case atStart=> exact⟨0,by omega,rfl,rfl⟩
   case round=>
    obtain⟨r,hr,rfl,rfl⟩:=hrel
    by_cases hlt:r < 3
    ·have x1:(r:Int) < 3:=by omega
     obtain⟨⟨⟨px,nx,cx⟩,bx⟩,hz⟩: ∃z,zs[k+r]? =some z:=⟨zs[k+r]'(by rw [HZM.out,HM.out];omega),List.getElem?_eq_getElem _⟩
     obtain⟨h2,h3,h4⟩:=HC8.out _ (List.mem_of_getElem? hz)
     obtain⟨gx,ox,hpx⟩:=h4.some h3
     simp only at h2 hpx
     subst h2 hpx
     have c1:wr.cell? ⟨g,k+r,none⟩=some (.slice (some ⟨gx,ox,none⟩) 128 cx):=by
      rw [cell_of_row _ _ (k+r) _ _ _ HG8.out,List.getElem?_toArray,eV_,List.getElem?_map,List.getElem?_map,hz]
      rfl
     obtain⟨gr,hgr⟩: ∃g,gs[r]? =some g:=⟨gs[r]'(by rw [HGLL.out];exact hlt),List.getElem?_eq_getElem _⟩
     have c2:wr.cell? ⟨gt,r,none⟩=some (.slice (some ⟨gr,0,none⟩) 128 128):=by
      rw [cell_of_row _ _ r _ _ _ HGT.out,List.getElem?_toArray,eV_,List.getElem?_map,List.getElem?_map,hgr]
      rfl
     have hn:=fun w=> Lib.run_eql_slice_nil (P:=Tryz.prog) w 158 5 (some ⟨gx,ox,none⟩) 128 cx 0 0 Tryz.underlying158
     have y3:(0:Int)<=(k:Int)+(r:Int):=by omega
     have y4:(k:Int)+(r:Int) < (m:Int):=by have:=HM.out;omega
     have y5:((k:Int)+(r:Int)).toNat=k+r:=by omega
     clear h3 h4 hz hgr
     go_wp2_with fail
     go_roundw
     case rel=> exact⟨r+1,by omega,by go_num,trivial⟩
     case measure=> simp [intOf];omega
    ·have x1: ¬((r:Int) < 3):=by omega
     go_wp2
     go_ret2
     exact⟨g,zs,rfl,HG8.out,HB4.out,by rw [<-HBw.out];exact HC8.out,HE8.out⟩
def en_ (cs:List (List UInt8)):List UInt8:=(cs.take (cs.length - 3)).flatten
theorem gD_ (P:List UInt8) (m:Nat):(az_ P m).flatten=P.take (128*m):=by
 induction m with
 | zero=> rfl
 | succ m ih=>
  rw [dt_,List.flatten_append,ih,List.flatten_singleton,show 128*(m+1)=128*m+128 by omega,List.take_add]
theorem iD_ (P p1 p2 p3:List UInt8) (m:Nat):en_ (az_ P m++ [p1,p2,p3])=P.take (128*m):=by
 rw [en_,List.length_append,W_]
 simp only [List.length_cons,List.length_nil,Nat.add_sub_cancel]
 rw [List.take_append_of_le_length (by rw [W_];exact Nat.le_refl _),List.take_of_length_le (by rw [W_];exact Nat.le_refl _),gD_]
theorem StripesOf.data {P:List UInt8} {l:Nat} {css:List (List (List UInt8))} (h:StripesOf k P l css):(css.map en_).flatten=P.take (128*l):=by
 induction h with
 | nil P=> rfl
 | row P l p1 p2 p3 rest hl _ ih=>
  rw [List.map_cons,List.flatten_cons,ih,iD_,<-List.take_add]
  congr 1
  omega
theorem StripesOf.mem {P:List UInt8} {l:Nat} {css:List (List (List UInt8))} (h:StripesOf k P l css): ∀cs∈css,4<=cs.length/\cs.length<=k+4:=by
 induction h with
 | nil P=> intro cs hc;cases hc
 | row P l p1 p2 p3 rest hl _ ih=>
  intro cs hc
  rcases List.mem_cons.1 hc with rfl | hc
  ·rw [List.length_append,W_]
   simp
   omega
  ·exact ih cs hc
def DataPost (size:Nat) (P:List UInt8) (w:World) (e:Ending) (w':World):Prop:= ∃(p:Option Addr) (c:Nat),e= .returned (.tuple #[.slice p size c,.bool true])/\EB.Rd w' (.slice p size c) (P.take size)/\(∀y∈blkL (.slice p size c),w.heap.size<=y/\r_ w' y=some 5)/\Ext [] w w'
theorem data_c (k l size B:Nat) (P:List UInt8) (v:Value) (ss:List (Str×List (List UInt8))) (w:World) (hv:EST.Rd w v (ss.map (·.1))) (hs: ∀x∈ss,StrOk w B x.1 x.2) (hst:StripesOf k P l (ss.map (·.2))) (h8:ss.length<=8) (hk:k<=8) (h1:1<=size) (hsz:size<=128*l) (hP:128*l<=P.length):
  Calls Tryz.prog 167 #[v,.int .i64 size,.slice none 0 0] w (DataPost size P w):=by
 have hdat:=hst.data
 have hmem:=hst.mem
 obtain⟨p,c,rfl,_⟩:=hv.len_eq
 rw [List.length_map] at hv ⊢
 obtain⟨ns,hns⟩: ∃n,n=ss.length:=⟨_,rfl⟩
 rw [<-hns] at hv h8 ⊢
 obtain⟨HV,HS,HDAT,HMEM,HNS,HP⟩:=h_6 hv hs hdat hmem hns hP
 obtain⟨Bw,hBw⟩: ∃x,x=w.heap.size:=⟨_,rfl⟩
 have HBw:=hi_ hBw
 clear hv hs hst hdat hmem hns hP hBw
 go_enter Tryz.func167,Tryz.ntmps167
 go_wp2_with fail
 go_loopw [8,20] (fun ov iv wr=> ∃(q:Nat) (xs:List UInt8),q<=ns/\iv= .int .i64 q/\Hid (xs.length<=10000*q)/\(∃po co,ov= .slice po xs.length co)/\Hid (Ext [] w wr)/\Hid (EB.Ow 5 wr ov xs/\ ∀y∈blkL ov,Bw<=y)/\Hid (xs=((ss.take q).map (fun x=> en_ x.2)).flatten)) (fun _ iv _=> ns - (intOf iv).toNat)
 case atStart=> exact⟨0,[],by omega,rfl,hi_ (by simp),⟨none,0,rfl⟩,hi_ (Ext.refl _ _),hi_ ⟨.inl ⟨rfl,rfl⟩,by simp [blkL]⟩,hi_ rfl⟩
 case round=>
  obtain⟨q,xs,hq,rfl,HXL,⟨po,co,rfl⟩,HE,HO,HX⟩:=hrel
  by_cases hlt:q < ns
  ·have x1:(q:Int) < (ns:Int):=by omega
   obtain⟨⟨x,cs⟩,hx⟩: ∃x,ss[q]? =some x:=⟨ss[q]'(by rw [<-HNS.out];exact hlt),List.getElem?_eq_getElem _⟩
   have hmx:=List.mem_of_getElem? hx
   obtain⟨zc,ds,a1,a2,a3,a4,a5⟩:=(HS.out _ hmx).ext HE.out (by simp)
   have hcl:=HMEM.out cs (List.mem_map.2 ⟨_,hmx,rfl⟩)
   obtain⟨gv,ov,rfl⟩: ∃g o,p=some ⟨g,o,none⟩:=by
    rcases HV.out with ⟨_,h⟩ | ⟨g,o,c,h,_⟩
    ·have h2:=congrArg List.length h;rw [List.length_map,<-HNS.out] at h2;simp at h2;omega
    ·simp only [Value.slice.injEq] at h;exact⟨g,o,h.1⟩
   obtain⟨c1,c2⟩:=EST_cells (HV.out.ext0 HE.out) q x (by rw [List.getElem?_map,hx];rfl)
   simp only at a1 a2 a3 a4 a5
   obtain⟨⟨pa,na,ca⟩,⟨pd,nd,cd⟩⟩:=x
   simp only at a1 a4 c1 c2
   have hna:=a1.rd.len_eq
   have hnd:=a4.rd.len_eq
   obtain⟨_,_,h2,_⟩:=hna
   obtain⟨_,_,h3,_⟩:=hnd
   simp only [Value.slice.injEq] at h2 h3
   obtain⟨rfl,h2,rfl⟩:=h2
   obtain⟨rfl,h3,rfl⟩:=h3
   rw [List.length_map] at h2
   have hzcl:zc.length=cs.length:=by rw [<-a3,List.length_map]
   obtain⟨m,hm⟩: ∃m,m=cs.length:=⟨_,rfl⟩
   rw [<-hm] at hcl a5 hzcl
   have h2':na=m:=by omega
   have h3':nd=m:=by omega
   subst h2'
   subst h3'
   obtain⟨HHX,HHM⟩:=h_2 hx hm
   have HA1:=hi_ a1.rd
   obtain⟨HA2,HA3⟩:=h_2 a2 a3
   have HA4:=hi_ a4.rd
   obtain⟨HZL,HDL⟩:=h_2 hzcl a5
   clear hx hmx a1 a2 a3 a4 a5 h2 h3 hzcl hm
   go_wp2_with fail
   have hrow:=heap_alloc_new wr (.cells #[.slice pa nd ca,.slice pd nd cd] 302)
   have hEa:=(Ext.refl [] wr).alloc (.cells #[.slice pa nd ca,.slice pd nd cd] 302)
   have HE1:=hi_ (HE.out.trans hEa)
   have HO1:=hi_ (HO.out.1.ext0 hEa)
   have HA1':=hi_ (HA1.out.ext0 hEa)
   have HA2':=hi_ (HA2.out.ext hEa (by simp))
   have HA4':=hi_ (HA4.out.ext0 hEa)
   have HLO:=hi_ HO.out.2
   obtain⟨b,hbe⟩: ∃b,b=wr.heap.size:=⟨_,rfl⟩
   simp only [<-hbe] at hrow ⊢
   have HROW:=hi_ hrow
   clear hrow hEa hbe HA1 HA2 HA4 HO HE c1 c2
   revert HROW HE1 HO1 HA1' HA2' HA4'
   generalize World.alloc _ _=W1
   intro HE1 HO1 HA1 HA2 HA4 HROW
   go_loopw [11,12,13,27] (fun lv _ _ iv w2=> ∃i:Nat,i<=nd/\iv= .int .i64 i/\lv= .slice none 0 0/\Ext [] W1 w2) (fun _ _ _ iv _=> nd - (intOf iv).toNat)
   case atStart=> exact⟨0,by omega,rfl,rfl,Ext.refl _ _⟩
   case round=>
    obtain⟨i,hi,rfl,rfl,hE2⟩:=hrel
    by_cases hil:i < nd
    ·have x2:(i:Int) < (nd:Int):=by omega
     obtain⟨gd,od,rfl⟩: ∃g o,pd=some ⟨g,o,none⟩:=by
      rcases HA4.out with ⟨_,h⟩ | ⟨g,o,c,h,_⟩
      ·rw [h] at HDL;have:=HDL.out;simp at this;omega
      ·simp only [Value.slice.injEq] at h;exact⟨g,o,h.1⟩
     have hcell:=fp_ (HA4.out.ext0 hE2) i (by rw [HDL.out];exact hil)
     obtain⟨d,hd⟩: ∃d,d=ds.getD i 0:=⟨_,rfl⟩
     rw [<-hd] at hcell
     clear hd
     go_wp2_with fail
     refine(aD_ _ [] d _ (.inl ⟨rfl,rfl⟩) (by simp)).mono ?_
     rintro e W3 ⟨rfl,hE3⟩
     simp only [List.not_mem_nil,decide_false]
     have hE4:=hE2.trans hE3
     clear hE3 hE2 hcell
     go_wp2_with fail
     go_roundw
     case rel=> exact⟨i+1,by omega,by go_num,rfl,hE4⟩
     case measure=> simp [intOf];omega
    ·have x2: ¬((i:Int) < (nd:Int)):=by omega
     have HE2:=hi_ (HE1.out.trans hE2)
     have HO2:=hi_ (HO1.out.ext0 hE2)
     have HA1':=hi_ (HA1.out.ext0 hE2)
     have HA2':=hi_ (HA2.out.ext hE2 (by simp))
     have hrow:=hE2.blk HROW.out (by simp)
     have d1:wr.cell? ⟨b,0,none⟩=some (.slice pa nd ca):=by rw [cell_of_row _ _ 0 _ _ _ hrow];rfl
     clear hE2 HO1 HE1 HA1 HA2 HA4 HROW hrow
     go_wp2_with fail
     obtain⟨kk,hkk⟩: ∃kk,nd=kk+3:=⟨nd - 3,by omega⟩
     refine(rebuild_c kk nd B _ zc _ HA1'.out (by omega) (by omega) hkk HZL.out HA2'.out).mono ?_
     rintro e W3 ⟨g,zs,rfl,hg3,hz3,hc3,hE3⟩
     have y0:IntKind.i64.wrap ((nd:Int) - 3)=(kk:Int):=by rw [show (nd:Int) - 3=(kk:Int) by omega];exact IntWalk.i64_in _ (by omega)
     have y1:(0:Int)<=(kk:Int):=by omega
     have y2:(kk:Int)<=(nd:Int):=by omega
     have HG3:=hi_ hg3
     have HZ3:=hi_ (hz3.trans HA3.out)
     have HC3:=hi_ hc3
     have HO3:=hi_ (HO2.out.ext0 hE3)
     have HE3:=hi_ (HE2.out.trans hE3)
     have HAP:Hid (∀z∈zs,∀y∈blkL (.slice z.1.1 z.1.2.1 z.1.2.2),y∉blkL (.slice po xs.length co)):=hi_ (fun z hz y hy h=> by
      have h1:=((hc3 z hz).2.2.2 y hy).1
      have h2:=HO2.out.lt y h
      omega)
     have HZSL:Hid (zs.length=nd):=hi_ (by have:=congrArg List.length hz3;rw [List.length_map,List.length_map,HZL.out] at this;exact this)
     clear hg3 hz3 hc3 hE3 HE2 HO2 HA1' HA2' d1 HA3
     go_wp2_with fail
     go_loopw [8,17,55] (fun uv _ iv w4=> ∃(j:Nat) (ys:List UInt8),j<=kk/\iv= .int .i64 j/\(∃po co,uv= .slice po ys.length co)/\Hid (ys.length=xs.length+128*j)/\Hid (Ext [] w w4)/\Hid (EB.Ow 5 w4 uv ys/\(∀y∈blkL uv,Bw<=y)/\ ∀z∈zs,∀y∈blkL (.slice z.1.1 z.1.2.1 z.1.2.2),y∉blkL uv)/\Hid (w4.heap[g]? =some (.cells (ES.flat (zs.map (·.1))).toArray 158 (0,0))/\ ∀z∈zs,z.1.2.1=128/\z.2.length=128/\EB.Rd w4 (.slice z.1.1 z.1.2.1 z.1.2.2) z.2)/\Hid (ys=xs++(cs.take j).flatten)) (fun _ _ iv _=> kk - (intOf iv).toNat)
     case atStart=> exact⟨0,xs,by omega,rfl,⟨_,_,rfl⟩,hi_ (by simp),HE3,hi_ ⟨HO3.out,HLO.out,HAP.out⟩,hi_ ⟨HG3.out,fun z hz=> ⟨(HC3.out z hz).1,(HC3.out z hz).2.1,(HC3.out z hz).2.2.1⟩⟩,hi_ (by simp)⟩
     case round=>
      clear HO3 HLO HAP HG3 HC3 HE3
      obtain⟨j,ys,hj,rfl,⟨pu,cu,rfl⟩,HYL,HE4,HO4,HG4,HY⟩:=hrel
      by_cases hjl:j < kk
      ·have x3:(j:Int) < (kk:Int):=by omega
       obtain⟨⟨⟨px,nx,cx⟩,bx⟩,hz⟩: ∃z,zs[j]? =some z:=⟨zs[j]'(by rw [HZSL.out];omega),List.getElem?_eq_getElem _⟩
       have hzm:=List.mem_of_getElem? hz
       obtain⟨h2,h3,h4⟩:=HG4.out.2 _ hzm
       have h5:=HO4.out.2.2 _ hzm
       simp only at h2 h3 h4 h5
       subst h2
       have c1:wr.cell? ⟨g,j,none⟩=some (.slice px 128 cx):=by
        rw [cell_of_row _ _ j _ _ _ HG4.out.1,List.getElem?_toArray,eV_,List.getElem?_map,List.getElem?_map,hz]
        rfl
       have hcj:cs[j]? =some bx:=by
        have h6:=HZ3.out
        have h7:(zs.map (·.2))[j]? =some bx:=by rw [List.getElem?_map,hz];rfl
        rw [h6] at h7;exact h7
       obtain⟨HCJ,H3,H4⟩:=h_3 hcj h3 h4
       clear hz hzm h3 h4 h5 hcj
       go_wp2_with (with_reducible refine f_ (d:=61) ?_)
       refine k_ rfl fun K hK=> b_ (E:=EB) (T:=5) (zero:=0) (bytes:=1) (v:= .slice pu ys.length cu) (u:= .slice px 128 cx) (xs:=ys) (ys:=bx) tiB Tryz.underlying158 Tryz.underlying158 rfl rfl rfl HO4.out.1 H4.out (by rw [H3.out,HYL.out];have:=HXL.out;omega) (by rw [H3.out,HYL.out];have:=HXL.out;omega) ?_
       intro v5 W5 how5 hE5 hnear5 _
       obtain⟨p5,c5,rfl,_⟩:=how5.rd.len_eq
       have hE05:Ext [] w W5:=HE4.out.trans' hE5 (by simp) (fun y hy=> .inr (by have:=HO4.out.2.1 y hy;rw [HBw.out] at this;exact this))
       have hl5: ∀y∈blkL (.slice p5 (ys++bx).length c5),Bw<=y:=fun y hy=> by
        rcases hnear5 y hy with h | h
        ·exact HO4.out.2.1 y h
        ·have:=HE4.out.size;rw [HBw.out];omega
       have hz5: ∀z∈zs,∀y∈blkL (.slice z.1.1 z.1.2.1 z.1.2.2),y∉blkL (.slice p5 (ys++bx).length c5):=fun z hz y hy h=> by
        rcases hnear5 y h with h | h
        ·exact HO4.out.2.2 z hz y hy h
        ·have:=(HG4.out.2 z hz).2.2.lt y hy;omega
       have hg5:=hE5.blk HG4.out.1 (fun h=> HO4.out.1.ne HG4.out.1 (by decide) g h rfl)
       have hr5: ∀z∈zs,z.1.2.1=128/\z.2.length=128/\EB.Rd W5 (.slice z.1.1 z.1.2.1 z.1.2.2) z.2:=fun z hz=> ⟨(HG4.out.2 z hz).1,(HG4.out.2 z hz).2.1,(HG4.out.2 z hz).2.2.ext hE5 (fun y hy=> HO4.out.2.2 z hz y hy)⟩
       have HE5:=hi_ hE05
       have HO5:Hid (EB.Ow 5 W5 (.slice p5 (ys++bx).length c5) (ys++bx)/\(∀y∈blkL (.slice p5 (ys++bx).length c5),Bw<=y)/\ ∀z∈zs,∀y∈blkL (.slice z.1.1 z.1.2.1 z.1.2.2),y∉blkL (.slice p5 (ys++bx).length c5)):=hi_ ⟨how5,hl5,hz5⟩
       have HG5:=hi_ (And.intro hg5 hr5)
       have HYL5:Hid ((ys++bx).length=xs.length+128*(j+1)):=hi_ (by rw [List.length_append,H3.out,HYL.out];omega)
       have HY5:Hid (ys++bx=xs++(cs.take (j+1)).flatten):=hi_ (by
        obtain⟨h6,h7⟩:=List.getElem?_eq_some_iff.1 HCJ.out
        rw [List.take_succ_eq_append_getElem h6,h7,List.flatten_append,List.flatten_singleton,HY.out,List.append_assoc])
       refine hK _ _ ?_
       clear hK how5 hE5 hnear5 hE05 hl5 hz5 hg5 hr5 HO4 HG4 HE4 HYL HY c1
       revert HE5 HO5 HG5 HYL5 HY5
       generalize ys++bx=ys5
       intro HE5 HO5 HG5 HYL5 HY5
       go_wp2_with fail
       go_roundw
       case rel=> exact⟨j+1,ys5,by omega,by go_num,⟨_,_,rfl⟩,HYL5,HE5,HO5,HG5,HY5⟩
       case measure=> simp [intOf];omega
      ·have x3: ¬((j:Int) < (kk:Int)):=by omega
       have hjk:j=kk:=by omega
       have HYf:Hid (ys=((ss.take (q+1)).map (fun x=> en_ x.2)).flatten):=hi_ (by
        obtain⟨h6,h7⟩:=List.getElem?_eq_some_iff.1 HHX.out
        rw [List.take_succ_eq_append_getElem h6,h7,List.map_append,List.flatten_append,<-HX.out,HY.out,hjk]
        congr 1
        rw [List.map_singleton,List.flatten_singleton,en_,<-HHM.out,hkk,Nat.add_sub_cancel])
       have HXL5:Hid (ys.length<=10000*(q+1)):=hi_ (by rw [HYL.out];have:=HXL.out;omega)
       have HO5:=hi_ (And.intro HO4.out.1 HO4.out.2.1)
       clear HO4 HYL HY HG4
       go_wp2_with fail
       go_roundw
       case rel=> exact⟨q+1,ys,by omega,by go_num,HXL5,⟨_,_,rfl⟩,HE4,HO5,HYf⟩
       case measure=> simp [intOf];omega
  ·have x1: ¬((q:Int) < (ns:Int)):=by omega
   have hqn:q=ns:=by omega
   have hxs:xs=P.take (128*l):=by
    have h6:=HX.out
    rw [hqn,HNS.out,List.take_length] at h6
    rw [h6,<-HDAT.out,List.map_map]
    rfl
   have hxl:size<=xs.length:=by rw [hxs,List.length_take];have:=HP.out;omega
   have hco:=HO.out.1.rd.len_eq
   obtain⟨_,_,h7,h8⟩:=hco
   simp only [Value.slice.injEq] at h7
   obtain⟨rfl, -,rfl⟩:=h7
   have y1:(0:Int)<=(size:Int):=by omega
   have y2:(size:Int)<=(co:Int):=by omega
   obtain⟨gx,ox,rfl⟩: ∃g o,po=some ⟨g,o,none⟩:=by
    rcases HO.out.1.rd with ⟨_,h⟩ | ⟨g,o,c,h,_⟩
    ·rw [h] at hxl;simp at hxl;omega
    ·simp only [Value.slice.injEq] at h;exact⟨g,o,h.1⟩
   have htk:xs.take size=P.take size:=by rw [hxs,List.take_take,Nat.min_eq_left hsz]
   have HRD:Hid (EB.Rd wr (.slice (some ⟨gx,ox,none⟩) size co) (P.take size)):=hi_ (by
    have:=EB_take HO.out.1.rd hxl
    rw [htk] at this;exact this)
   have HTG:Hid (∀y∈blkL (.slice (some ⟨gx,ox,none⟩) size co),w.heap.size<=y/\r_ wr y=some 5):=hi_ (fun y hy=> by
    have hy2:y∈blkL (.slice (some ⟨gx,ox,none⟩) xs.length co):=hy
    obtain⟨c,hc⟩:=HO.out.1.tag y hy2
    exact⟨by rw [<-HBw.out];exact HO.out.2 y hy2,d_ hc⟩)
   clear hxs htk HO HX HXL HV HS hxl
   go_wp2
   go_ret2
   exact⟨_,_,rfl,HRD.out,HTG.out,HE.out⟩
def fm_ (fn ln size:Nat) (P:List UInt8) (w:World) (e:Ending) (w':World):Prop:= ∃(p:Option Addr) (c:Nat),e= .returned (.bool true)/\w'.heap[fn]? =some (.cells #[.slice p size c] 158 (0,0))/\w'.heap[ln]? =some (.cells #[.slice none 0 0] 208 (0,0))/\EB.Rd w' (.slice p size c) (P.take size)/\(∀y∈blkL (.slice p size c),w.heap.size<=y/\r_ w' y=some 5)/\Ext [fn,ln] w w'
theorem fits_c (k l size B gn sn zn un fn ln:Nat) (P:List UInt8) (v:Value) (ss:List (Str×List (List UInt8))) (w:World) (hv:EST.Rd w v (ss.map (·.1))) (hs: ∀x∈ss,StrOk w B x.1 x.2) (hst:StripesOf k P l (ss.map (·.2))) (h8:ss.length<=8) (hk:k<=8) (h1:1<=size) (h2:size<=1024) (hsz:size<=128*l) (hP:128*l<=P.length)
  (c1:w.cell? ⟨gn,0,none⟩=some (.slice none 0 0)) (c2:w.cell? ⟨sn,0,none⟩=some v) (c3:w.cell? ⟨zn,0,none⟩=some (.int .i64 size)) (c4:w.cell? ⟨un,0,none⟩=some (.string ⟨(shaF (P.take size)).toArray⟩)) (c5:w.heap[fn]? =some (.cells #[.slice none 0 0] 158 (0,0))) (c6:w.heap[ln]? =some (.cells #[.slice none 0 0] 208 (0,0))):
  Calls Tryz.prog 164 #[.slice none 0 0,.pointer (some ⟨gn,0,none⟩),.pointer (some ⟨sn,0,none⟩),.pointer (some ⟨zn,0,none⟩),.pointer (some ⟨un,0,none⟩),.pointer (some ⟨fn,0,none⟩),.pointer (some ⟨ln,0,none⟩)] w (fm_ fn ln size P w):=by
 have hEa:=(Ext.refl [] w).alloc (.cells #[.slice none 0 0,.slice none 0 0] 208)
 have hb:=heap_alloc_new w (.cells #[.slice none 0 0,.slice none 0 0] 208)
 have hfl:fn < w.heap.size:=g_ c5
 have hll:ln < w.heap.size:=g_ c6
 have hne:fn≠ln:=fun h=> by
  subst h
  rw [c5] at c6
  simp only [Option.some.injEq,Obj.cells.injEq] at c6
  exact absurd c6.2.1 (by decide)
 obtain⟨C2,C3,C4,C5,C6,HV,HS,HST⟩:=h_8 c2 c3 c4 c5 c6 hv hs hst
 obtain⟨HB,HEA⟩:=h_2 hb hEa
 have hptl:(P.take size).length=size:=by rw [List.length_take];omega
 obtain⟨HPT,HPL⟩:=h_2 hptl hP
 clear c2 c3 c4 c5 c6 hv hs hst hb hEa hptl hP
 go_enter Tryz.func164,Tryz.ntmps164
 go_wp2_with fail
 refine(concat2_c _ _ _ HB.out).mono ?_
 rintro e W1 ⟨rfl,hE1⟩
 have HE1:=hi_ (HEA.out.trans hE1)
 clear hE1 HEA HB c1
 go_wp2_with fail
 refine(sortn_c _).mono ?_
 rintro e W2 ⟨rfl,rfl⟩
 have d2:=HE1.out.cell C2.out (by simp)
 have d3:=HE1.out.cell C3.out (by simp)
 go_wp2_with fail
 refine(data_c k l size B P v ss _ (HV.out.ext0 HE1.out) (fun x hx=> (HS.out x hx).ext HE1.out (by simp)) HST.out h8 hk h1 hsz HPL.out).mono ?_
 rintro e W3 ⟨p,c,rfl,hrd,htg,hE3⟩
 have hE03:=HE1.out.trans hE3
 have HRD:=hi_ hrd
 have HTG:Hid (∀y∈blkL (.slice p size c),w.heap.size<=y/\r_ W3 y=some 5):=hi_ (fun y hy=> ⟨Nat.le_trans HE1.out.size (htg y hy).1,(htg y hy).2⟩)
 have HE3:=hi_ hE03
 have d4:=hE03.cell C4.out (by simp)
 have hEd:Ext [] W3 W3.drew:=(Ext.refl [] W3).drew
 clear hrd htg hE3 hE03 d2 d3 HE1 C2 C3 HV HS HST
 go_wp2_with fail
 go_region_held3 (fun W=> W.cell? ⟨un,0,none⟩=some (.string ⟨(shaF (P.take size)).toArray⟩))
  (first | exact hE1'.cell d4 (by simp) | go_keep)
  (first | (go_at_call 108;refine(sum_c _ (P.take size) _ (HRD.out.ext0 hEd) (by rw [HPT.out];omega)).mono ?_;rintro e W4 ⟨rfl,hE1'⟩;have hE4:Ext [] W3 W4:=hEd.trans hE1'))
 have HE4:=hi_ (HE3.out.trans hE4)
 have HR4:=hi_ (HRD.out.ext0 hE4)
 have HT4:Hid (∀y∈blkL (.slice p size c),w.heap.size<=y/\r_ W4 y=some 5):=hi_ (fun y hy=> ⟨(HTG.out y hy).1,aG_ (HTG.out y hy).2 hE4 (by simp)⟩)
 have hf4:=HE4.out.blk C5.out (by simp)
 have hl4:=HE4.out.blk C6.out (by simp)
 have e1:W4.cell? ⟨fn,0,none⟩=some (.slice none 0 0):=by rw [cell_of_row _ _ 0 _ _ _ hf4];rfl
 have e2:W4.cell? ⟨ln,0,none⟩=some (.slice none 0 0):=by rw [cell_of_row _ _ 0 _ _ _ hl4];rfl
 have e3:W4.frozen? ⟨fn,0,none⟩=false:=frozen_of_row _ _ _ _ _ hf4
 have e4:W4.frozen? ⟨ln,0,none⟩=false:=frozen_of_row _ _ _ _ _ hl4
 have hEs:Ext [fn,ln] W4 ((W4.setCell ⟨fn,0,none⟩ (.slice p size c)).setCell ⟨ln,0,none⟩ (.slice none 0 0)):=((Ext.refl _ W4).setCell (.inl (by simp)) _).setCell (.inl (by simp)) _
 have hs1:=heap_setCell_same W4 fn 0 _ _ (.slice p size c) hf4
 have hs2:(W4.setCell ⟨fn,0,none⟩ (.slice p size c)).heap[ln]? =some (.cells #[.slice none 0 0] 208 (0,0)):=((Ext.refl [fn] W4).setCell (.inl (by simp)) _).blk hl4 (by simpa using hne.symm)
 have hs3:=heap_setCell_same _ ln 0 _ _ (.slice none 0 0) hs2
 have hs4:((W4.setCell ⟨fn,0,none⟩ (.slice p size c)).setCell ⟨ln,0,none⟩ (.slice none 0 0)).heap[fn]? =some (.cells #[.slice p size c] 158 (0,0)):=((Ext.refl [ln] _).setCell (.inl (by simp)) _).blk hs1 (by simpa using hne)
 have hk4: ∀y∈blkL (.slice p size c),y∉ [fn,ln]:=fun y hy h=> by
  have h5:=(HT4.out y hy).1
  simp at h
  omega
 obtain⟨HES,HS3,HS4,HK4⟩:=h_4 hEs hs3 hs4 hk4
 clear HRD HTG HE3 d4 hEs hs1 hs2 hs3 hs4 hk4 hf4 hl4 C4 C5 C6
 go_wp2
 go_ret
 exact⟨p,c,rfl,HS4.out,HS3.out,HR4.out.ext HES.out HK4.out,fun y hy=> ⟨(HT4.out y hy).1,aG_ (HT4.out y hy).2 HES.out (HK4.out y hy)⟩,HE4.out.nil.trans HES.out⟩
end Go.Proofs.YtkpgjkekmdecbaaGreat
