/- Lemmas for the claim. No conditions beside those that each states. -/
import Derived.Test.YtkpgjkekmdecbaaGreatOrdAI
import Derived.Test.YtkpgjkekmdecbaaGreatOrdAH
import Derived.BigQuiet
set_option maxRecDepth 100000
set_option maxHeartbeats 8000000
set_option linter.all false

namespace Go.Proofs.YtkpgjkekmdecbaaGreat
open Go.RowKit
variable {w w':World} {T:TypeId} {n:Nat} {bs:List Nat} {Ts:List TypeId} {ws:List (Nat × Nat × List UInt8)}
def EW:Enc (Int×Int×(Option Addr×Nat×Nat)) where
 k:=3
 hk:=by decide
 enc x:= [.int .i64 x.1,.int .i64 x.2.1,.slice x.2.2.1 x.2.2.2.1 x.2.2.2.2]
 len _:=rfl
 one _ v hv:=by simp at hv;rcases hv with rfl | rfl | rfl <;> rfl
theorem tiW:Ti Tryz.prog EW 339 40 (0,0,(none,0,0)):=Ti.mk' (z:= .agg #[.int .i64 0,.int .i64 0,.slice none 0 0]) (by kernel_rfl) rfl
def EBo:Enc Bool where
 k:=1
 hk:=by decide
 enc x:= [.bool x]
 len _:=rfl
 one _ v hv:=by simp at hv;subst hv;rfl
theorem tiBo:Ti Tryz.prog EBo 4 1 false:=Ti.mk' (z:= .bool false) (by kernel_rfl) rfl
theorem flatBo (l:List Bool):EBo.flat l=l.map Value.bool:=by
 induction l with
 | nil=> rfl
 | cons a l ih=> simp [ih];rfl
def eL_ (D S:Nat) (mv:Value) (gg:Nat) (pw:Option Addr) (nw cw:Nat) (left:Int):Array Value:=#[.int .i64 D,.int .i64 S,mv,.slice (some ⟨gg,0,none⟩) D D,.slice pw nw cw,.bool false,.bool false,.int .i64 left]
def Conts (w:World) (rs:List (Int×Int×(Option Addr×Nat×Nat))) (ws:List (Nat×Nat×List UInt8)):Prop:=
 rs.length=ws.length/\ ∀(i:Nat) r x,rs[i]? =some r->ws[i]? =some x->r.1=x.1/\r.2.1=x.2.1/\EB.Ow 5 w (.slice r.2.2.1 r.2.2.2.1 r.2.2.2.2) x.2.2
def RackR (w:World) (b gg D S:Nat) (ws:List (Nat×Nat×List UInt8)):Prop:= ∃mv pw nw cw left rs,
 w.heap[b]? =some (.cells (eL_ D S mv gg pw nw cw left) 143 (0,0))/\w.heap[gg]? =some (.cells (EBo.flat (List.replicate D false)).toArray 4 (0,0))/\
 EW.Ow 339 w (.slice pw nw cw) rs/\Conts w rs ws/\ ∀y∈blkL (.slice pw nw cw),b<=y
theorem rknew_c (D S:Nat) (w:World) (hD1:1<=D) (hD:D<=16) (hS1:1<=S) (hS:S<=2000):
  Calls Tryz.prog 39 #[.int .i64 D,.int .i64 S] w fun e w'=> ∃b gg,e= .returned (.tuple #[.pointer (some ⟨b,0,none⟩),.int .i64 0])/\RackR w' b gg D S []/\w.heap.size<=b/\w.heap.size<=gg/\Ext [] w w':=by
 have m1: ¬((D:Int) < 1):=by omega
 have m2: ¬((16:Int) < (D:Int)):=by omega
 have m3: ¬((S:Int) < 1):=by omega
 have m4: ¬((2000:Int) < (S:Int)):=by omega
 have hmm:=fun w=> run_makeMap (P:=Tryz.prog) 139 w
 go_enter Tryz.func39,Tryz.ntmps39
 go_wp2_with (with_reducible refine f_ (d:=24) ?_)
 refine k_ rfl fun K hK=> ?_
 go_simp
 rw [gL_ (P:=Tryz.prog) tiBo rfl rfl Tryz.underlying140 D D (by omega) (by omega) (by omega)]
 refine hK _ _ ?_
 clear hK hmm
 have hg:=heap_alloc_new (w.alloc (.map #[] 0)) (.cells (EBo.flat (List.replicate D false)).toArray 4)
 have hE:=((Ext.refl [] w).alloc (.map #[] 0)).alloc (.cells (EBo.flat (List.replicate D false)).toArray 4)
 obtain⟨gg,hge⟩: ∃g,g=(w.alloc (.map #[] 0)).heap.size:=⟨_,rfl⟩
 simp only [<-hge] at hg ⊢
 have lg:w.heap.size<=gg:=by rw [hge];simp
 have HG:=hi_ hg
 clear hge hg
 obtain⟨gm,hgm⟩: ∃g,g=w.heap.size:=⟨_,rfl⟩
 simp only [<-hgm]
 have lm:w.heap.size<=gm:=by omega
 revert hE HG
 generalize World.alloc (World.alloc _ _) _=W1
 intro hE HG
 have lW:=g_ HG.out
 clear hgm
 go_wp2
 go_ret2
 have hb:=heap_alloc_new W1 (.cells (eL_ D S (.map (some gm)) gg none 0 0 0) 143)
 have hEa:=(Ext.refl [] W1).alloc (.cells (eL_ D S (.map (some gm)) gg none 0 0 0) 143)
 have hE2:=hE.alloc (.cells (eL_ D S (.map (some gm)) gg none 0 0 0) 143)
 have l1:=hE.size
 exact⟨W1.heap.size,gg,rfl,⟨_,none,0,0,0,[],hb,hEa.blk HG.out (by simp),.inl ⟨rfl,rfl⟩,⟨rfl,fun i r x h=> by simp at h⟩,by simp [blkL]⟩,l1,lg,hE2⟩
theorem RackR.ext0 {b gg D S:Nat} (h:RackR w b gg D S ws) (he:Ext [] w w'):RackR w' b gg D S ws:=by
 obtain⟨mv,pw,nw,cw,left,rs,h1,h2,h3,⟨h4,h5⟩,h6⟩:=h
 exact⟨mv,pw,nw,cw,left,rs,he.blk h1 (by simp),he.blk h2 (by simp),h3.ext0 he,⟨h4,fun i r x hr hx=> ⟨(h5 i r x hr hx).1,(h5 i r x hr hx).2.1,(h5 i r x hr hx).2.2.ext0 he⟩⟩,h6⟩
theorem RackR.extT {b gg D S:Nat} (h:RackR w b gg D S ws) (he:ExtT bs Ts w w') (hb:b∉bs) (hg:gg∉bs) (ht: ∀y∈bs,r_ w y≠some 339/\r_ w y≠some 5) (hT: ∀T∈Ts,T≠143/\T≠4/\T≠339/\T≠5):RackR w' b gg D S ws:=by
 obtain⟨mv,pw,nw,cw,left,rs,h1,h2,h3,⟨h4,h5⟩,h6⟩:=h
 refine⟨mv,pw,nw,cw,left,rs,he.blk h1 hb (fun h=> (hT _ h).1 rfl),he.blk h2 hg (fun h=> (hT _ h).2.1 rfl),h3.extT he (fun y hy hy2=> ?_) (fun h=> (hT _ h).2.2.1 rfl),⟨h4,fun i r x hr hx=> ⟨(h5 i r x hr hx).1,(h5 i r x hr hx).2.1,(h5 i r x hr hx).2.2.extT he (fun y hy hy2=> ?_) (fun h=> (hT _ h).2.2.2 rfl)⟩⟩,h6⟩
 ·obtain⟨c,hc⟩:=h3.tag y hy
  exact(ht y hy2).1 (d_ hc)
 ·obtain⟨c,hc⟩:=(h5 i r x hr hx).2.2.tag y hy
  exact(ht y hy2).2 (d_ hc)
theorem RackR.tag {b gg D S:Nat} (h:RackR w b gg D S ws):r_ w b=some 143/\r_ w gg=some 4:=by
 obtain⟨mv,pw,nw,cw,left,rs,h1,h2,_⟩:=h
 exact⟨d_ h1,d_ h2⟩
theorem eb_ (b gg D S:Nat) (ws:List (Nat×Nat×List UInt8)) (w:World) (h:RackR w b gg D S ws):
  Calls Tryz.prog 69 #[.pointer (some ⟨b,0,none⟩)] w fun e w'=> e= .returned (.int .i64 D)/\w'=w:=by
 obtain⟨mv,pw,nw,cw,left,rs,h1,_⟩:=h
 have c0:w.cell? ⟨b,0,none⟩=some (.int .i64 D):=by rw [cell_of_row w b 0 _ _ _ h1];rfl
 clear h1
 go_enter Tryz.func69,Tryz.ntmps69
 go_wp2
 go_ret
 exact⟨rfl,rfl⟩
theorem dx_ (b gg D S:Nat) (ws:List (Nat×Nat×List UInt8)) (w:World) (h:RackR w b gg D S ws):
  Calls Tryz.prog 63 #[.pointer (some ⟨b,0,none⟩)] w fun e w'=> e= .returned (.int .i64 S)/\w'=w:=by
 obtain⟨mv,pw,nw,cw,left,rs,h1,_⟩:=h
 have c0:w.cell? ⟨b,1,none⟩=some (.int .i64 S):=by rw [cell_of_row w b 1 _ _ _ h1];rfl
 clear h1
 go_enter Tryz.func63,Tryz.ntmps63
 go_wp2
 go_ret
 exact⟨rfl,rfl⟩
theorem rkis_c (b gg D S:Nat) (ws:List (Nat×Nat×List UInt8)) (d:Nat) (w:World) (h:RackR w b gg D S ws) (hd:d < D):
  Calls Tryz.prog 210 #[.pointer (some ⟨b,0,none⟩),.int .i64 d] w fun e w'=> e= .returned (.bool true)/\w'=w:=by
 obtain⟨mv,pw,nw,cw,left,rs,h1,_⟩:=h
 have c0:w.cell? ⟨b,0,none⟩=some (.int .i64 D):=by rw [cell_of_row w b 0 _ _ _ h1];rfl
 have z1:(0:Int)<=(d:Int):=by omega
 have z2:(d:Int) < (D:Int):=by omega
 clear h1
 go_enter Tryz.func210,Tryz.ntmps210
 go_wp2
 go_ret
 exact⟨rfl,rfl⟩
theorem rkin_c (b gg D S:Nat) (ws:List (Nat×Nat×List UInt8)) (d a:Nat) (w:World) (h:RackR w b gg D S ws) (hd:d < D) (ha:a < S):
  Calls Tryz.prog 202 #[.pointer (some ⟨b,0,none⟩),.int .i64 d,.int .i64 a] w fun e w'=> e= .returned (.bool true)/\w'=w:=by
 have HR:=hi_ h
 obtain⟨mv,pw,nw,cw,left,rs,h1,_⟩:=h
 have c0:w.cell? ⟨b,1,none⟩=some (.int .i64 S):=by rw [cell_of_row w b 1 _ _ _ h1];rfl
 have z1:(0:Int)<=(a:Int):=by omega
 have z2:(a:Int) < (S:Int):=by omega
 clear h1
 go_enter Tryz.func202,Tryz.ntmps202
 go_wp2_with fail
 refine(rkis_c b gg D S ws d _ HR.out hd).mono ?_
 rintro e w' ⟨rfl,rfl⟩
 go_wp2
 go_ret
 exact⟨rfl,rfl⟩
theorem hq_ (b gg D S:Nat) (ws:List (Nat×Nat×List UInt8)) (d:Nat) (w:World) (h:RackR w b gg D S ws) (hd:d < D):
  Calls Tryz.prog 188 #[.pointer (some ⟨b,0,none⟩),.int .i64 d] w fun e w'=> e= .returned (.bool false)/\w'=w:=by
 have HR:=hi_ h
 obtain⟨mv,pw,nw,cw,left,rs,h1,h2,_⟩:=h
 have c0:w.cell? ⟨b,3,none⟩=some (.slice (some ⟨gg,0,none⟩) D D):=by rw [cell_of_row w b 3 _ _ _ h1];rfl
 have c1:w.cell? ⟨gg,d,none⟩=some (.bool false):=by rw [cell_of_row w gg d _ _ _ h2];simp [flatBo,hd]
 have z1:(0:Int)<=(d:Int):=by omega
 have z2:(d:Int) < (D:Int):=by omega
 clear h1 h2
 go_enter Tryz.func188,Tryz.ntmps188
 go_wp2_with fail
 refine(rkis_c b gg D S ws d _ HR.out hd).mono ?_
 rintro e w' ⟨rfl,rfl⟩
 go_wp2
 go_ret
 exact⟨rfl,rfl⟩
theorem rkspend_c (b gg D S:Nat) (ws:List (Nat×Nat×List UInt8)) (w:World) (h:RackR w b gg D S ws):
  Calls Tryz.prog 213 #[.pointer (some ⟨b,0,none⟩)] w fun e w'=> e= .returned (.bool true)/\w'=w:=by
 obtain⟨mv,pw,nw,cw,left,rs,h1,_⟩:=h
 have c0:w.cell? ⟨b,5,none⟩=some (.bool false):=by rw [cell_of_row w b 5 _ _ _ h1];rfl
 have c1:w.cell? ⟨b,6,none⟩=some (.bool false):=by rw [cell_of_row w b 6 _ _ _ h1];rfl
 clear h1
 go_enter Tryz.func213,Tryz.ntmps213
 go_wp2
 go_ret
 exact⟨rfl,rfl⟩
theorem one_rdW {W0:World} (h:n=W0.heap.size) (d a:Int) (x:Option Addr×Nat×Nat):EW.Rd (W0.alloc (.cells #[.int .i64 d,.int .i64 a,.slice x.1 x.2.1 x.2.2] T)) (.slice (some ⟨n,0,none⟩) 1 1) [(d,a,x)]:=by
 subst h
 refine .inr ⟨W0.heap.size,0,1,rfl,Nat.le_refl _,by simp,fun j u hj=> ?_⟩
 rw [cell_of_row _ W0.heap.size _ _ _ _ (heap_alloc_new _ _)]
 match j,hj with
 | 0,hj=> exact hj
 | 1,hj=> exact hj
 | 2,hj=> exact hj
 | j+3,hj=> simp [EW,Enc.flat] at hj
theorem rkwrite_c (b gg D S:Nat) (ws:List (Nat×Nat×List UInt8)) (d at_:Nat) (v:Value) (bs:List UInt8) (w:World) (h:RackR w b gg D S ws) (hd:d < D) (ha:at_ < S) (hv:EB.Rd w v bs) (hbl:bs.length=128) (hwl:ws.length<=1000000):
  Calls Tryz.prog 191 #[.pointer (some ⟨b,0,none⟩),.int .i64 d,.int .i64 at_,v] w fun e w'=> e= .returned (.int .i64 0)/\RackR w' b gg D S (ws++ [(d,at_,bs)])/\ExtT [b] [339] w w':=by
 have HR:=hi_ h
 obtain⟨p,c,rfl,_⟩:=hv.len_eq
 have HV:=hi_ hv
 obtain⟨mv,pw,nw,cw,left,rs,h1,h2,h3,h4,h6⟩:=h
 have H6:=hi_ h6
 have hblt:=g_ h1
 clear h6
 have c3:w.cell? ⟨b,3,none⟩=some (.slice (some ⟨gg,0,none⟩) D D):=by rw [cell_of_row w b 3 _ _ _ h1];rfl
 have c4:w.cell? ⟨b,4,none⟩=some (.slice pw nw cw):=by rw [cell_of_row w b 4 _ _ _ h1];rfl
 have cg:w.cell? ⟨gg,d,none⟩=some (.bool false):=by rw [cell_of_row w gg d _ _ _ h2];simp [flatBo,hd]
 have z1:(0:Int)<=(d:Int):=by omega
 have z2:(d:Int) < (D:Int):=by omega
 have hbn:=h3.ne h1 (by decide)
 have hbg:b≠gg:=by
  rintro rfl
  rw [h1] at h2
  simp only [Option.some.injEq,Obj.cells.injEq] at h2
  exact absurd h2.2.1 (by decide)
 obtain⟨H1,H2,H3,H4,HBN⟩:=h_5 h1 h2 h3 h4 hbn
 rw [hbl]
 rw [hbl] at hv
 clear h1 h2 h3 h4 hv hbn
 go_enter Tryz.func191,Tryz.ntmps191
 go_wp2_with fail
 refine(rkin_c b gg D S ws d at_ _ HR.out hd ha).mono ?_
 rintro e W1 ⟨rfl,rfl⟩
 go_wp2_with fail
 refine(rkspend_c b gg D S ws _ HR.out).mono ?_
 rintro e W1 ⟨rfl,rfl⟩
 go_wp2_with fail
 have hD:=(Ext.refl [] W1).drew
 refine e_ (fun W=> W.cell? ⟨b,4,none⟩=some (.slice pw nw cw)) (fun i=> decide (i < 15)) (by kernel_rfl) (hD.cell c4 (by simp)) (fun hS=> ?_)
 refine ta 0 ?_;(try go_frame)
 refine ta 1 ?_;(try go_frame)
 refine ta 2 ?_;(try go_frame)
 refine ta 3 ?_;(try go_frame)
 refine ta 4 ?_;(try go_frame)
 refine ta 5 ?_;(try go_frame)
 refine ta 6 ?_;(try go_frame)
 refine ta 7 ?_;(try go_frame)
 refine ta 8 ?_;(try go_frame)
 refine a_ (i:=9) (by kernel_rfl) rfl (fun K hK=> ?_)
 (try simp only [Act.put,zA,zB,zC,List.setIfInBounds_toArray,zD,zE]);refine iw rfl ?_
 go_simp
 have hv1:EB.Rd W1.drew (.slice p 128 c) bs:=by have h:=HV.out.ext0 hD;rw [hbl] at h;exact h
 refine(cx_ _ bs _ (by omega) hv1).mono ?_
 rintro e W5 ⟨v5,rfl,how5,hE5,hnew5, -⟩
 have s5:=hE5.cell hS (by simp)
 refine hK _ _ (fun _=> s5) (fun _=> ?_)
 have hE05:=hD.trans hE5
 obtain⟨p5,c5,rfl,_⟩:=how5.rd.len_eq
 rw [hbl] at how5 hnew5 ⊢
 obtain⟨HO5,HN5,HE5⟩:=h_3 how5 hnew5 hE05
 clear hS hE5 hE05 how5 hnew5 hv1 hK hD
 refine ta 10 ?_;(try go_frame)
 simp only [zA,zB,zC,zD,zE]
 refine a_ (i:=11) (by kernel_rfl) rfl (fun K hK=> ?_)
 refine iw rfl ?_
 go_simp
 have hEa:=(Ext.refl [] W5).alloc (.cells #[.int .i64 d,.int .i64 at_,.slice p5 128 c5] 339)
 have s6:=hEa.cell s5 (by simp)
 have h36:=(H3.out.ext0 HE5.out).ext0 hEa
 have hrd6:=one_rdW (T:=339) (W0:=W5) rfl d at_ (p5,128,c5)
 obtain⟨H36,HR6,HEA⟩:=h_3 h36 hrd6 hEa
 refine hK _ _ (fun _=> s6) (fun _=> ?_)
 clear hK s5 hEa h36 hrd6
 refine a_ (i:=12) (by kernel_rfl) rfl (fun K hK=> ?_)
 (try simp only [Act.put,zA,zB,zC,List.setIfInBounds_toArray,zD,zE]);refine iw rfl ?_
 refine b_ (s:= .tmp 36) (x:= .tmp 43) (E:=EW) (T:=339) (zero:=(0,0,(none,0,0))) (bytes:=40) (v:= .slice pw nw cw) (xs:=rs) (ys:= [((d:Int),(at_:Int),(p5,128,c5))]) tiW Tryz.underlying141 Tryz.underlying141 rfl rfl rfl H36.out HR6.out (by have:=H4.out.1;simp;omega) (by have:=H4.out.1;simp;omega) ?_
 intro v7 W7 how7 hE7 hnear7 _
 have s7:=hE7.cell s6 (by intro h;exact HBN.out b h rfl)
 refine hK _ _ (fun _=> s7) (fun _=> ?_)
 have hE07:Ext (blkL (.slice pw nw cw)) W1 W7:=((HE5.out.trans HEA.out).nil).trans hE7
 have hb7:=hE07.blk H1.out (fun h=> HBN.out b h rfl)
 have hg7:=hE07.blk H2.out (fun h=> by
  obtain⟨x,hx⟩:=H3.out.tag gg h
  rw [H2.out] at hx
  simp only [Option.some.injEq,Obj.cells.injEq] at hx
  exact absurd hx.2.1 (by decide))
 have hfz: ∀j,W7.frozen? ⟨b,j,none⟩=false:=fun j=> frozen_of_row _ _ _ _ _ hb7
 have ho7:EB.Ow 5 W7 (.slice p5 128 c5) bs:=(HO5.out.ext0 HEA.out).ext hE7 (fun y hy hy2=> by
  have h1:=HN5.out y hy
  have h2:=H3.out.lt y hy2
  simp at h1
  omega)
 obtain⟨p7,c7,rfl,_⟩:=how7.rd.len_eq
 obtain⟨n7,hn7⟩: ∃n,n=(rs++ [((d:Int),(at_:Int),(p5,128,c5))]).length:=⟨_,rfl⟩
 rw [<-hn7] at how7 hnear7 ⊢
 clear hn7
 have hcont:Conts W7 (rs++ [((d:Int),(at_:Int),(p5,128,c5))]) (ws++ [(d,at_,bs)]):=by
  refine⟨by simp [H4.out.1],fun i r x hr hx=> ?_⟩
  by_cases hi:i < rs.length
  ·rw [List.getElem?_append_left hi] at hr
   rw [List.getElem?_append_left (by rw [<-H4.out.1];exact hi)] at hx
   obtain⟨h1,h2,h3⟩:=H4.out.2 i r x hr hx
   refine⟨h1,h2,h3.ext hE07 (fun y hy hy2=> ?_)⟩
   obtain⟨c1,hc1⟩:=h3.tag y hy
   obtain⟨c2,hc2⟩:=H3.out.tag y hy2
   rw [hc1] at hc2
   simp only [Option.some.injEq,Obj.cells.injEq] at hc2
   exact absurd hc2.2.1 (by decide)
  ·have hl:i < (rs++ [((d:Int),(at_:Int),(p5,128,c5))]).length:=(List.getElem?_eq_some_iff.1 hr).1
   simp at hl
   obtain rfl:i=rs.length:=by omega
   rw [List.getElem?_append_right (Nat.le_refl _)] at hr
   rw [List.getElem?_append_right (by rw [H4.out.1];exact Nat.le_refl _),H4.out.1] at hx
   simp at hr hx
   subst hr hx
   exact⟨rfl,rfl,ho7⟩
 obtain⟨HB7,HG7,HO7,HC7,HE07⟩:=h_5 hb7 hg7 how7 hcont hE07
 have HNE:=hi_ (how7.ne hb7 (by decide))
 have hn7: ∀y∈blkL (.slice p7 n7 c7),b<=y:=fun y hy=> by
  rcases hnear7 y hy with h | h
  ·exact H6.out y h
  ·have h1:=HE5.out.size
   have h2:=HEA.out.size
   omega
 have HN7:=hi_ hn7
 clear hK s6 how7 hE7 hnear7 hb7 hg7 ho7 hcont hE07 hn7
 refine ta 13 ?_;(try go_frame)
 simp only [zA,zB,zC,zD,zE]
 refine ta 14 ?_;(try go_frame)
 simp only [zA,zB,zC,zD,zE]
 refine a_ (i:=15) (by kernel_rfl) rfl (fun K hK=> ?_)
 refine iw rfl ?_
 go_simp
 refine hK _ _ (fun h=> by cases h) (fun _=> ?_)
 refine c_ (by kernel_rfl) ?_ _
 clear hK hfz s7
 go_wp2
 go_ret
 have hE8:Ext [b] W7 (W7.setCell ⟨b,4,none⟩ (.slice p7 n7 c7)):=(Ext.refl [b] W7).setCell (.inl (by simp)) _
 have hb8:=heap_setCell_same W7 b 4 _ _ (.slice p7 n7 c7) HB7.out
 refine⟨rfl,⟨mv,p7,_,c7,left,_,hb8,hE8.blk HG7.out (by simpa using hbg.symm),HO7.out.ext hE8 (fun y hy=> by simpa using HNE.out y hy),⟨HC7.out.1,fun i r x hr hx=> ?_⟩,HN7.out⟩, ?_⟩
 ·obtain⟨h1,h2,h3⟩:=HC7.out.2 i r x hr hx
  exact⟨h1,h2,h3.ext hE8 (fun y hy=> by simpa using h3.ne HB7.out (by decide) y hy)⟩
 ·refine ExtT.of (S:=b::blkL (.slice pw nw cw)) ((HE07.out.mono (fun x hx=> .inl (by simp [hx]))).trans (hE8.mono (by simp))) (fun y hy=> ?_)
  rcases List.mem_cons.1 hy with h | h
  ·exact .inl (by simp [h])
  ·obtain⟨x,hx⟩:=H3.out.tag y h
   exact .inr (.inl ⟨_,by simp,d_ hx,b,by simp,H6.out y h⟩)
def ArrR (w:World) (a r D F:Nat):Prop:=w.heap[a]? =some (.cells #[.pointer (some ⟨r,0,none⟩),.int .i64 D,.int .i64 F] 127 (0,0))
theorem ArrR.ext0 {a r D F:Nat} (h:ArrR w a r D F) (he:Ext [] w w'):ArrR w' a r D F:=he.blk h (by simp)
theorem ArrR.extT {a r D F:Nat} (h:ArrR w a r D F) (he:ExtT bs Ts w w') (hb:a∉bs) (hT:127∉Ts):ArrR w' a r D F:=he.blk h hb hT
theorem arnew_c (b gg D S F:Nat) (ws:List (Nat×Nat×List UInt8)) (w:World) (h:RackR w b gg D S ws) (hD:5<=D) (hF:F < S):
  Calls Tryz.prog 40 #[.pointer (some ⟨b,0,none⟩),.int .i64 F] w fun e w'=> ∃a,e= .returned (.tuple #[.pointer (some ⟨a,0,none⟩),.int .i64 0])/\ArrR w' a b D F/\w.heap.size<=a/\Ext [] w w':=by
 have HR:=hi_ h
 have m1: ¬((D:Int) < 5):=by omega
 have m2: ¬((F:Int) < 0):=by omega
 have m3: ¬((S:Int)<=(F:Int)):=by omega
 clear h
 go_enter Tryz.func40,Tryz.ntmps40
 go_wp2_with fail
 refine(eb_ b gg D S ws _ HR.out).mono ?_
 rintro e W1 ⟨rfl,rfl⟩
 go_wp2_with fail
 refine(dx_ b gg D S ws _ HR.out).mono ?_
 rintro e W1 ⟨rfl,rfl⟩
 go_wp2_with fail
 refine(eb_ b gg D S ws _ HR.out).mono ?_
 rintro e W1 ⟨rfl,rfl⟩
 go_wp2
 go_ret2
 exact⟨_,rfl,heap_alloc_new W1 _,Nat.le_refl _,(Ext.refl [] W1).alloc _⟩
theorem gq_ (a b gg D S F:Nat) (ws:List (Nat×Nat×List UInt8)) (w:World) (h:RackR w b gg D S ws) (ha:ArrR w a b D F) (hD:D<=16) (hS:S<=2000) (hF:F<=S):
  Calls Tryz.prog 34 #[.pointer (some ⟨a,0,none⟩)] w fun e w'=> e= .returned (.int .i64 ((D*(S - F):Nat):Int))/\Ext [] w w':=by
 have HR:=hi_ h
 have c0:w.cell? ⟨a,0,none⟩=some (.pointer (some ⟨b,0,none⟩)):=by rw [cell_of_row w a 0 _ _ _ ha];rfl
 have c1:w.cell? ⟨a,1,none⟩=some (.int .i64 D):=by rw [cell_of_row w a 1 _ _ _ ha];rfl
 have c2:w.cell? ⟨a,2,none⟩=some (.int .i64 F):=by rw [cell_of_row w a 2 _ _ _ ha];rfl
 have w1:IntKind.i64.wrap ((S:Int) - (F:Int))=((S - F:Nat):Int):=by rw [IntWalk.i64_in _ (by omega)];omega
 have hm:D*(S - F)<=16*2000:=Nat.mul_le_mul hD (by omega)
 have w2:IntKind.i64.wrap ((D:Int)*((S - F:Nat):Int))=((D*(S - F):Nat):Int):=by rw [<-Int.natCast_mul];exact IntWalk.i64_in _ (by omega)
 obtain⟨x,hx⟩: ∃x,x=S - F:=⟨_,rfl⟩
 rw [<-hx] at w1 w2 hm ⊢
 obtain⟨y,hy⟩: ∃y,y=D*x:=⟨_,rfl⟩
 rw [<-hy] at w2 hm ⊢
 clear h ha hx hy
 go_enter Tryz.func34,Tryz.ntmps34
 go_wp2_with fail
 go_big_quiet ((go_at_call 63;refine Calls.quiet_of_same (dx_ b gg D S ws _ (HR.out.ext0 ((Ext.refl [] _).drewN _)))))
 go_wp2
 go_ret
 exact⟨rfl,(Ext.refl _ _).drewN _⟩
def ax_ (k:Nat) (a:Int) (l:Nat):List Rng:=if l=0 then [] else (a,((min l (k+1):Nat):Int))::ax_ k (a+(min l (k+1):Nat)+3) (l - min l (k+1))
termination_by l
decreasing_by omega
theorem ao_ (k:Nat) (a:Int):ax_ k a 0= []:=by rw [ax_];rfl
theorem Y_ (k:Nat) (a:Int) (l:Nat) (h:l≠0):ax_ k a l=(a,((min l (k+1):Nat):Int))::ax_ k (a+(min l (k+1):Nat)+3) (l - min l (k+1)):=by rw [ax_,if_neg h]
theorem tiRow:Ti Tryz.prog ER 131 16 (0,0):=Ti.mk' (z:= .agg #[.int .i64 0,.int .i64 0]) (by kernel_rfl) rfl
theorem one_rdRw (W0:World) (f k:Int):ER.Rd (W0.alloc (.cells #[.int .i64 f,.int .i64 k] T)) (.slice (some ⟨W0.heap.size,0,none⟩) 1 1) [(f,k)]:=by
 refine .inr ⟨W0.heap.size,0,1,rfl,Nat.le_refl _,by simp,fun j u hj=> ?_⟩
 rw [cell_of_row _ W0.heap.size _ _ _ _ (heap_alloc_new _ _)]
 match j,hj with
 | 0,hj=> exact hj
 | 1,hj=> exact hj
 | j+2,hj=> simp [ER,Enc.flat] at hj
theorem fg_ (a r k F:Nat) (addr:Int) (size:Nat) (w:World) (ha:ArrR w a r (k+4) F) (hk:k<=100) (h0:0<=addr) (h1:addr<=1000000) (hs1:1<=size) (hs:size<=1024):
  Calls Tryz.prog 64 #[.pointer (some ⟨a,0,none⟩),.int .i64 addr,.int .i64 size] w fun e w'=> ∃v,e= .returned v/\ER.Ow 131 w' v (ax_ k addr ((size+127) / 128))/\(∀y∈blkL v,w.heap.size<=y)/\Ext [] w w':=by
 have c1:w.cell? ⟨a,1,none⟩=some (.int .i64 ((k+4:Nat):Int)):=by rw [cell_of_row w a 1 _ _ _ ha];rfl
 have w1:IntKind.i64.wrap ((size:Int)+128)=(size:Int)+128:=IntWalk.i64_in _ (by omega)
 have w2:IntKind.i64.wrap ((size:Int)+128 - 1)=(size:Int)+128 - 1:=IntWalk.i64_in _ (by omega)
 obtain⟨l0,hl0⟩: ∃l,l=(size+127) / 128:=⟨_,rfl⟩
 have w3:((size:Int)+128 - 1).tdiv 128=(l0:Int):=by rw [Int.tdiv_eq_ediv_of_nonneg (by omega)];omega
 have hl8:l0<=8:=by omega
 rw [<-hl0]
 clear hl0 ha
 go_enter Tryz.func64,Tryz.ntmps64
 go_wp2_with fail
 go_loopw [1,7,8,9] (fun av ov lv _ wr=> ∃(a':Int) (l:Nat) (xs:List Rng),av= .int .i64 a'/\lv= .int .i64 l/\0<=a'/\a'+4*l<=addr+4*l0/\l<=l0/\xs.length+l<=l0/\Ext [] w wr/\Hid (xs++ax_ k a' l=ax_ k addr l0)/\Hid (ER.Ow 131 wr ov xs/\ ∀y∈blkL ov,w.heap.size<=y)) (fun _ _ lv _ _=> (intOf lv).toNat)
 case atStart=> exact⟨addr,l0,[],rfl,rfl,h0,by omega,by omega,by simp,Ext.refl _ _,rfl,.inl ⟨rfl,rfl⟩,by simp [blkL]⟩
 case round=>
  obtain⟨a',l,xs,rfl,rfl,ha0,hb0,hl,hxl,hE,HX,HO⟩:=hrel
  by_cases hpos:0 < l
  ·have z1:(0:Int) < (l:Int):=by omega
   have HXS:Hid ((xs++ [(a',((min l (k+1):Nat):Int))])++ax_ k (a'+(min l (k+1):Nat)+3) (l - min l (k+1))=ax_ k addr l0):=by
    rw [List.append_assoc,List.singleton_append,<-Y_ k a' l (by omega)]
    exact HX
   have m1:1<=min l (k+1):=by omega
   have m2:min l (k+1)<=l:=by omega
   have m3:min l (k+1)<=k+1:=by omega
   have c1':=hE.cell c1 (by simp)
   have w4:IntKind.i64.wrap (((k+4:Nat):Int) - 3)=((k+1:Nat):Int):=by rw [IntWalk.i64_in _ (by omega)];omega
   obtain⟨K1,hK1⟩: ∃K,K=k+1:=⟨_,rfl⟩
   obtain⟨D,hD⟩: ∃K,K=k+4:=⟨_,rfl⟩
   rw [<-hD] at c1' w4
   rw [<-hK1] at w4
   have hmin:min (l:Int) (K1:Int)=((min l K1:Nat):Int):=by omega
   rw [<-hK1] at m1 m2 m3 HXS
   obtain⟨M,hM⟩: ∃M,M=min l K1:=⟨_,rfl⟩
   rw [<-hM] at hmin m1 m2 m3 HXS
   obtain⟨pv,cv,rfl,_⟩:=HO.out.1.rd.len_eq
   obtain⟨nx,hnx⟩: ∃n,n=xs.length:=⟨_,rfl⟩
   rw [<-hnx] at HO hxl ⊢
   have HNX:=hi_ hnx
   clear hK1 hM hnx c1 hD
   go_wp2_with (with_reducible refine f_ (d:=28) ?_)
   refine k_ rfl fun K hK=> b_ (E:=ER) (T:=131) (zero:=(0,0)) (bytes:=16) (v:= .slice pv nx cv) (xs:=xs) (ys:= [(a',(M:Int))]) tiRow Tryz.underlying128 Tryz.underlying128 rfl rfl rfl (HO.out.1.ext0 ((Ext.refl [] _).alloc _)) (one_rdRw _ _ _) (by rw [<-HNX.out];simp;omega) (by rw [<-HNX.out];simp;omega) ?_
   intro v7 W7 how7 hE7 hnear7 _
   refine hK _ _ ?_
   clear hK
   have hw7:Ext [] w W7:=(hE.alloc _).trans' hE7 (by simp) (fun y hy=> .inr (HO.out.2 y hy))
   have hn7: ∀y∈blkL v7,w.heap.size<=y:=fun y hy=> by
    rcases hnear7 y hy with h | h
    ·exact HO.out.2 y h
    ·have:=hE.size;simp at h;omega
   obtain⟨HO7,HN7⟩:=h_2 how7 hn7
   have w5:IntKind.i64.wrap (a'+(M:Int))=a'+M:=IntWalk.i64_in _ (by omega)
   have w6:IntKind.i64.wrap (a'+(M:Int)+3)=a'+M+3:=IntWalk.i64_in _ (by omega)
   have w7:IntKind.i64.wrap ((l:Int) - (M:Int))=((l - M:Nat):Int):=by rw [IntWalk.i64_in _ (by omega)];omega
   clear how7 hE7 hnear7 hn7 c1'
   go_wp2_with fail
   go_roundw
   case rel=> exact⟨a'+M+3,l - M,xs++ [(a',(M:Int))],by first | rfl | trivial,by first | rfl | trivial,by omega,by omega,by omega,by rw [List.length_append,<-HNX.out];simp;omega,hw7,HXS,HO7.out,HN7.out⟩
   case measure=> simp [intOf];omega
  ·obtain rfl:l=0:=by omega
   have hx:=HX.out
   rw [ao_,List.append_nil] at hx
   have HXX:=hi_ hx
   clear hx
   go_wp2
   go_ret
   rw [<-HXX.out]
   exact⟨_,rfl,HO.out.1,HO.out.2,hE⟩
def aI_ (xs:List Rng):Int:=(xs.map (fun r=> r.2+3)).sum
theorem iE_ (s:List Rng) (k:Nat) (h:k < s.length):aI_ (s.take (k+1))=aI_ (s.take k)+((s.getD k (0,0)).2+3):=by
 rw [List.take_succ_eq_append_getElem h,aI_,List.map_append,List.sum_append,aI_]
 simp [List.getD,h]
theorem il_ (k:Nat): ∀(l:Nat) (a:Int),∀r∈ax_ k a l,1<=r.2/\r.2<=l:=by
 intro l
 induction l using Nat.strongRecOn with
 | _ l ih=>
  intro a r hr
  by_cases h:l=0
  ·subst h;rw [ao_] at hr;cases hr
  ·rw [Y_ k a l h] at hr
   rcases List.mem_cons.1 hr with rfl | hr
   ·simp only;omega
   ·have:=ih (l - min l (k+1)) (by omega) _ r hr
    omega
theorem dv_ (k:Nat): ∀(l:Nat) (a:Int),(ax_ k a l).length<=l:=by
 intro l
 induction l using Nat.strongRecOn with
 | _ l ih=>
  intro a
  by_cases h:l=0
  ·subst h;rw [ao_];simp
  ·rw [Y_ k a l h,List.length_cons]
   have:=ih (l - min l (k+1)) (by omega) (a+(min l (k+1):Nat)+3)
   omega
theorem bo_ (k:Nat): ∀(l:Nat) (a b:Int),aI_ (ax_ k a l)=aI_ (ax_ k b l)/\aI_ (ax_ k a l)<=4*l/\(1<=l->(l:Int)+3<=aI_ (ax_ k a l))/\0<=aI_ (ax_ k a l):=by
 intro l
 induction l using Nat.strongRecOn with
 | _ l ih=>
  intro a b
  by_cases h:l=0
  ·subst h;simp [ao_,aI_]
  ·rw [Y_ k a l h,Y_ k b l h]
   obtain⟨h1,h2,h3,h4⟩:=ih (l - min l (k+1)) (by omega) (a+(min l (k+1):Nat)+3) (b+(min l (k+1):Nat)+3)
   simp only [aI_,List.map_cons,List.sum_cons] at h1 h2 h3 h4 ⊢
   omega
theorem hN_: ∀(xs:List Rng),(∀r∈xs,1<=r.2/\r.2<=8)->0<=aI_ xs/\aI_ xs<=11*xs.length
 | [],_=> by simp [aI_]
 | x::xs,h=> by
  have h1:=hN_ xs (fun r hr=> h r (by simp [hr]))
  have h2:=h x (by simp)
  simp only [aI_,List.map_cons,List.sum_cons,List.length_cons] at h1 ⊢
  omega
def B_ (k size:Nat):Nat:=(aI_ (ax_ k 0 ((size+127) / 128))).toNat
theorem dg_ (k size:Nat) (a:Int):((B_ k size:Nat):Int)=aI_ (ax_ k a ((size+127) / 128)):=by
 have h:=bo_ k ((size+127) / 128) 0 a
 rw [B_,Int.toNat_of_nonneg h.2.2.2,h.1]
theorem aP_ (k size:Nat) (h1:1<=size) (h2:size<=1024):4<=B_ k size/\B_ k size<=32:=by
 have h:=bo_ k ((size+127) / 128) 0 0
 rw [B_]
 omega
theorem fh_ (a r k F:Nat) (size:Nat) (w:World) (ha:ArrR w a r (k+4) F) (hk:k<=100) (hs1:1<=size) (hs:size<=1024):
  Calls Tryz.prog 36 #[.pointer (some ⟨a,0,none⟩),.int .i64 size] w fun e w'=> e= .returned (.tuple #[.int .i64 (B_ k size),.int .i64 0])/\Ext [] w w':=by
 have HA:=hi_ ha
 have m1: ¬((size:Int) < 1):=by omega
 have m2: ¬((1024:Int) < (size:Int)):=by omega
 have h8:(size+127) / 128<=8:=by omega
 have hce:=dg_ k size 0
 have hrl:=dv_ k ((size+127) / 128) 0
 have hrd:=il_ k ((size+127) / 128) 0
 obtain⟨C,hC⟩: ∃C,C=B_ k size:=⟨_,rfl⟩
 rw [<-hC] at hce ⊢
 clear ha hC
 go_enter Tryz.func36,Tryz.ntmps36
 go_wp2_with fail
 refine(fg_ a r k F 0 size _ HA.out hk (by omega) (by omega) hs1 hs).mono ?_
 rintro e W1 ⟨v,rfl,how,hnew,hE⟩
 obtain⟨p,cap,rfl,hcap⟩:=how.rd.len_eq
 have HV:=hi_ how.rd
 clear how hnew
 obtain⟨s,hs'⟩: ∃s,s=ax_ k 0 ((size+127) / 128):=⟨_,rfl⟩
 rw [<-hs'] at hce hrl hrd HV ⊢
 have HCE:=hi_ hce
 have HD:=hi_ (fun r hr=> ⟨(hrd r hr).1,show r.2<=8 by have:=(hrd r hr).2;omega⟩: ∀r∈s,1<=r.2/\r.2<=8)
 have hsl:s.length<=8:=by omega
 clear hs' hce hrd hrl hcap
 go_wp2_with fail
 go_loopw [6,8,23] (fun n _ i wr=> ∃q:Nat,q<=s.length/\i= .int .i64 q/\n= .int .i64 (aI_ (s.take q))/\Ext [] W1 wr) (fun _ _ i _=> s.length - (intOf i).toNat)
 case atStart=> exact⟨0,Nat.zero_le _,rfl,rfl,Ext.refl _ _⟩
 case round=>
  obtain⟨q,hq,rfl,rfl,hB⟩:=hrel
  by_cases hlt:q < s.length
  ·have hv1:=HV.out.ext0 hB
   obtain⟨g,o,rfl⟩: ∃g o,p=some ⟨g,o,none⟩:=by
    rcases HV.out with ⟨_,h⟩ | ⟨g,o,c,h,_⟩
    ·rw [h] at hlt;simp at hlt
    ·cases h;exact⟨g,o,rfl⟩
   obtain⟨hm1,hm2⟩:=E_ hv1 q hlt
   have HT:=hi_ (iE_ s q hlt)
   have b1:=hN_ (s.take q) (fun r hr=> HD.out r (List.mem_of_mem_take hr))
   have b2:(s.take q).length<=8:=by simp;omega
   have b5:1<=(s.getD q (0,0)).2/\(s.getD q (0,0)).2<=8:=HD.out _ (by simp [List.getD,hlt])
   generalize s.getD q (0,0)=x at*
   obtain⟨C',hC⟩: ∃C,C=aI_ (s.take q):=⟨_,rfl⟩
   rw [<-hC] at b1
   rw [<-hC]
   have HC:=hi_ hC
   have w1:IntKind.i64.wrap (x.2+3)=x.2+3:=IntWalk.i64_in _ (by omega)
   have w2:IntKind.i64.wrap (C'+(x.2+3))=C'+(x.2+3):=IntWalk.i64_in _ (by omega)
   clear hv1 hC b1 b2 b5
   go_wp2
   go_roundw
   case rel=> exact⟨q+1,by omega,by go_num,by rw [HT.out,<-HC.out],hB.alloc _⟩
   case measure=> simp [intOf];omega
  ·have hfin:aI_ (s.take q)=C:=by rw [List.take_of_length_le (by omega)];exact HCE.out.symm
   rw [hfin]
   have z1: ¬((q:Int) < (s.length:Int)):=by omega
   clear hfin
   go_wp2
   go_ret2
   exact⟨rfl,hE.trans hB⟩
end Go.Proofs.YtkpgjkekmdecbaaGreat
