/- Lemmas for the claim. No conditions beside those that each states. -/
import Derived.Test.YtkpgjkekmdecbaaGreatOrdAC
import Derived.Laws.IdiomStrings
set_option maxRecDepth 100000
set_option maxHeartbeats 8000000
set_option linter.all false

namespace Go.Proofs.YtkpgjkekmdecbaaGreat
open Go.RowKit
variable {w:World} {T:TypeId} {n g:Nat}
theorem J_ {L:List Int} (h:L.length=n):(EU.flat L).toArray.size=n:=by rw [List.size_toArray,EU.length_flat,h];exact Nat.mul_one n
theorem bL_ (L:List Int):(EU.flat L).toArray.all (·.oneCell')=true:=Array.all_eq_true_iff_forall_mem.2 (fun v hv=> EU.one_flat L v (by simpa using hv))
theorem infoS:(Tryz.prog.info? 247).map (·.size)=some 8:=by kernel_rfl
theorem infoW:(Tryz.prog.info? 249).map (·.size)=some 64:=by kernel_rfl
theorem rowU_agg (L:List Int):(L.map (Value.int .u32)).toArray=(EU.flat L).toArray:=by rw [iy_]
theorem zeros8:(#[.int .u32 0,.int .u32 0,.int .u32 0,.int .u32 0,.int .u32 0,.int .u32 0,.int .u32 0,.int .u32 0]:Array Value)=(EU.flat (List.replicate 8 0)).toArray:=by rfl
theorem row8_set {L:List Int} (hg:w.heap[g]? =some (.cells (EU.flat L).toArray T (0,0))) (hl:L.length=8) (a0 a1 a2 a3 a4 a5 a6 a7:Int):
  ((((((((w.setCell ⟨g,0,none⟩ (.int .u32 a0)).setCell ⟨g,1,none⟩ (.int .u32 a1)).setCell ⟨g,2,none⟩ (.int .u32 a2)).setCell ⟨g,3,none⟩ (.int .u32 a3)).setCell ⟨g,4,none⟩ (.int .u32 a4)).setCell ⟨g,5,none⟩ (.int .u32 a5)).setCell ⟨g,6,none⟩ (.int .u32 a6)).setCell ⟨g,7,none⟩ (.int .u32 a7)).heap[g]? =some (.cells (EU.flat [a0,a1,a2,a3,a4,a5,a6,a7]).toArray T (0,0)):=by
 have h:=as_ (as_ (as_ (as_ (as_ (as_ (as_ (as_ hg 0 a0) 1 a1) 2 a2) 3 a3) 4 a4) 5 a5) 6 a6) 7 a7
 have e:(((((((L.set 0 a0).set 1 a1).set 2 a2).set 3 a3).set 4 a4).set 5 a5).set 6 a6).set 7 a7= [a0,a1,a2,a3,a4,a5,a6,a7]:=by
  match L,hl with
  | [_,_,_,_,_,_,_,_],_=> rfl
 rw [e] at h
 exact h
def rorN (n:Int) (x:Int):Int:=
 if n=7 then rorF 33554432 128 x else if n=18 then rorF 16384 262144 x else if n=17 then rorF 32768 131072 x else if n=19 then rorF 8192 524288 x else if n=6 then rorF 67108864 64 x else if n=11 then rorF 2097152 2048 x else if n=25 then rorF 128 33554432 x else if n=2 then rorF 1073741824 4 x else if n=13 then rorF 524288 8192 x else if n=22 then rorF 1024 4194304 x else 0
theorem ror_c (x n:Int) (hn:n=7\/n=18\/n=17\/n=19\/n=6\/n=11\/n=25\/n=2\/n=13\/n=22) (w:World):Calls Tryz.prog 193 #[.int .u32 x,.int .i64 n] w fun e w'=> e= .returned (.int .u32 (rorN n x))/\w'=w:=by
 rcases hn with rfl | rfl | rfl | rfl | rfl | rfl | rfl | rfl | rfl | rfl
 ·exact ror7_c x w
 ·exact ror18_c x w
 ·exact ror17_c x w
 ·exact ror19_c x w
 ·exact ror6_c x w
 ·exact ror11_c x w
 ·exact ror25_c x w
 ·exact ror2_c x w
 ·exact ror13_c x w
 ·exact ror22_c x w
def t1F (a4 a5 a6 a7 kq xq:Int):Int:=(a7+bits .xor .u32 (bits .xor .u32 (rorN 6 a4) (rorN 11 a4)) (rorN 25 a4)+bits .xor .u32 (bits .and .u32 a4 a5) (bits .and .u32 (bits .xor .u32 IntKind.u32.max a4) a6)+kq+xq) % 4294967296
def t2F (a0 a1 a2:Int):Int:=(bits .xor .u32 (bits .xor .u32 (rorN 2 a0) (rorN 13 a0)) (rorN 22 a0)+bits .xor .u32 (bits .xor .u32 (bits .and .u32 a0 a1) (bits .and .u32 a0 a2)) (bits .and .u32 a1 a2)) % 4294967296
def roundF (L:List Int) (k x:Int):List Int:=
 [(t1F (L.getD 4 9) (L.getD 5 9) (L.getD 6 9) (L.getD 7 9) k x+t2F (L.getD 0 9) (L.getD 1 9) (L.getD 2 9)) % 4294967296,L.getD 0 9,L.getD 1 9,L.getD 2 9,(L.getD 3 9+t1F (L.getD 4 9) (L.getD 5 9) (L.getD 6 9) (L.getD 7 9) k x) % 4294967296,L.getD 4 9,L.getD 5 9,L.getD 6 9]
def sumF (S V:List Int):Nat->List Int
 | 0=> S
 | i+1=> (sumF S V i).set i (((sumF S V i).getD i 9+V.getD i 9) % 4294967296)
theorem hl_ (S V:List Int): ∀i,(sumF S V i).length=S.length
 | 0=> rfl
 | i+1=> by rw [sumF,List.length_set];exact hl_ S V i
def eG_ (S K Sc:List Int):Nat->List Int
 | 0=> S
 | q+1=> roundF (eG_ S K Sc q) (K.getD q 9) (Sc.getD q 9)
def mixF8 (S kl:List Int) (bs:List UInt8):List Int:=sumF S (eG_ S kl (aM_ bs 64) 64) 8
theorem mixF8_len (S kl:List Int) (bs:List UInt8) (h:S.length=8):(mixF8 S kl bs).length=8:=by rw [mixF8,hl_,h]
theorem mix_c (gs gk:Nat) (v:Value) (S kl:List Int) (bs:List UInt8) (w:World) (hs:w.heap[gs]? =some (.cells (EU.flat S).toArray 247 (0,0))) (hS:S.length=8)
  (hk:w.heap[gk]? =some (.cells (EU.flat kl).toArray 249 (0,0))) (hkl:kl.length=64) (hv:EB.Rd w v bs) (hl:bs.length=64):
  Calls Tryz.prog 150 #[.pointer (some ⟨gs,0,none⟩),v,.pointer (some ⟨gk,0,none⟩)] w fun e w'=> e= .returned (.tuple #[])/\Ext [gs] w w'/\w'.heap[gs]? =some (.cells (EU.flat (mixF8 S kl bs)).toArray 247 (0,0)):=by
 obtain⟨HS,HK,HV⟩:=h_3 hs hk hv
 have hgs:=g_ hs
 have hgk:=g_ hk
 have iS:(Tryz.prog.info? 247).map (·.size)=some (EU.flat S).toArray.size:=by rw [J_ hS];exact infoS
 have IS:=hi_ iS
 clear hs hk hv iS
 go_enter Tryz.func150,Tryz.ntmps150
 go_wp2_with fail
 refine(sched_c v bs _ HV.out hl).mono ?_
 rintro e W1 ⟨rfl,hE1⟩
 rw [rowU_agg]
 obtain⟨Sc,hSc⟩: ∃L,L=aM_ bs 64:=⟨_,rfl⟩
 rw [<-hSc]
 have hScl:Sc.length=64:=by rw [hSc];exact dZ_ bs 64
 have HSC:=hi_ hSc
 clear hSc
 go_wp2_with (with_reducible refine f_ (d:=6) ?_)
 refine k_ rfl fun K hK=> ?_
 go_simp
 rw [et_]
 refine hK _ _ ?_
 clear hK
 refine wpList_store_row rfl 249 (.tmp 6) (.tmp 15) rfl W1.heap.size _ rfl rfl 249 _ (heap_alloc_new W1 _) (by rw [J_ hScl];exact infoW) (by rw [J_ hScl];rfl) (bL_ _) ?_
 have hgw:=setRow_heap (W1.alloc (.cells (EU.flat (List.replicate 64 0)).toArray 249)) W1.heap.size _ (EU.flat Sc).toArray 249 _ (heap_alloc_new W1 _)
 have hE2:Ext [] w ((W1.alloc (.cells (EU.flat (List.replicate 64 0)).toArray 249)).setRow W1.heap.size (EU.flat Sc).toArray):=(hE1.alloc _).setRow (.inr hE1.size) _
 have lw:=hE1.size
 obtain⟨gw,hgwe⟩: ∃g,g=W1.heap.size:=⟨_,rfl⟩
 simp only [<-hgwe] at hgw hE2 lw ⊢
 have HGW:=hi_ hgw
 clear hgw hgwe hE1
 revert hE2 HGW
 generalize World.setRow _ _ _=W2
 intro hE2 HGW
 go_wp2_with (with_reducible refine f_ (d:=18) ?_)
 unfold Hold
 refine wpList_load_row rfl 247 (.tmp 17) rfl gs rfl 247 _ (0,0) _ (hE2.blk HS.out (by simp)) Tryz.underlying247 rfl IS.out ?_
 go_wp2_with (with_reducible refine f_ (d:=7) ?_)
 refine k_ rfl fun K hK=> ?_
 go_simp
 rw [zeros8]
 refine hK _ _ ?_
 clear hK
 refine wpList_store_row rfl 247 (.tmp 7) (.tmp 18) rfl W2.heap.size _ rfl rfl 247 _ (heap_alloc_new W2 _) IS.out (by rw [J_ hS];rfl) (bL_ _) ?_
 have hgv:=setRow_heap (W2.alloc (.cells (EU.flat (List.replicate 8 0)).toArray 247)) W2.heap.size _ (EU.flat S).toArray 247 _ (heap_alloc_new W2 _)
 have hE23:Ext [] W2 ((W2.alloc (.cells (EU.flat (List.replicate 8 0)).toArray 247)).setRow W2.heap.size (EU.flat S).toArray):=((Ext.refl [] W2).alloc _).setRow (.inr (Nat.le_refl _)) _
 have lv:=hE2.size
 have lwv:=g_ HGW.out
 obtain⟨gv,hgve⟩: ∃g,g=W2.heap.size:=⟨_,rfl⟩
 simp only [<-hgve] at hgv hE23 lv lwv ⊢
 have HGV:=hi_ hgv
 have hgw3:=hE23.blk HGW.out (by simp)
 have HGW3:=hi_ hgw3
 have hE3:=hE2.trans hE23
 clear hgv hgw3 hgve hE2 HGW
 revert hE3 hE23 HGW3 HGV
 generalize World.setRow _ _ _=W3
 intro hE23 HGV HGW3 hE3
 clear hE23
 have nsv:gs≠gv:=by omega
 have nkv:gk≠gv:=by omega
 have nwv:gw≠gv:=by omega
 have nsw:gs≠gw:=by omega
 have lS:w.heap.size<=gv:=lv
 clear lv lwv lw
 go_wp2_with fail
 go_loopw [8,9,10,11,12,19] (fun _ _ _ _ _ c wr=> ∃(q:Nat) (L:List Int),q<=64/\c= .int .i64 q/\Ext [gv] W3 wr/\L.length=8/\Hid (L=eG_ S kl Sc q)/\Hid (wr.heap[gv]? =some (.cells (EU.flat L).toArray 247 (0,0)))) (fun _ _ _ _ _ c _=> 64 - (intOf c).toNat)
 case atStart=> exact⟨0,S,by omega,rfl,Ext.refl _ _,hS,rfl,HGV⟩
 case round=>
  obtain⟨q,L,hq,rfl,hE,hL,HL,HG⟩:=hrel
  by_cases hlt:q < 64
  ·obtain⟨a0,a1,a2,a3,a4,a5,a6,a7,hLe⟩: ∃a0 a1 a2 a3 a4 a5 a6 a7,L= [a0,a1,a2,a3,a4,a5,a6,a7]:=by
    match L,hL with
    | [a0,a1,a2,a3,a4,a5,a6,a7],_=> exact⟨a0,a1,a2,a3,a4,a5,a6,a7,rfl⟩
   have HG2:=HG.out
   rw [hLe] at HG2
   have c0:wr.cell? ⟨gv,0,none⟩=some (.int .u32 a0):=R_ HG2 (j:=0) (by simp)
   have c1:wr.cell? ⟨gv,1,none⟩=some (.int .u32 a1):=R_ HG2 (j:=1) (by simp)
   have c2:wr.cell? ⟨gv,2,none⟩=some (.int .u32 a2):=R_ HG2 (j:=2) (by simp)
   have c3:wr.cell? ⟨gv,3,none⟩=some (.int .u32 a3):=R_ HG2 (j:=3) (by simp)
   have c4:wr.cell? ⟨gv,4,none⟩=some (.int .u32 a4):=R_ HG2 (j:=4) (by simp)
   have c5:wr.cell? ⟨gv,5,none⟩=some (.int .u32 a5):=R_ HG2 (j:=5) (by simp)
   have c6:wr.cell? ⟨gv,6,none⟩=some (.int .u32 a6):=R_ HG2 (j:=6) (by simp)
   have c7:wr.cell? ⟨gv,7,none⟩=some (.int .u32 a7):=R_ HG2 (j:=7) (by simp)
   have ck:=R_ (hE.blk (hE3.blk HK.out (by simp)) (by simpa using nkv)) (j:=q) (by omega)
   have cw:=R_ (hE.blk HGW3.out (by simpa using nwv)) (j:=q) (by omega)
   have hfz: ∀j,wr.frozen? ⟨gv,j,none⟩=false:=fun j=> frozen_of_row _ _ _ _ _ HG2
   obtain⟨kq,hkq⟩: ∃x,x=kl.getD q 9:=⟨_,rfl⟩
   obtain⟨xq,hxq⟩: ∃x,x=Sc.getD q 9:=⟨_,rfl⟩
   rw [<-hkq] at ck
   rw [<-hxq] at cw
   obtain⟨HLE,HKQ,HXQ,HG8⟩:=h_4 hLe hkq hxq HG2
   have z1:(q:Int) < 64:=by omega
   have d0:(0:Int)<=(q:Int):=by omega
   have d1:((q:Nat):Int).toNat=q:=by omega
   clear hLe hkq hxq HG2
   go_wp2_with fail
   go_big_quiet (fail)
   go_wp2_with fail
   go_big_quiet ((go_at_call 193;refine(ror_c _ _ ?_ _).mono (fun _ _ h=> ⟨h.1,_,h.2⟩);decide))
   go_wp2_with fail
   go_big_quiet ((go_at_call 193;refine(ror_c _ _ ?_ _).mono (fun _ _ h=> ⟨h.1,_,h.2⟩);decide))
   generalize hT1:(a7+bits .xor .u32 (bits .xor .u32 (rorN 6 a4) (rorN 11 a4)) (rorN 25 a4)+bits .xor .u32 (bits .and .u32 a4 a5) (bits .and .u32 (bits .xor .u32 IntKind.u32.max a4) a6)+kq+xq) % 4294967296=T1
   generalize hT2:(bits .xor .u32 (bits .xor .u32 (rorN 2 a0) (rorN 13 a0)) (rorN 22 a0)+bits .xor .u32 (bits .xor .u32 (bits .and .u32 a0 a1) (bits .and .u32 a0 a2)) (bits .and .u32 a1 a2)) % 4294967296=T2
   obtain⟨HT1,HT2⟩:=h_2 hT1 hT2
   clear hT1 hT2 ck cw
   go_wp2_with fail
   go_roundw
   case rel=>
    refine⟨q+1,_,by omega,by go_num, ?_, ?_, ?_,row8_set ?_ hL _ _ _ _ _ _ _ _⟩
    ·exact((((((((hE.drewN _).setCell (.inl (by simp)) _).setCell (.inl (by simp)) _).setCell (.inl (by simp)) _).setCell (.inl (by simp)) _).setCell (.inl (by simp)) _).setCell (.inl (by simp)) _).setCell (.inl (by simp)) _).setCell (.inl (by simp)) _
    ·rfl
    ·show _=roundF (eG_ S kl Sc q) _ _
     rw [<-HL.out,HLE.out,<-HKQ.out,<-HXQ.out,<-HT1.out,<-HT2.out]
     rfl
    ·exact HG.out
   case measure=> simp [intOf];omega
  ·obtain rfl:q=64:=by omega
   have z1: ¬(((64:Nat):Int) < 64):=by omega
   have hE3':Ext [] w wr:=hE3.trans' hE (by simp) (fun y hy=> .inr (by simp at hy;omega))
   have HSr:=hi_ (hE3'.blk HS.out (by simp))
   clear hE
   go_wp2_with fail
   go_loopw [13,103] (fun _ c w2=> ∃(i:Nat) (M:List Int),i<=8/\c= .int .i64 i/\Ext [gs] wr w2/\M.length=8/\Hid (M=sumF S L i)/\Hid (w2.heap[gs]? =some (.cells (EU.flat M).toArray 247 (0,0)))) (fun _ c _=> 8 - (intOf c).toNat)
   case atStart=> exact⟨0,S,by omega,rfl,Ext.refl _ _,hS,rfl,HSr⟩
   case round=>
    obtain⟨i,M,hi,rfl,hE4,hM,HM,HGS⟩:=hrel
    by_cases hlt:i < 8
    ·have z1:(i:Int) < 8:=by omega
     have d0:(0:Int)<=(i:Int):=by omega
     have d1:((i:Nat):Int).toNat=i:=by omega
     have cs:=R_ HGS.out (j:=i) (by omega)
     have cv:=R_ (hE4.blk HG.out (by simpa using nsv.symm)) (j:=i) (by omega)
     have hfz: ∀j,wr.frozen? ⟨gs,j,none⟩=false:=fun j=> frozen_of_row _ _ _ _ _ HGS.out
     obtain⟨x,hx⟩: ∃x,x=M.getD i 9:=⟨_,rfl⟩
     obtain⟨y,hy⟩: ∃x,x=L.getD i 9:=⟨_,rfl⟩
     rw [<-hx] at cs
     rw [<-hy] at cv
     obtain⟨HX,HY⟩:=h_2 hx hy
     clear hx hy
     go_wp2_with fail
     go_still_tail 11,(by kernel_rfl)
     change wpList _ _ _ _ _ wr.drew
     go_wp2_with fail
     go_roundw
     case rel=>
      refine⟨i+1,_,by omega,by go_num,(hE4.setCell (.inl (by simp)) _).drew, ?_, ?_,as_ HGS.out i _⟩
      ·rw [List.length_set];exact hM
      ·show _=sumF S L (i+1)
       rw [sumF,<-HM.out,<-HX.out,<-HY.out]
     case measure=> simp [intOf];omega
    ·obtain rfl:i=8:=by omega
     have z1: ¬(((8:Nat):Int) < 8):=by omega
     have hfin:M=mixF8 S kl bs:=by rw [HM.out,HL.out,HSC.out];rfl
     have HFIN:=hi_ hfin
     clear hfin
     go_wp2
     go_end0
     refine⟨rfl,(hE3'.nil).trans hE4, ?_⟩
     rw [<-HFIN.out]
     exact HGS.out
theorem gS_ (W:World):EB.Ow 5 (W.alloc (.cells #[] 5)) (.slice (some ⟨W.heap.size,0,none⟩) 0 0) []:= .inr ⟨W.heap.size,0,0,[],rfl,heap_alloc_new _ _,by simp,by simp,rfl⟩
theorem eS_ (W:World) (z:Int) (b:UInt8) (hz:z=b.toNat):EB.Rd (W.alloc (.cells #[.int .u8 z] 5)) (.slice (some ⟨W.heap.size,0,none⟩) 1 1) [b]:=by
 subst hz
 refine .inr ⟨W.heap.size,0,1,rfl,Nat.le_refl _,by simp,fun j u hj=> ?_⟩
 rw [cell_of_row _ W.heap.size _ _ _ _ (heap_alloc_new _ _)]
 match j,hj with
 | 0,hj=> exact hj
 | j+1,hj=> simp [EB,Enc.flat] at hj
theorem ff_ (v:Value) (s:List UInt8) (w:World) (hl:s.length<=1000000) (hv:EB.Rd w v s):
  Calls Tryz.prog 189 #[v] w (aL_ EB 5 v s w):=by
 rcases hv with ⟨rfl,rfl⟩ | ⟨g,o,cap,rfl,h1,hg,hc⟩
 ·have hn:=fun w=> Lib.run_eql_slice_nil (P:=Tryz.prog) w 158 5 none 0 0 0 0 Tryz.underlying158
  go_enter Tryz.func189,Tryz.ntmps189
  go_wp2
  go_ret
  exact⟨_,rfl,.inl ⟨rfl,rfl⟩,Ext.refl _ _,by simp [blkL],by simp⟩
 ·have hn:=fun w=> Lib.run_eql_slice_nil (P:=Tryz.prog) w 158 5 (some ⟨g,o,none⟩) s.length cap 0 0 Tryz.underlying158
  have hv0:EB.Rd w (.slice (some ⟨g,o,none⟩) s.length cap) s:= .inr ⟨g,o,cap,rfl,h1,hg,hc⟩
  have HV:=hi_ hv0
  clear hv0 hc
  go_enter Tryz.func189,Tryz.ntmps189
  go_wp2_with (with_reducible refine f_ (d:=7) ?_)
  refine k_ rfl fun K hK=> b_ (E:=EB) (T:=5) (zero:=0) (bytes:=1) (v:= .slice (some ⟨w.heap.size,0,none⟩) 0 0) (xs:= []) (ys:=s) tiB Tryz.underlying158 Tryz.underlying158 rfl rfl rfl (gS_ _) (HV.out.ext0 ((Ext.refl _ _).alloc _)) (by simp;omega) (by simp;omega) ?_
  intro v' w' how hext hnear hnn
  refine hK _ _ ?_
  clear hK
  go_wp2
  go_ret
  refine⟨v',rfl,how,((Ext.refl [] w).alloc _).trans' hext (by simp) (by simp [blkL]), ?_, ?_⟩
  ·intro x hx
   rcases hnear x hx with h | h
   ·simp [blkL] at h;omega
   ·simp at h;omega
  ·exact⟨(fun h=> by cases h),(fun h=> by cases (hnn.2 h).1)⟩
def padZ (n:Nat):Nat:=(119 - n % 64) % 64
def lenB (n i:Nat):UInt8:=UInt8.ofNat (n*8 / 2 ^ (56 - 8*i) % 256)
theorem lenB_val (n i:Nat):(n:Int)*8 / 2 ^ (56 - 8*i) % 256=((lenB n i).toNat:Int):=by
 have e:(lenB n i).toNat=n*8 / 2 ^ (56 - 8*i) % 256:=by simp only [lenB,UInt8.toNat_ofNat',Nat.reducePow,Nat.mod_mod]
 rw [e,Int.natCast_emod,Int.natCast_ediv,Int.natCast_mul,Int.natCast_pow]
 rfl
def padF (bs:List UInt8):List UInt8:=bs++ [128]++List.replicate (padZ bs.length) 0++(List.range 8).map (lenB bs.length)
theorem hy_ (bs:List UInt8):(padF bs).length=bs.length+9+padZ bs.length:=by simp [padF];omega
theorem padF_mod (bs:List UInt8):(padF bs).length % 64=0:=by rw [hy_,padZ];omega
def lenV:Value->Nat
 | .slice _ n _=> n
 | _=> 0
theorem pad_c (v:Value) (bs:List UInt8) (w:World) (hv:EB.Rd w v bs) (hl:bs.length<=100000):
  Calls Tryz.prog 149 #[v] w fun e w'=> ∃v',e= .returned v'/\EB.Ow 5 w' v' (padF bs)/\Ext [] w w'/\ ∀y∈blkL v',w.heap.size<=y:=by
 obtain⟨p,cap,rfl,_⟩:=hv.len_eq
 have HV:=hi_ hv
 clear hv
 go_enter Tryz.func149,Tryz.ntmps149
 go_wp2_with fail
 refine(ff_ _ bs _ (by omega) HV.out).mono ?_
 rintro e W1 ⟨v1,rfl,how1,hE1,hn1,_⟩
 go_wp2_with (with_reducible refine f_ (d:=9) ?_)
 refine k_ rfl fun K hK=> b_ (E:=EB) (T:=5) (zero:=0) (bytes:=1) (v:=v1) (xs:=bs) (ys:= [128]) tiB Tryz.underlying158 Tryz.underlying158 rfl rfl rfl ((how1).ext0 ((Ext.refl [] _).alloc _)) (eS_ _ _ _ rfl) (by simp;omega) (by simp;omega) ?_
 intro v2 W2 how2 hE2 hnear2 _
 refine hK _ _ ?_
 clear hK
 have hE12:Ext [] w W2:=(hE1.alloc _).trans' hE2 (by simp) (fun y hy=> .inr (hn1 y hy))
 have hn2: ∀y∈blkL v2,w.heap.size<=y:=fun y hy=> by
  rcases hnear2 y hy with h | h
  ·exact hn1 y h
  ·have:=hE1.size;simp at h;omega
 have HO2:=hi_ how2
 clear how1 hE1 hn1 how2 hE2 hnear2
 obtain⟨n,hn⟩: ∃n,n=bs.length:=⟨_,rfl⟩
 have HN:=hi_ hn
 obtain⟨Z,hZ⟩: ∃Z,Z=padZ n:=⟨_,rfl⟩
 have hZ1:Z < 64:=by rw [hZ,padZ];omega
 have hZ2:(n+1+Z) % 64=56:=by rw [hZ,padZ];omega
 have hZ3: ∀j,j < Z->(n+1+j) % 64≠56:=fun j hj=> by rw [hZ,padZ] at hj;omega
 obtain⟨HZ,HZ3⟩:=h_2 hZ hZ3
 have hbl:=hl
 rw [<-hn] at hl
 clear hZ hZ3
 rw [<-hn]
 clear hn
 go_wp2_with fail
 go_loopw [3] (fun m wr=> ∃j:Nat,j<=Z/\Ext [] w wr/\Hid (EB.Ow 5 wr m (bs++ [128]++List.replicate j 0)/\ ∀y∈blkL m,w.heap.size<=y)) (fun m _=> Z+n+1 - lenV m)
 case atStart=> exact⟨0,Nat.zero_le _,hE12,by simpa using HO2.out,hn2⟩
 case round=>
  obtain⟨j,hj,hE,HV3⟩:=hrel
  obtain⟨p3,c3,e3,_⟩:=HV3.out.1.rd.len_eq
  have hlen:(bs++ [128]++List.replicate j (0:UInt8)).length=n+1+j:=by simp [<-HN.out];omega
  rw [hlen] at e3
  obtain⟨l,hle⟩: ∃l,l=n+1+j:=⟨_,rfl⟩
  rw [<-hle] at e3
  subst e3
  have HLE:=hi_ hle
  have hll:l<=200000:=by omega
  clear hle
  by_cases hjz:j < Z
  ·have hm:=HZ3.out j hjz
   rw [<-HLE.out] at hm
   have zt:((l:Nat):Int).tmod 64=((l % 64:Nat):Int):=by rw [Int.tmod_eq_emod_of_nonneg (by omega)];omega
   have zt2:((l:Nat):Int) % 64=((l % 64:Nat):Int):=by omega
   obtain⟨r,hr⟩: ∃r,r=l % 64:=⟨_,rfl⟩
   rw [<-hr] at hm zt zt2
   have hr1: ¬((r:Int)=56):=by omega
   have hr2:((r:Int)==56)=false:=by simpa using hr1
   have hr3:((r:Int) !=56)=true:=by simpa using hr1
   clear hr hm
   go_wp2_with (with_reducible refine f_ (d:=16) ?_)
   refine k_ rfl fun K hK=> b_ (E:=EB) (T:=5) (zero:=0) (bytes:=1) (v:= .slice p3 l c3) (xs:=bs++ [128]++List.replicate j 0) (ys:= [0]) tiB Tryz.underlying158 Tryz.underlying158 rfl rfl rfl ((HV3.out.1).ext0 ((Ext.refl [] _).alloc _)) (eS_ _ _ _ rfl) (by simp;omega) (by simp;omega) ?_
   intro v4 W4 how4 hE4 hnear4 _
   refine hK _ _ ?_
   clear hK
   have hw4:Ext [] w W4:=(hE.alloc _).trans' hE4 (by simp) (fun y hy=> .inr (HV3.out.2 y hy))
   have hn4: ∀y∈blkL v4,w.heap.size<=y:=fun y hy=> by
    rcases hnear4 y hy with h | h
    ·exact HV3.out.2 y h
    ·have:=hE.size;simp at h;omega
   have hl4:=how4.rd.len_eq
   obtain⟨HO4,HN4⟩:=h_2 how4 hn4
   clear how4 hE4 hnear4 hn4
   go_wp2_with fail
   go_roundw
   case rel=> exact⟨j+1,by omega,hw4,by rw [List.replicate_succ',<-List.append_assoc];exact HO4.out,HN4.out⟩
   case measure=>
    obtain⟨p4,c4,e4,_⟩:=hl4
    rw [e4]
    have e5:(bs++ [128]++List.replicate j (0:UInt8)++ [0]).length=l+1:=by rw [List.length_append,hlen,<-HLE.out];rfl
    rw [e5]
    simp only [lenV]
    have:=HLE.out
    omega
  ·obtain rfl:j=Z:=by omega
   rw [<-HLE.out] at hZ2
   have zt:((l:Nat):Int).tmod 64=56:=by rw [Int.tmod_eq_emod_of_nonneg (by omega)];omega
   have hr2:((56:Int) !=56)=false:=rfl
   have e8:IntKind.u64.wrap (n:Int)=n:=IntWalk.u64_in _ (by omega)
   have e9:IntKind.u64.wrap ((n:Int)*8)=(n:Int)*8:=IntWalk.u64_in _ (by omega)
   have e9':((n:Int)*8) % 18446744073709551616=(n:Int)*8:=by omega
   go_wp2_with fail
   go_loopw [3,5] (fun m c wr=> ∃i:Nat,i<=8/\c= .int .i64 (56 - 8*(i:Int))/\Ext [] w wr/\Hid (EB.Ow 5 wr m (bs++ [128]++List.replicate j 0++(List.range i).map (lenB n))/\ ∀y∈blkL m,w.heap.size<=y)) (fun _ c _=> (intOf c+8).toNat)
   case atStart=> exact⟨0,by omega,rfl,hE,by simpa using HV3.out.1,HV3.out.2⟩
   case round=>
    obtain⟨i,hi,rfl,hE5,HV5⟩:=hrel
    by_cases hlt:i < 8
    ·obtain⟨p5,c5,e5,_⟩:=HV5.out.1.rd.len_eq
     obtain⟨l5,hl5⟩: ∃l,l=(bs++ [128]++List.replicate j (0:UInt8)++(List.range i).map (lenB n)).length:=⟨_,rfl⟩
     rw [<-hl5] at e5
     subst e5
     have hl5':l5<=200000:=by rw [hl5];simp;omega
     have z1:(0:Int)<=56 - 8*(i:Int):=by omega
     have z2: ¬(56 - 8*(i:Int) < 0):=by omega
     have z3:56 - 8*(i:Int) < 64:=by omega
     have z4:(56 - 8*(i:Int)).toNat=56 - 8*i:=by omega
     have HL5:=hi_ hl5
     clear hl5
     go_wp2_with (with_reducible refine f_ (d:=31) ?_)
     refine k_ rfl fun K hK=> b_ (E:=EB) (T:=5) (zero:=0) (bytes:=1) (v:= .slice p5 l5 c5) (xs:=bs++ [128]++List.replicate j 0++(List.range i).map (lenB n)) (ys:= [lenB n i]) tiB Tryz.underlying158 Tryz.underlying158 rfl rfl rfl ((HV5.out.1).ext0 ((Ext.refl [] _).alloc _)) (eS_ _ _ _ (lenB_val n i)) (by simp;omega) (by simp;omega) ?_
     intro v6 W6 how6 hE6 hnear6 _
     refine hK _ _ ?_
     clear hK
     have hw6:Ext [] w W6:=(hE5.alloc _).trans' hE6 (by simp) (fun y hy=> .inr (HV5.out.2 y hy))
     have hn6: ∀y∈blkL v6,w.heap.size<=y:=fun y hy=> by
      rcases hnear6 y hy with h | h
      ·exact HV5.out.2 y h
      ·have:=hE5.size;simp at h;omega
     obtain⟨HO6,HN6⟩:=h_2 how6 hn6
     clear how6 hE6 hnear6 hn6
     go_wp2_with fail
     go_roundw
     case rel=> exact⟨i+1,by omega,by go_num,hw6,by rw [List.range_succ,List.map_append,<-List.append_assoc];exact HO6.out,HN6.out⟩
     case measure=> simp [intOf];omega
    ·obtain rfl:i=8:=by omega
     have hfin:bs++ [128]++List.replicate j (0:UInt8)++(List.range 8).map (lenB n)=padF bs:=by rw [HZ.out,HN.out];rfl
     have HFIN:=hi_ hfin
     clear hfin
     go_wp2
     go_ret
     exact⟨_,rfl,by rw [<-HFIN.out];exact HV5.out.1,hE5,HV5.out.2⟩
def bE_:List Int:= [1116352408,1899447441,3049323471,3921009573,961987163,1508970993,2453635748,2870763221,3624381080,310598401,607225278,1426881987,1925078388,2162078206,2614888103,3248222580,3835390401,4022224774,264347078,604807628,770255983,1249150122,1555081692,1996064986,2554220882,2821834349,2952996808,3210313671,3336571891,3584528711,113926993,338241895,666307205,773529912,1294757372,1396182291,1695183700,1986661051,2177026350,2456956037,2730485921,2820302411,3259730800,3345764771,3516065817,3600352804,4094571909,275423344,430227734,506948616,659060556,883997877,958139571,1322822218,1537002063,1747873779,1955562222,2024104815,2227730452,2361852424,2428436474,2756734187,3204031479,3329325298]
def dJ_:List Int:= [1779033703,3144134277,1013904242,2773480762,1359893119,2600822924,528734635,1541459225]
theorem begin_c (w:World):Calls Tryz.prog 147 #[] w fun e w'=> e= .returned (.agg (EU.flat dJ_).toArray)/\Ext [] w w':=by
 go_enter Tryz.func147,Tryz.ntmps147
 go_wp2_with (with_reducible refine f_ (d:=1) ?_)
 rw [zeros8]
 have hg:=heap_alloc_new w (.cells (EU.flat (List.replicate 8 0)).toArray 247)
 have hE:Ext [] w (w.alloc (.cells (EU.flat (List.replicate 8 0)).toArray 247)):=(Ext.refl [] w).alloc _
 revert hg hE
 generalize World.alloc _ _=W1
 intro hg hE
 obtain⟨g,hge⟩: ∃g,g=w.heap.size:=⟨_,rfl⟩
 rw [<-hge] at hg
 simp only [<-hge]
 have lg:w.heap.size<=g:=by omega
 clear hge
 unfold Hold
 refine wpList_build rfl 247 _ rfl (by kernel_rfl) ?_
 refine wpList_store_row rfl 247 (.tmp 0) (.tmp 1) rfl g (EU.flat dJ_).toArray rfl (by kernel_rfl) 247 _ hg (by rw [J_ (n:=8) rfl];exact infoS) (by rw [J_ (n:=8) rfl];rfl) (bL_ _) ?_
 go_wp2_with fail
 refine bodyPost_ret (results_cell_row rfl _ _ g 247 _ (0,0) _ rfl (setRow_heap _ g _ _ 247 _ hg) Tryz.underlying247 rfl (by rw [J_ (n:=8) rfl];exact infoS)) rfl ?_
 exact⟨rfl,hE.setRow (.inr lg) _⟩
theorem rounds_c (w:World):Calls Tryz.prog 148 #[] w fun e w'=> e= .returned (.agg (EU.flat bE_).toArray)/\Ext [] w w':=by
 go_enter Tryz.func148,Tryz.ntmps148
 go_wp2_with (with_reducible refine f_ (d:=1) ?_)
 rw [et_]
 have hg:=heap_alloc_new w (.cells (EU.flat (List.replicate 64 0)).toArray 249)
 have hE:Ext [] w (w.alloc (.cells (EU.flat (List.replicate 64 0)).toArray 249)):=(Ext.refl [] w).alloc _
 revert hg hE
 generalize World.alloc _ _=W1
 intro hg hE
 obtain⟨g,hge⟩: ∃g,g=w.heap.size:=⟨_,rfl⟩
 rw [<-hge] at hg
 simp only [<-hge]
 have lg:w.heap.size<=g:=by omega
 clear hge
 unfold Hold
 refine wpList_build rfl 249 _ rfl (by kernel_rfl) ?_
 refine wpList_store_row rfl 249 (.tmp 0) (.tmp 1) rfl g (EU.flat bE_).toArray rfl (by kernel_rfl) 249 _ hg (by rw [J_ (n:=64) rfl];exact infoW) (by rw [J_ (n:=64) rfl];rfl) (bL_ _) ?_
 go_wp2_with fail
 refine bodyPost_ret (results_cell_row rfl _ _ g 249 _ (0,0) _ rfl (setRow_heap _ g _ _ 249 _ hg) Tryz.underlying249 rfl (by rw [J_ (n:=64) rfl];exact infoW)) rfl ?_
 exact⟨rfl,hE.setRow (.inr lg) _⟩
theorem EB_take {a:Addr} {n cap k:Nat} {s:List UInt8} (h:EB.Rd w (.slice (some a) n cap) s) (hk:k<=s.length):EB.Rd w (.slice (some a) k cap) (s.take k):=by
 rcases h with ⟨h,_⟩ | ⟨g,o,c,h,h1,h2,h3⟩
 ·cases h
 ·simp only [Value.slice.injEq,Option.some.injEq] at h
  obtain⟨rfl,rfl,rfl⟩:=h
  refine .inr ⟨g,o,cap,by simp [hk],by simp;omega,h2,fun j u hj=> h3 j u ?_⟩
  rw [EB.flat_take] at hj
  rw [List.getElem?_take] at hj
  split at hj
  ·exact hj
  ·cases hj
theorem EB_drop {g o n cap k:Nat} {s:List UInt8} (h:EB.Rd w (.slice (some ⟨g,o,none⟩) n cap) s):EB.Rd w (.slice (if cap=k then some ⟨g,o,none⟩ else some ⟨g,o+k,none⟩) (n - k) (cap - k)) (s.drop k):=by
 rcases h with ⟨h,_⟩ | ⟨g',o',c,h,h1,h2,h3⟩
 ·cases h
 ·simp only [Value.slice.injEq,Option.some.injEq,Addr.mk.injEq] at h
  obtain⟨⟨rfl,rfl,_⟩,rfl,rfl⟩:=h
  by_cases hc:cap=k
  ·rw [if_pos hc]
   have e:s.drop k= []:=List.drop_eq_nil_of_le (by omega)
   rw [e]
   exact .inr ⟨g,o,cap - k,by simp;omega,by simp,h2,fun j u hj=> by simp [Enc.flat] at hj⟩
  ·rw [if_neg hc]
   refine .inr ⟨g,o+k,cap - k,by simp,by simp;omega,h2,fun j u hj=> ?_⟩
   rw [EB.flat_drop,List.getElem?_drop] at hj
   rw [<-h3 (k*1+j) u hj]
   congr 2
   omega
def stF (P:List UInt8):Nat->List Int
 | 0=> dJ_
 | q+1=> mixF8 (stF P q) bE_ ((P.drop (64*q)).take 64)
theorem dr_ (P:List UInt8): ∀q,(stF P q).length=8
 | 0=> rfl
 | q+1=> mixF8_len _ _ _ (dr_ P q)
def cb_ (x:Int):List UInt8:= [UInt8.ofNat (x / 16777216 % 256).toNat,UInt8.ofNat (x / 65536 % 256).toNat,UInt8.ofNat (x / 256 % 256).toNat,UInt8.ofNat (x % 256).toNat]
def shaF (bs:List UInt8):List UInt8:=(stF (padF bs) ((padF bs).length / 64)).flatMap cb_
theorem eA_ (bs:List UInt8):(shaF bs).length=32:=by
 have h:=dr_ (padF bs) ((padF bs).length / 64)
 rw [shaF,List.length_flatMap]
 match stF (padF bs) ((padF bs).length / 64),h with
 | [_,_,_,_,_,_,_,_],_=> simp [cb_]
theorem flat_le (l:List Int) (h:l.length<=8):(l.map (fun a=> (cb_ a).length)).sum<=32:=by
 have e: ∀l:List Int,(l.map (fun a=> (cb_ a).length)).sum=4*l.length:=fun l=> by
  induction l with
  | nil=> rfl
  | cons a l ih=>
   have h4:(cb_ a).length=4:=rfl
   simp only [List.map_cons,List.sum_cons,ih,List.length_cons]
   omega
 rw [e];omega
theorem fc_ (y:Int):y % 256=((UInt8.ofNat (y % 256).toNat).toNat:Int):=by
 have h1:=Int.emod_nonneg y (show (256:Int)≠0 by decide)
 have h2:=Int.emod_lt_of_pos y (show (0:Int) < 256 by decide)
 have e:(UInt8.ofNat (y % 256).toNat).toNat=(y % 256).toNat:=by
  simp only [UInt8.toNat_ofNat',Nat.reducePow]
  exact Nat.mod_eq_of_lt (by omega)
 rw [e,Int.toNat_of_nonneg h1]
theorem flatB (l:List UInt8):EB.flat l=l.map (fun b=> Value.int .u8 b.toNat):=by
 induction l with
 | nil=> rfl
 | cons a l ih=> simp [ih];rfl
theorem cD_ (n c:Nat) (hn:n<=c) (hc:c<=65536) (w:World):
  (Instr.makeSlice 158 (.int .i64 (n:Int)) (.int .i64 (c:Int))).run Tryz.prog w= .ok (.slice (some ⟨w.heap.size,0,none⟩) n c) (w.alloc (.cells (EB.flat (List.replicate c 0)).toArray 5)):=by
 obtain⟨i,z,hi,hz,hsize,hby,hzz⟩:=tiB.row
 have hr:=run_make (P:=Tryz.prog) w 158 5 i z Tryz.underlying158 hi hz .i64 .i64 n c (by omega) (by omega) (by rw [hby];omega) (by omega)
 simp only [Int.toNat_natCast] at hr
 rw [hr]
 have e:z.cells=#[.int .u8 0]:=Array.ext' hzz
 have e2:madeCells z.cells (c*i.size)=(EB.flat (List.replicate c 0)).toArray:=by
  rw [e,hsize,show c*EB.k=c from Nat.mul_one c,flatB]
  apply Array.ext'
  apply List.ext_getElem?
  intro j
  simp only [madeCells,Array.toList_map,Array.toList_range,List.getElem?_map,List.map_replicate,List.getElem?_replicate]
  by_cases hj:j < c
  ·simp [hj,Nat.mod_one]
  ·simp [hj]
 rw [e2]
theorem idx_state (L:List Int) (hL:L.length=8) (i:Nat) (hi:i < 8) (W:World):(Instr.index 247 (.agg (EU.flat L).toArray) (.int .i64 i)).run Tryz.prog W= .ok (.int .u32 (L.getD i 9)) W:=by
 have h1:(0:Int)<=(i:Int)/\(i:Int) < 8:=by omega
 have h2:(EU.flat L)[i]? =some (.int .u32 (L.getD i 9)):=by rw [iy_];simp [List.getD,hL,hi]
 simp [Instr.index,run_underlying Tryz.underlying247,asIntOf,h1,h2,go_sem,hi]
theorem ix_ (W:World) (z0 z1 z2 z3:Int) (b0 b1 b2 b3:UInt8) (h0:z0=b0.toNat) (h1:z1=b1.toNat) (h2:z2=b2.toNat) (h3:z3=b3.toNat):EB.Rd (W.alloc (.cells #[.int .u8 z0,.int .u8 z1,.int .u8 z2,.int .u8 z3] 5)) (.slice (some ⟨W.heap.size,0,none⟩) 4 4) [b0,b1,b2,b3]:=by
 subst h0 h1 h2 h3
 refine .inr ⟨W.heap.size,0,4,rfl,Nat.le_refl _,by simp,fun j u hj=> ?_⟩
 rw [cell_of_row _ W.heap.size _ _ _ _ (heap_alloc_new _ _)]
 match j,hj with
 | 0,hj=> exact hj
 | 1,hj=> exact hj
 | 2,hj=> exact hj
 | 3,hj=> exact hj
 | j+4,hj=> simp [EB,Enc.flat] at hj
theorem sum_c (v:Value) (bs:List UInt8) (w:World) (hv:EB.Rd w v bs) (hl:bs.length<=100000):
  Calls Tryz.prog 108 #[v] w fun e w'=> e= .returned (.string ⟨(shaF bs).toArray⟩)/\Ext [] w w':=by
 obtain⟨p,cap,rfl,_⟩:=hv.len_eq
 have HV:=hi_ hv
 clear hv
 go_enter Tryz.func108,Tryz.ntmps108
 go_wp2_with fail
 refine(begin_c _).mono ?_
 rintro e W1 ⟨rfl,hE1⟩
 go_wp2_with fail
 refine(rounds_c _).mono ?_
 rintro e W2 ⟨rfl,hE2⟩
 have hE12:=hE1.trans hE2
 clear hE1 hE2
 go_wp2_with (with_reducible refine f_ (d:=3) ?_)
 refine k_ rfl fun K hK=> ?_
 go_simp
 rw [zeros8]
 refine hK _ _ ?_
 clear hK
 have ga0:=heap_alloc_new W2 (.cells (EU.flat (List.replicate 8 0)).toArray 247)
 have hE2:Ext [] w (W2.alloc (.cells (EU.flat (List.replicate 8 0)).toArray 247)):=hE12.alloc _
 have l0:=hE12.size
 obtain⟨gs,hgs⟩: ∃g,g=W2.heap.size:=⟨_,rfl⟩
 simp only [<-hgs] at ga0 ⊢
 have ls:w.heap.size<=gs:=by omega
 have GA0:=hi_ ga0
 have lsa:=g_ ga0
 clear ga0 hgs l0 hE12
 revert GA0 hE2 lsa
 generalize World.alloc _ _=W2a
 intro hE2 GA0 lsa
 refine k_ rfl fun K hK=> ?_
 go_simp
 rw [et_]
 refine hK _ _ ?_
 clear hK
 have ga:=((Ext.refl [] W2a).alloc (.cells (EU.flat (List.replicate 64 0)).toArray 249)).blk GA0.out (by simp)
 have gb:=heap_alloc_new W2a (.cells (EU.flat (List.replicate 64 0)).toArray 249)
 have hE3:Ext [] w (W2a.alloc (.cells (EU.flat (List.replicate 64 0)).toArray 249)):=hE2.alloc _
 have l0:=hE2.size
 obtain⟨gk,hgk⟩: ∃g,g=W2a.heap.size:=⟨_,rfl⟩
 simp only [<-hgk] at gb ⊢
 have lk:w.heap.size<=gk:=by omega
 have lsk:gs≠gk:=by omega
 obtain⟨GA,GB⟩:=h_2 ga gb
 clear ga gb hgk l0 hE2 GA0 lsa
 revert GA GB hE3
 generalize World.alloc _ _=W3
 intro hE3 GA GB
 refine wpList_store_row rfl 247 (.tmp 3) (.tmp 9) rfl gs (EU.flat dJ_).toArray rfl rfl 247 _ GA.out (by rw [J_ (n:=8) rfl];exact infoS) (by rw [J_ (n:=8) rfl];rfl) (bL_ _) ?_
 have ga:=setRow_heap W3 gs _ (EU.flat dJ_).toArray 247 _ GA.out
 have hE4:Ext [] w (W3.setRow gs (EU.flat dJ_).toArray):=hE3.setRow (.inr ls) _
 have gb:=(Ext.setRow (g:=gs) (Ext.refl [gs] W3) (.inl (by simp)) (EU.flat dJ_).toArray).blk GB.out (by simpa using lsk.symm)
 obtain⟨GA4,GB4⟩:=h_2 ga gb
 clear ga gb GA GB hE3
 revert GA4 GB4 hE4
 generalize World.setRow _ _ _=W4
 intro hE4 GA4 GB4
 refine wpList_store_row rfl 249 (.tmp 4) (.tmp 10) rfl gk (EU.flat bE_).toArray rfl rfl 249 _ GB4.out (by rw [J_ (n:=64) rfl];exact infoW) (by rw [J_ (n:=64) rfl];rfl) (bL_ _) ?_
 have gb:=setRow_heap W4 gk _ (EU.flat bE_).toArray 249 _ GB4.out
 have hE5:Ext [] w (W4.setRow gk (EU.flat bE_).toArray):=hE4.setRow (.inr lk) _
 have ga:=(Ext.setRow (g:=gk) (Ext.refl [gk] W4) (.inl (by simp)) (EU.flat bE_).toArray).blk GA4.out (by simpa using lsk)
 obtain⟨GA5,GB5⟩:=h_2 ga gb
 clear ga gb GA4 GB4 hE4
 revert GA5 GB5 hE5
 generalize World.setRow _ _ _=W5
 intro hE5 GA5 GB5
 go_wp2_with fail
 refine(pad_c _ bs _ (HV.out.ext0 hE5) hl).mono ?_
 rintro e W6 ⟨v6,rfl,how6,hE6,hn6⟩
 have hE06:=hE5.trans hE6
 have hsg:gs∉blkL v6:=fun h=> by have:=hn6 gs h;have:=g_ GA5.out;omega
 have GA6:=hi_ (hE6.blk GA5.out (by simp))
 have GB6:=hi_ (hE6.blk GB5.out (by simp))
 have hPl:=hy_ bs
 have hPm:=padF_mod bs
 obtain⟨P,hP⟩: ∃P,P=padF bs:=⟨_,rfl⟩
 rw [<-hP] at how6 hPl hPm
 have hPb:P.length<=200000:=by rw [hPl,padZ];omega
 have HO6:=hi_ how6.rd
 have HP:=hi_ hP
 clear how6 hP hPl hE6 hn6 GA5 GB5 hE5
 go_wp2_with fail
 go_loopw [5] (fun m wr=> ∃q:Nat,64*q<=P.length/\Ext [gs] W6 wr/\Hid (wr.heap[gs]? =some (.cells (EU.flat (stF P q)).toArray 247 (0,0)))/\Hid (EB.Rd wr m (P.drop (64*q))/\gs∉blkL m)) (fun m _=> lenV m)
 case atStart=> exact⟨0,by omega,Ext.refl _ _,GA6,HO6.out,hsg⟩
 case round=>
  obtain⟨q,hq,hE,HG,HM⟩:=hrel
  obtain⟨p5,c5,e5,l5⟩:=HM.out.1.len_eq
  obtain⟨l,hle⟩: ∃l,l=(P.drop (64*q)).length:=⟨_,rfl⟩
  rw [<-hle] at e5 l5
  subst e5
  have hl2:l=P.length - 64*q:=by rw [hle,List.length_drop]
  have HLE:=hi_ hle
  clear hle
  by_cases h0:0 < l
  ·have h64:64<=l:=by omega
   obtain⟨g5,o5,rfl⟩: ∃g o,p5=some ⟨g,o,none⟩:=by
    rcases HM.out.1 with ⟨_,h⟩ | ⟨g,o,c,h,_⟩
    ·have:=HLE.out;rw [h] at this;simp at this;omega
    ·simp only [Value.slice.injEq] at h;exact⟨g,o,h.1⟩
   have z0:(0:Int) < (l:Int):=by omega
   have z1:(64:Int)<=(c5:Int):=by omega
   have z2:(64:Int)<=(l:Int):=by omega
   have z3:64<=c5:=by omega
   have ht:=EB_take (k:=64) HM.out.1 (by rw [<-HLE.out];exact h64)
   have hd:=EB_drop (k:=64) HM.out.1
   obtain⟨HT,HD⟩:=h_2 ht hd
   clear ht hd hl2
   go_wp2_with fail
   refine(mix_c gs gk _ (stF P q) bE_ ((P.drop (64*q)).take 64) _ HG.out (dr_ P q) (hE.blk GB6.out (by simpa using lsk.symm)) rfl HT.out (by rw [List.length_take,<-HLE.out];omega)).mono ?_
   rintro e W7 ⟨rfl,hE7,hg7⟩
   have HG7:=hi_ hg7
   clear hg7
   have hd:=HD.out
   have zc:(64:Int)<=(c5:Int):=z1
   by_cases hc:c5=64
   ·rw [if_pos hc] at hd
    have HD2:=hi_ (hd.ext hE7 (fun y hy hy2=> HM.out.2 (by simp at hy2;subst hy2;exact hy)))
    clear hd
    go_wp2_with fail
    go_roundw
    case rel=>
     refine⟨q+1,by have:=HLE.out;rw [List.length_drop] at this;omega,hE.trans hE7,HG7, ?_,by simpa [blkL] using HM.out.2⟩
     have h:=HD2.out
     rw [List.drop_drop] at h
     rw [show 64*(q+1)=64*q+64 by omega]
     rw [show c5 - 64=0 by omega] at h
     exact h
    case measure=> simp [lenV];omega
   ·rw [if_neg hc] at hd
    have HD2:=hi_ (hd.ext hE7 (fun y hy hy2=> HM.out.2 (by simp at hy2;subst hy2;exact hy)))
    clear hd
    go_wp2_with fail
    go_roundw
    case rel=>
     refine⟨q+1,by have:=HLE.out;rw [List.length_drop] at this;omega,hE.trans hE7,HG7, ?_,by simpa [blkL] using HM.out.2⟩
     have h:=HD2.out
     rw [List.drop_drop] at h
     rw [show 64*(q+1)=64*q+64 by omega]
     exact h
    case measure=> simp [lenV];omega
  ·have hq8:q=P.length / 64:=by omega
   have hl0:l=0:=by omega
   have HQ8:=hi_ hq8
   clear hl2 hq8
   subst hl0
   have z0: ¬((0:Int) < ((0:Nat):Int)):=by omega
   obtain⟨Z32,hZ32⟩: ∃Z:List UInt8,Z=List.replicate 32 0:=⟨_,rfl⟩
   have hmk: ∀W:World,(Instr.makeSlice 158 (.int .i64 0) (.int .i64 32)).run Tryz.prog W= .ok (.slice (some ⟨W.heap.size,0,none⟩) 0 32) (W.alloc (.cells (EB.flat Z32).toArray 5)):=fun W=> by rw [hZ32];exact cD_ 0 32 (by omega) (by omega) W
   have hEw:Ext [] w wr:=hE06.trans' hE (by simp) (fun y hy=> .inr (by simp at hy;omega))
   have HZ:=hi_ hZ32
   clear h0 hZ32
   go_wp2_with (with_reducible refine f_ (d:=22) ?_)
   have hE8:Ext [] w (wr.alloc (.cells (EB.flat Z32).toArray 5)):=hEw.alloc _
   have hb8:=heap_alloc_new wr (.cells (EB.flat Z32).toArray 5)
   have hg8:=((Ext.refl [] wr).alloc (.cells (EB.flat Z32).toArray 5)).blk HG.out (by simp)
   have lb:=hEw.size
   obtain⟨gb,hgb⟩: ∃g,g=wr.heap.size:=⟨_,rfl⟩
   simp only [<-hgb] at hb8 lb ⊢
   have hO8:EB.Ow 5 (wr.alloc (.cells (EB.flat Z32).toArray 5)) (.slice (some ⟨gb,0,none⟩) 0 32) []:= .inr ⟨gb,0,32,Z32,rfl,hb8,by simp,by rw [HZ.out];simp,by simp⟩
   obtain⟨HG8,HO8⟩:=h_2 hg8 hO8
   clear hg8 hb8 hO8 hgb hmk
   revert HG8 HO8 hE8
   generalize World.alloc _ _=W8
   intro hE8 HG8 HO8
   unfold Hold
   refine wpList_load_row rfl 247 (.tmp 3) rfl gs rfl 247 _ (0,0) _ HG8.out Tryz.underlying247 rfl (by rw [J_ (dr_ P q)];exact infoS) ?_
   obtain⟨L,hLe⟩: ∃L,L=stF P q:=⟨_,rfl⟩
   have hL:L.length=8:=by rw [hLe];exact dr_ P q
   rw [<-hLe]
   have HL:=hi_ hLe
   clear hLe HG8
   go_wp2_with fail
   go_loopw [6,8,23] (fun m _ c w2=> ∃i:Nat,i<=8/\c= .int .i64 i/\Ext [] w w2/\Hid (EB.Ow 5 w2 m ((L.take i).flatMap cb_)/\ ∀y∈blkL m,w.heap.size<=y)) (fun _ _ c _=> 8 - (intOf c).toNat)
   case atStart=> exact⟨0,by omega,rfl,hE8,HO8.out,fun y hy=> by simp [blkL] at hy;subst hy;exact lb⟩
   case round=>
    obtain⟨i,hi,rfl,hE9,HM9⟩:=hrel
    by_cases hlt:i < 8
    ·have z1:(i:Int) < 8:=by omega
     have hidx:=fun W=> idx_state L hL i hlt W
     have hts:(L.take (i+1)).flatMap cb_=(L.take i).flatMap cb_++cb_ (L.getD i 9):=by
      have e:L.getD i 9=L[i]:=by simp [List.getD,hL,hlt]
      rw [e,List.take_succ_eq_append_getElem (by omega),List.flatMap_append]
      simp
     obtain⟨x,hx⟩: ∃x,x=L.getD i 9:=⟨_,rfl⟩
     rw [<-hx] at hts
     simp only [<-hx] at hidx
     have HTS:=hi_ hts
     obtain⟨p6,c6,e6,_⟩:=HM9.out.1.rd.len_eq
     obtain⟨l6,hl6⟩: ∃l,l=((L.take i).flatMap cb_).length:=⟨_,rfl⟩
     have hlb:l6<=32:=by rw [hl6,List.length_flatMap];exact flat_le _ (by simp;omega)
     rw [<-hl6] at e6
     subst e6
     have HL6:=hi_ hl6
     clear hx hts hl6
     go_wp2_with (with_reducible refine f_ (d:=39) ?_)
     refine k_ rfl fun K hK=> b_ (E:=EB) (T:=5) (zero:=0) (bytes:=1) (v:= .slice p6 l6 c6) (xs:=(L.take i).flatMap cb_) (ys:=cb_ x) tiB Tryz.underlying158 Tryz.underlying158 rfl rfl rfl (HM9.out.1.ext0 ((Ext.refl [] _).alloc _)) (ix_ _ _ _ _ _ _ _ _ _ (fc_ _) (fc_ _) (fc_ _) (fc_ _)) (by rw [<-HL6.out];simp [cb_];omega) (by rw [<-HL6.out];simp [cb_];omega) ?_
     intro v7 W7 how7 hE7 hnear7 _
     refine hK _ _ ?_
     clear hK hidx
     have hw7:Ext [] w W7:=(hE9.alloc _).trans' hE7 (by simp) (fun y hy=> .inr (HM9.out.2 y hy))
     have hn7: ∀y∈blkL v7,w.heap.size<=y:=fun y hy=> by
      rcases hnear7 y hy with h | h
      ·exact HM9.out.2 y h
      ·have:=hE9.size;simp at h;omega
     obtain⟨HO7,HN7⟩:=h_2 how7 hn7
     clear how7 hE7 hnear7 hn7
     go_wp2_with fail
     go_roundw
     case rel=> exact⟨i+1,by omega,by go_num,hw7,by rw [HTS.out];exact HO7.out,HN7.out⟩
     case measure=> simp [intOf];omega
    ·obtain rfl:i=8:=by omega
     have z1: ¬(((8:Nat):Int) < 8):=by omega
     have hfin:(L.take 8).flatMap cb_=shaF bs:=by
      rw [List.take_of_length_le (by omega),HL.out,HQ8.out,HP.out];rfl
     have ho:=HM9.out.1
     rw [hfin] at ho
     have hsl:=eA_ bs
     obtain⟨p6,c6,e6,l6⟩:=ho.rd.len_eq
     have hrd:=ho.rd
     obtain⟨B,hBe⟩: ∃B,B=shaF bs:=⟨_,rfl⟩
     rw [<-hBe] at hrd e6 hsl l6
     subst e6
     obtain⟨g6,o6,rfl⟩: ∃g o,p6=some ⟨g,o,none⟩:=by
      rcases hrd with ⟨_,h⟩ | ⟨g,o,c,h,_⟩
      ·rw [h] at hsl;simp at hsl
      ·simp only [Value.slice.injEq] at h;exact⟨g,o,h.1⟩
     have hcv:=run_convert_bytes_back (P:=Tryz.prog) wr 158 9 5 ⟨g6,o6,none⟩ c6 B Tryz.underlying158 Tryz.underlying5 Tryz.underlying9 (fun j hj=> by
      have h:=hrd.cells j 0 hj (by decide)
      have e:(⟨g6,o6,none⟩:Addr).add j=⟨g6,o6+j,none⟩:=by
       simp only [Addr.add]
       split
       ·rename_i h;subst h;rfl
       ·rfl
      rw [e]
      simpa [EB] using h)
     have HBE:=hi_ hBe
     clear hfin ho hrd hBe hsl l6
     go_wp2
     go_ret
     refine⟨?_,hE9⟩
     rw [<-HBE.out]
     rfl
end Go.Proofs.YtkpgjkekmdecbaaGreat
