/- Lemmas. -/
import Derived.Test.YtkpgjkekmdecbaaGreatFullBA
import Derived.Test.YtkpgjkekmdecbaaGreatFullAY
set_option maxRecDepth 100000
set_option maxHeartbeats 8000000
set_option linter.all false

namespace Go.Proofs.YtkpgjkekmdecbaaGreat
open Go.RowKit
variable {w w' W W' w1 w2:World} {T:TypeId} {gv:Value} {i g tb mb k:Nat} {S bs:List Nat} {err:Int} {key:Ky} {q:Ptr4} {l:List Pr} {yv:Rfm} {ms gs:List Ptr4} {f:List Pr -> Except Int (List Pr)} {y:Sy} {v v':Sv} {L L':List Blk} {s:TS} {r:Root}
theorem mdrop_no (mb:Nat) (l:List Pr) (key:Ky) (w:World) (h:MapR w mb l) (hs:SrtK l) (hl:l.length<=100000) (hn:B_ l key=false):
  Calls Tryz.prog 26 #[.pointer (some ⟨mb,0,none⟩),.string ⟨key.toArray⟩] w fun e w'=> e= .returned (.int .i64 7)/\Ext [] w w':=by
 have hpl:=eV_ mb l key w h hs hl
 rw [hn] at hpl
 obtain⟨i,hi⟩: ∃i,i=atF l key:=⟨_,rfl⟩
 rw [<-hi] at hpl
 have HPL:=hi_ hpl
 clear hpl h hs hl hi hn
 go_enter Tryz.func26,Tryz.ntmps26
 go_wp2_with fail
 refine HPL.out.mono ?_
 rintro e W1 ⟨rfl,hE1⟩
 have HE1:=hi_ hE1
 clear HPL hE1
 go_wp2
 go_ret
 exact⟨rfl,HE1.out⟩
theorem mget_c (mb:Nat) (l:List Pr) (key:Ky) (w:World) (h:MapR w mb l) (hs:SrtK l) (hl:l.length<=100000):
  Calls Tryz.prog 50 #[.pointer (some ⟨mb,0,none⟩),.string ⟨key.toArray⟩] w fun e w'=> e= .returned (.tuple (if B_ l key then #[.string ⟨(l.getD (atF l key) ([],[])).2.toArray⟩,.int .i64 0] else #[.string ⟨#[]⟩,.int .i64 7]))/\Ext [] w w':=by
 have hpl:=eV_ mb l key w h hs hl
 obtain⟨i,hi⟩: ∃i,i=atF l key:=⟨_,rfl⟩
 obtain⟨th,hth⟩: ∃b,b=B_ l key:=⟨_,rfl⟩
 have hit:th=true->i < l.length:=fun h=> by rw [hi];exact bb_ (by rw [<-hth];exact h)
 rw [<-hi,<-hth] at hpl ⊢
 obtain⟨HPL,HM⟩:=h_2 hpl h
 clear hpl h hs hi hth
 obtain⟨N,hN⟩: ∃N,N=l.length:=⟨_,rfl⟩
 have HN:=hi_ hN
 cases th with
 | false=>
  simp only [Bool.false_eq_true,if_false]
  clear hit hN
  go_enter Tryz.func50,Tryz.ntmps50
  go_wp2_with fail
  refine HPL.out.mono ?_
  rintro e W1 ⟨rfl,hE1⟩
  have HE1:=hi_ hE1
  clear HPL hE1
  go_wp2
  go_ret2
  exact⟨rfl,HE1.out⟩
 | true=>
  simp only [if_true]
  have hit2:=hit rfl
  clear hit
  rw [<-hN] at hit2 hl
  have z1:(i:Int) < (N:Int):=by omega
  obtain⟨x,hx⟩: ∃x,x=l.getD i ([],[]):=⟨_,rfl⟩
  rw [<-hx]
  have HX:=hi_ hx
  clear hN hx
  go_enter Tryz.func50,Tryz.ntmps50
  go_wp2_with fail
  refine HPL.out.mono ?_
  rintro e W1 ⟨rfl,hE1⟩
  obtain⟨p,c,c0,hc,how, -⟩:=(HM.out.ext0 hE1).cell
  rw [<-HN.out] at c0 hc how
  obtain⟨g,o,rfl⟩: ∃g o,p=some ⟨g,o,none⟩:=by
   rcases how with ⟨h,_⟩ | ⟨g,o,c,_,h,_⟩
   ·simp only [Value.slice.injEq] at h;omega
   ·simp only [Value.slice.injEq] at h;exact⟨g,_,h.1⟩
  obtain⟨m1,m2⟩:=aj_ how.rd i (by rw [<-HN.out];exact hit2)
  rw [<-HX.out] at m1 m2
  have zi:((i:Int)).toNat=i:=by omega
  have HE1:=hi_ hE1
  clear HPL hE1 how
  go_wp2_with fail
  go_ret2
  exact⟨rfl,HE1.out⟩
theorem mput_bad (mb:Nat) (key val:Ky) (w:World) (hb:dN_ key val):
  Calls Tryz.prog 24 #[.pointer (some ⟨mb,0,none⟩),.string ⟨key.toArray⟩,.string ⟨val.toArray⟩] w fun e w'=> e= .returned (.int .i64 2)/\Ext [] w w':=by
 rcases hb with hb | hb | hb
 ·subst hb
  go_enter Tryz.func24,Tryz.ntmps24
  go_wp2
  go_ret
  exact⟨rfl,Ext.refl _ _⟩
 ·by_cases z1:(key== [])=true
  ·go_enter Tryz.func24,Tryz.ntmps24
   go_wp2
   go_ret
   exact⟨rfl,Ext.refl _ _⟩
  ·have z1:(key== [])=false:=by simpa using z1
   have z2:24 < key.length:=hb
   go_enter Tryz.func24,Tryz.ntmps24
   go_wp2
   go_ret
   exact⟨rfl,Ext.refl _ _⟩
 ·have z3:300 < val.length:=hb
  by_cases z1:(key== [])=true
  ·go_enter Tryz.func24,Tryz.ntmps24
   go_wp2
   go_ret
   exact⟨rfl,Ext.refl _ _⟩
  ·have z1:(key== [])=false:=by simpa using z1
   by_cases z2:24 < key.length
   ·go_enter Tryz.func24,Tryz.ntmps24
    go_wp2
    go_ret
    exact⟨rfl,Ext.refl _ _⟩
   ·go_enter Tryz.func24,Tryz.ntmps24
    go_wp2
    go_ret
    exact⟨rfl,Ext.refl _ _⟩
theorem mdrop_yes (mb:Nat) (l:List Pr) (key:Ky) (w:World) (h:MapR w mb l) (hs:SrtK l) (hl:l.length<=100000) (hn:B_ l key=true):
  Calls Tryz.prog 26 #[.pointer (some ⟨mb,0,none⟩),.string ⟨key.toArray⟩] w fun e w'=> e= .returned (.int .i64 0)/\MapR w' mb (l.take (atF l key)++l.drop (atF l key+1))/\Ext [mb] w w':=by
 have hpl:=eV_ mb l key w h hs hl
 have hit:=bb_ hn
 rw [hn] at hpl
 obtain⟨i,hi⟩: ∃i,i=atF l key:=⟨_,rfl⟩
 rw [<-hi] at hpl hit ⊢
 obtain⟨rest,hrest⟩: ∃r,r=l.drop (i+1):=⟨_,rfl⟩
 rw [<-hrest]
 obtain⟨HRE,HPL,HM⟩:=h_3 hrest hpl h
 obtain⟨N,hN⟩: ∃N,N=l.length:=⟨_,rfl⟩
 have HN:=hi_ hN
 have HRL:Hid (rest.length<=N):=hi_ (by rw [hrest,List.length_drop,hN];omega)
 clear hpl h hs hi hrest hn
 go_enter Tryz.func26,Tryz.ntmps26
 go_wp2_with fail
 refine HPL.out.mono ?_
 rintro e W1 ⟨rfl,hE1⟩
 obtain⟨p,c,c0,hc,how,hblk⟩:=(HM.out.ext0 hE1).cell
 have HTK:=hi_ (rd_cut how.rd (Nat.le_of_lt hit))
 have HTL:Hid ((l.take i).length=i):=hi_ (by rw [List.length_take];omega)
 rw [<-hN] at c0 hc hit hl how hblk
 obtain⟨g,o,rfl⟩: ∃g o,p=some ⟨g,o,none⟩:=by
  rcases how with ⟨h,_⟩ | ⟨g,o,c,_,h,_⟩
  ·simp only [Value.slice.injEq] at h;omega
  ·simp only [Value.slice.injEq] at h;exact⟨g,_,h.1⟩
 obtain⟨HOW,HBK,HE1⟩:=h_3 how hblk hE1
 have HSEP:Hid (∀g'∈blkL (.slice (some ⟨g,o,none⟩) N c),∀x,W1.heap.size<=x->g'≠x):=hi_ (fun g hg x hx e=> by have:=HOW.out.lt g hg;omega)
 clear how hblk hE1 hN HPL
 by_cases hci:c=i+1
 ·subst hci
  have hnil:rest= []:=by rw [HRE.out];exact List.drop_eq_nil_of_le (by rw [<-HN.out];omega)
  have HRR:Hid (EPr.Rd W1 (.slice (some ⟨g,o,none⟩) 0 0) rest):=hi_ (by rw [hnil];exact gM_ HOW.out.rd)
  clear hnil
  have zw:IntKind.i64.wrap ((i:Int)+1)=(i:Int)+1:=IntWalk.i64_in _ (by omega)
  have zn:((i:Int)+1).toNat=i+1:=by omega
  have zp:(0:Int)<=(i:Int)+1:=by omega
  have zb1:(i:Int)<=(i:Int)+1:=by omega
  have zb2:(i:Int)+1<=(N:Int):=by omega
  have zb3:N=i+1:=by omega
  subst zb3
  go_wp2_with fail
  -- the place is known; two appends and the store
  have hD:=(Ext.refl [] W1).drew
  refine e_ (fun W=> W.cell? ⟨mb,0,none⟩=some (.slice (some ⟨g,o,none⟩) (i+1) (i+1))) (fun i=> i==1 || i==5 || i==8 || i==12 || i==7 || i==15) (by kernel_rfl) (hD.cell c0 (by simp)) (fun hS=> ?_)
  refine PUq 0 ?_;(try go_frame);refine PUq 2 ?_;(try go_frame);refine PUq 6 ?_;(try go_frame);(try simp only [zA,zB,zC,zD,zE]);refine PUq 9 ?_;(try go_frame);(try simp only [zA,zB,zC,zD,zE]);refine PUq 13 ?_;(try go_frame);(try simp only [zA,zB,zC,zD,zE]);refine PUq 3 ?_;(try go_frame);refine PUq 10 ?_;(try go_frame);(try simp only [zA,zB,zC,zD,zE]);refine PUq 14 ?_;(try go_frame);(try simp only [zA,zB,zC,zD,zE]);refine PUq 4 ?_;(try go_frame);refine PUq 11 ?_;(try go_frame);(try simp only [zA,zB,zC,zD,zE])
  refine ta 5 ?_;(try go_frame);refine ta 12 ?_;(try go_frame);(try simp only [zA,zB,zC,zD,zE]);refine ta 7 ?_;(try go_frame);(try simp only [zA,zB,zC,zD,zE]);refine ta 15 ?_;(try go_frame);(try simp only [zA,zB,zC,zD,zE])
  refine oN 1 fun K hK=> ?_
  (try simp only [Act.put,zA,zB,zC,zF,zD,zE]);refine iw rfl ?_
  go_simp
  have hEa:=hD.alloc (.cells #[] 36)
  refine hK.out _ _ (fun _=> hEa.cell c0 (by simp)) (fun _=> ?_)
  clear hK
  refine oN 8 fun K hK=> ?_
  (try simp only [Act.put,zA,zB,zC,zF,zD,zE]);refine iw rfl ?_
  refine b_ (s:= .tmp 16) (x:= .tmp 22) (E:=EPr) (T:=36) (zero:=([],[])) (bytes:=32) (v:= .slice (some ⟨W1.heap.size,0,none⟩) 0 0) (u:=(.slice (some ⟨g,o,none⟩) i (i+1))) (xs:= []) (ys:=l.take i) tiPr Tryz.underlying22 Tryz.underlying22 rfl rfl rfl (aE_ W1.drew rfl) (HTK.out.ext0 hEa) (by rw [HTL.out];simp;omega) (by rw [HTL.out];simp;omega) ?_
  intro v2 W2 how2 hext2 hnear2 _
  obtain⟨hE2,hf2⟩:=p_ hEa (by simp [blkL]) hext2 hnear2
  simp only [List.nil_append] at how2
  obtain⟨p2,c2,rfl,_⟩:=how2.rd.len_eq
  rw [HTL.out] at how2 hf2 ⊢
  obtain⟨HO2,HE2,HF2⟩:=h_3 how2 hE2 hf2
  have HR2:=hi_ ((HRR.out).ext0 hE2)
  refine hK.out _ _ (fun _=> hE2.cell c0 (by simp)) (fun _=> ?_)
  clear hK how2 hext2 hnear2 hE2 hf2 hEa
  refine oN 16 fun K hK=> ?_
  (try simp only [Act.put,zA,zB,zC,zF,zD,zE]);refine iw rfl ?_
  refine b_ (s:= .tmp 23) (x:= .tmp 30) (E:=EPr) (T:=36) (zero:=([],[])) (bytes:=32) (v:= .slice p2 i c2) (u:=(.slice (some ⟨g,o,none⟩) 0 0)) (xs:=l.take i) (ys:=rest) tiPr Tryz.underlying22 Tryz.underlying22 rfl rfl rfl HO2.out HR2.out (by rw [HTL.out];have:=HRL.out;omega) (by rw [HTL.out];have:=HRL.out;omega) ?_
  intro v4 W4 how4 hext4 hnear4 _
  obtain⟨p4,c4,rfl,_⟩:=how4.rd.len_eq
  obtain⟨M4,hM4⟩: ∃M,M=(l.take i++rest).length:=⟨_,rfl⟩
  rw [<-hM4] at how4 ⊢
  clear hM4
  obtain⟨hE4, -⟩:=p_ HE2.out HF2.out hext4 hnear4
  have hb4:=hE4.blk HBK.out (by simp)
  have cm4:=hE4.cell c0 (by simp)
  have hfz: ∀j,W4.frozen? ⟨mb,j,none⟩=false:=fun j=> frozen_of_row _ _ _ _ _ hb4
  have hb5:=heap_setCell_same W4 mb 0 _ _ (.slice p4 M4 c4) hb4
  have hE5:Ext [mb] W4 (W4.setCell ⟨mb,0,none⟩ (.slice p4 M4 c4)):=(Ext.refl [mb] W4).setCell (.inl (by simp)) _
  have HX:=hi_ (⟨⟨_,hb5,how4.ext hE5 (by simpa using how4.ne hb4 (by decide))⟩,((HE1.out.nil (S:= [mb])).trans (hE4.nil)).trans hE5⟩:MapR (W4.setCell ⟨mb,0,none⟩ (.slice p4 M4 c4)) mb (l.take i++rest)/\Ext [mb] w (W4.setCell ⟨mb,0,none⟩ (.slice p4 M4 c4)))
  refine nk hK ?_
  clear hK how4 hext4 hnear4 hE4 hb4 hb5 hE5 c0 HO2 HE2 HF2 HR2
  refine PUq 17 ?_;(try go_frame);(try simp only [zA,zB,zC,zD,zE]);refine PUq 18 ?_;(try go_frame);(try simp only [zA,zB,zC,zD,zE])
  refine oN 19 fun K hK=> ?_
  refine iw rfl ?_
  go_simp
  refine nk hK ?_
  refine c_ (by kernel_rfl) ?_ _
  clear hK hS hD
  go_wp2
  go_ret
  exact⟨rfl,HX.out⟩
 ·have HRR:Hid (EPr.Rd W1 (.slice (some ⟨g,o+(i+1)*2,none⟩) (N - (i+1)) (c - (i+1))) rest):=hi_ (by rw [HRE.out];exact HOW.out.rd.dropS)
  have zw:IntKind.i64.wrap ((i:Int)+1)=(i:Int)+1:=IntWalk.i64_in _ (by omega)
  have zn:((i:Int)+1).toNat=i+1:=by omega
  have zp:(0:Int)<=(i:Int)+1:=by omega
  have zb1:(i:Int)<=(c:Int):=by omega
  have zb2:(i:Int)+1<=(N:Int):=by omega
  have zb3:(N:Int)<=(c:Int):=by omega
  have zb4:(i:Int)+1<=(c:Int):=by omega
  go_wp2_with fail
  -- the place is known; two appends and the store
  have hD:=(Ext.refl [] W1).drew
  refine e_ (fun W=> W.cell? ⟨mb,0,none⟩=some (.slice (some ⟨g,o,none⟩) N c)) (fun i=> i==1 || i==5 || i==8 || i==12 || i==7 || i==15) (by kernel_rfl) (hD.cell c0 (by simp)) (fun hS=> ?_)
  refine PUq 0 ?_;(try go_frame);refine PUq 2 ?_;(try go_frame);refine PUq 6 ?_;(try go_frame);(try simp only [zA,zB,zC,zD,zE]);refine PUq 9 ?_;(try go_frame);(try simp only [zA,zB,zC,zD,zE]);refine PUq 13 ?_;(try go_frame);(try simp only [zA,zB,zC,zD,zE]);refine PUq 3 ?_;(try go_frame);refine PUq 10 ?_;(try go_frame);(try simp only [zA,zB,zC,zD,zE]);refine PUq 14 ?_;(try go_frame);(try simp only [zA,zB,zC,zD,zE]);refine PUq 4 ?_;(try go_frame);refine PUq 11 ?_;(try go_frame);(try simp only [zA,zB,zC,zD,zE])
  refine ta 5 ?_;(try go_frame);refine ta 12 ?_;(try go_frame);(try simp only [zA,zB,zC,zD,zE]);refine ta 7 ?_;(try go_frame);(try simp only [zA,zB,zC,zD,zE]);refine ta 15 ?_;(try go_frame);(try simp only [zA,zB,zC,zD,zE])
  refine oN 1 fun K hK=> ?_
  (try simp only [Act.put,zA,zB,zC,zF,zD,zE]);refine iw rfl ?_
  go_simp
  have hEa:=hD.alloc (.cells #[] 36)
  refine hK.out _ _ (fun _=> hEa.cell c0 (by simp)) (fun _=> ?_)
  clear hK
  refine oN 8 fun K hK=> ?_
  (try simp only [Act.put,zA,zB,zC,zF,zD,zE]);refine iw rfl ?_
  refine b_ (s:= .tmp 16) (x:= .tmp 22) (E:=EPr) (T:=36) (zero:=([],[])) (bytes:=32) (v:= .slice (some ⟨W1.heap.size,0,none⟩) 0 0) (u:=(.slice (some ⟨g,o,none⟩) i c)) (xs:= []) (ys:=l.take i) tiPr Tryz.underlying22 Tryz.underlying22 rfl rfl rfl (aE_ W1.drew rfl) (HTK.out.ext0 hEa) (by rw [HTL.out];simp;omega) (by rw [HTL.out];simp;omega) ?_
  intro v2 W2 how2 hext2 hnear2 _
  obtain⟨hE2,hf2⟩:=p_ hEa (by simp [blkL]) hext2 hnear2
  simp only [List.nil_append] at how2
  obtain⟨p2,c2,rfl,_⟩:=how2.rd.len_eq
  rw [HTL.out] at how2 hf2 ⊢
  obtain⟨HO2,HE2,HF2⟩:=h_3 how2 hE2 hf2
  have HR2:=hi_ ((HRR.out).ext0 hE2)
  refine hK.out _ _ (fun _=> hE2.cell c0 (by simp)) (fun _=> ?_)
  clear hK how2 hext2 hnear2 hE2 hf2 hEa
  refine oN 16 fun K hK=> ?_
  (try simp only [Act.put,zA,zB,zC,zF,zD,zE]);refine iw rfl ?_
  refine b_ (s:= .tmp 23) (x:= .tmp 30) (E:=EPr) (T:=36) (zero:=([],[])) (bytes:=32) (v:= .slice p2 i c2) (u:=(.slice (some ⟨g,o+(i+1)*2,none⟩) (N - (i+1)) (c - (i+1)))) (xs:=l.take i) (ys:=rest) tiPr Tryz.underlying22 Tryz.underlying22 rfl rfl rfl HO2.out HR2.out (by rw [HTL.out];have:=HRL.out;omega) (by rw [HTL.out];have:=HRL.out;omega) ?_
  intro v4 W4 how4 hext4 hnear4 _
  obtain⟨p4,c4,rfl,_⟩:=how4.rd.len_eq
  obtain⟨M4,hM4⟩: ∃M,M=(l.take i++rest).length:=⟨_,rfl⟩
  rw [<-hM4] at how4 ⊢
  clear hM4
  obtain⟨hE4, -⟩:=p_ HE2.out HF2.out hext4 hnear4
  have hb4:=hE4.blk HBK.out (by simp)
  have cm4:=hE4.cell c0 (by simp)
  have hfz: ∀j,W4.frozen? ⟨mb,j,none⟩=false:=fun j=> frozen_of_row _ _ _ _ _ hb4
  have hb5:=heap_setCell_same W4 mb 0 _ _ (.slice p4 M4 c4) hb4
  have hE5:Ext [mb] W4 (W4.setCell ⟨mb,0,none⟩ (.slice p4 M4 c4)):=(Ext.refl [mb] W4).setCell (.inl (by simp)) _
  have HX:=hi_ (⟨⟨_,hb5,how4.ext hE5 (by simpa using how4.ne hb4 (by decide))⟩,((HE1.out.nil (S:= [mb])).trans (hE4.nil)).trans hE5⟩:MapR (W4.setCell ⟨mb,0,none⟩ (.slice p4 M4 c4)) mb (l.take i++rest)/\Ext [mb] w (W4.setCell ⟨mb,0,none⟩ (.slice p4 M4 c4)))
  refine nk hK ?_
  clear hK how4 hext4 hnear4 hE4 hb4 hb5 hE5 c0 HO2 HE2 HF2 HR2
  refine PUq 17 ?_;(try go_frame);(try simp only [zA,zB,zC,zD,zE]);refine PUq 18 ?_;(try go_frame);(try simp only [zA,zB,zC,zD,zE])
  refine oN 19 fun K hK=> ?_
  refine iw rfl ?_
  go_simp
  refine nk hK ?_
  refine c_ (by kernel_rfl) ?_ _
  clear hK hS hD
  go_wp2
  go_ret
  exact⟨rfl,HX.out⟩
theorem sel_skip {fr up:Ky} (t:List Pr) (i:Nat) (hi:i < t.length) (h:inR fr up t[i]=false):selR fr up (t.take (i+1))=selR fr up (t.take i):=by
 rw [List.take_succ_eq_append_getElem hi,af_]
 simp [selR,h]
theorem mrange_c (mb:Nat) (l:List Pr) (fr up:Ky) (m:Nat) (w:World) (h:MapR w mb l) (hl:l.length<=100000) (hm:(m:Int)<=9223372036854775807):
  Calls Tryz.prog 51 #[.pointer (some ⟨mb,0,none⟩),.string ⟨fr.toArray⟩,.string ⟨up.toArray⟩,.int .i64 m] w fun e w'=> ∃ov,e= .returned (.tuple #[ov,.int .i64 0])/\EPr.Ow 36 w' ov ((selR fr up l).take m)/\Ext [] w w':=by
 obtain⟨p,c,c0,hc,how, -⟩:=h.cell
 obtain⟨N,hN⟩: ∃N,N=l.length:=⟨_,rfl⟩
 rw [<-hN] at c0 hc how hl
 obtain⟨HN,HOW⟩:=h_2 hN how
 have HC0:Hid (∀W,Ext [] w W->W.cell? ⟨mb,0,none⟩=some (.slice p N c)):=hi_ (fun W hE=> hE.cell c0 (by simp))
 have hm0: ¬((m:Int) < 0):=by omega
 clear hN how h c0
 go_enter Tryz.func51,Tryz.ntmps51
 go_wp2_with fail
 go_loopw [10,11] (fun bv iv wr=> ∃i:Nat,iv= .int .i64 i/\i<=N/\Hid (EPr.Ow 36 wr bv (selR fr up (l.take i)))/\Hid ((selR fr up (l.take i)).length<=m)/\Hid (Ext [] w wr)/\Hid (∀g∈blkL bv,w.heap.size<=g)) (fun _ iv _=> N - (intOf iv).toNat)
 case atStart=> exact⟨0,rfl,Nat.zero_le _,hi_ (.inl ⟨rfl,by simp [selR]⟩),hi_ (by simp [selR]),hi_ (Ext.refl _ _),hi_ (by simp [blkL])⟩
 case round=>
  obtain⟨i,rfl,hi,HO,HL,HE,HF⟩:=hrel
  obtain⟨pb,cb,rfl,_⟩:=HO.out.rd.len_eq
  obtain⟨s,hs⟩: ∃s,s=selR fr up (l.take i):=⟨_,rfl⟩
  rw [<-hs] at HO HL HF
  simp only [<-hs]
  have HS:=hi_ hs
  have hsl:s.length<=N:=by
   have h1:s.length<=(l.take i).length:=by rw [hs];exact List.length_filter_le _ _
   rw [List.length_take] at h1
   omega
  clear hs
  have c0:=HC0.out _ HE.out
  by_cases hlt:i < N
  ·have z1:(i:Int) < (N:Int):=by omega
   have hit:i < l.length:=by rw [<-HN.out];exact hlt
   by_cases hms:s.length < m
   ·have z2:(s.length:Int) < (m:Int):=by omega
    obtain⟨g,o,rfl⟩: ∃g o,p=some ⟨g,o,none⟩:=by
     rcases HOW.out with ⟨h,_⟩ | ⟨g,o,c,_,h,_⟩
     ·simp only [Value.slice.injEq] at h;omega
     ·simp only [Value.slice.injEq] at h;exact⟨g,_,h.1⟩
    obtain⟨m1,m2⟩:=aj_ (HOW.out.rd.ext0 HE.out) i hit
    have hx:l.getD i ([],[])=l[i]:=by simp [List.getD,hit]
    rw [hx] at m1 m2
    have hstep:=hx_ (fr:=fr) (up:=up) l i hit
    have hskip:=sel_skip (fr:=fr) (up:=up) l i hit
    rw [<-HS.out] at hstep hskip
    obtain⟨x,hxx⟩: ∃x,x=l[i]:=⟨_,rfl⟩
    rw [<-hxx] at m1 m2 hstep hskip
    obtain⟨HSTEP,HSKIP⟩:=h_2 hstep hskip
    have zi:((i:Int)).toNat=i:=by omega
    clear hx hxx hit hstep hskip
    by_cases hf:x.1 < fr
    ·have hbf:Op.bytesLess x.1 fr=true:=by rw [Z_];simpa using hf
     have hs1:=HSKIP.out (by simp [inR,hf])
     have HO1:Hid (EPr.Ow 36 wr (.slice pb s.length cb) (selR fr up (l.take (i+1)))):=hi_ (by rw [hs1];exact HO.out)
     have HL1:Hid ((selR fr up (l.take (i+1))).length<=m):=hi_ (by rw [hs1];exact HL.out)
     clear hs1 hf
     go_wp2_with fail
     go_roundw
     case rel=> exact⟨i+1,by go_num,by omega,HO1,HL1,HE,HF⟩
     case measure=> simp [intOf];omega
    ·have hbf:Op.bytesLess x.1 fr=false:=by rw [Z_];simpa using hf
     by_cases hu:up= []
     ·subst hu
      have hs1:=HSTEP.out hf (.inl rfl)
      have HS1:=hi_ hs1
      clear hs1 hf
      go_wp2_with (with_reducible refine f_ (d:=64) ?_)
      refine m_ rfl fun K hK=> b_ (E:=EPr) (T:=36) (zero:=([],[])) (bytes:=32) (v:= .slice pb s.length cb) (xs:=s) (ys:= [x]) tiPr Tryz.underlying22 Tryz.underlying22 rfl rfl rfl (HO.out.ext0 ((Ext.refl [] wr).alloc _)) (cq_ wr x) (by simp;omega) (by simp;omega) ?_
      intro v9 w9 how hext hnear _
      rw [<-HS1.out] at how
      obtain⟨hE9,hf9⟩:=p_ (HE.out.alloc (.cells #[.string ⟨x.1.toArray⟩,.string ⟨x.2.toArray⟩] 36)) HF.out hext hnear
      obtain⟨HO9,HE9,HF9⟩:=h_3 how hE9 hf9
      have hl9:(selR fr [] (l.take (i+1))).length<=m:=by rw [HS1.out,List.length_append,List.length_singleton];omega
      have HL9:=hi_ hl9
      clear how hext hnear hE9 hf9 hl9 m1 m2 c0
      refine hK _ _ ?_
      clear hK
      go_wp2_with fail
      go_roundw
      case rel=> exact⟨i+1,by go_num,by omega,HO9,HL9,HE9,HF9⟩
      case measure=> simp [intOf];omega
     ·have hub:(up== [])=false:=beq_eq_false_iff_ne.2 hu
      by_cases hk:x.1 < up
      ·have hs1:=HSTEP.out hf (.inr hk)
       have HS1:=hi_ hs1
       have hbl:Op.bytesLess x.1 up=true:=by rw [Z_];simpa using hk
       clear hs1 hu hk hf
       go_wp2_with (with_reducible refine f_ (d:=64) ?_)
       refine m_ rfl fun K hK=> b_ (E:=EPr) (T:=36) (zero:=([],[])) (bytes:=32) (v:= .slice pb s.length cb) (xs:=s) (ys:= [x]) tiPr Tryz.underlying22 Tryz.underlying22 rfl rfl rfl (HO.out.ext0 ((Ext.refl [] wr).alloc _)) (cq_ wr x) (by simp;omega) (by simp;omega) ?_
       intro v9 w9 how hext hnear _
       rw [<-HS1.out] at how
       obtain⟨hE9,hf9⟩:=p_ (HE.out.alloc (.cells #[.string ⟨x.1.toArray⟩,.string ⟨x.2.toArray⟩] 36)) HF.out hext hnear
       obtain⟨HO9,HE9,HF9⟩:=h_3 how hE9 hf9
       have hl9:(selR fr up (l.take (i+1))).length<=m:=by rw [HS1.out,List.length_append,List.length_singleton];omega
       have HL9:=hi_ hl9
       clear how hext hnear hE9 hf9 hl9 m1 m2 c0
       refine hK _ _ ?_
       clear hK
       go_wp2_with fail
       go_roundw
       case rel=> exact⟨i+1,by go_num,by omega,HO9,HL9,HE9,HF9⟩
       case measure=> simp [intOf];omega
      ·have hbl:Op.bytesLess x.1 up=false:=by rw [Z_];simpa using hk
       have hs1:=HSKIP.out (by simp [inR,hk,hu])
       have HO1:Hid (EPr.Ow 36 wr (.slice pb s.length cb) (selR fr up (l.take (i+1)))):=hi_ (by rw [hs1];exact HO.out)
       have HL1:Hid ((selR fr up (l.take (i+1))).length<=m):=hi_ (by rw [hs1];exact HL.out)
       clear hs1 hf hk hu
       go_wp2_with fail
       go_roundw
       case rel=> exact⟨i+1,by go_num,by omega,HO1,HL1,HE,HF⟩
       case measure=> simp [intOf];omega
   ·have z2: ¬((s.length:Int) < (m:Int)):=by omega
    have hfull:(selR fr up l).take m=s:=by
     have h1:=HL.out
     rw [HS.out] at h1 ⊢
     exact hy_ l i _ h1 (by rw [<-HS.out];omega)
    have HFU:=hi_ hfull
    clear hfull
    go_wp2_with fail
    go_ret2
    exact⟨_,rfl,by rw [HFU.out];exact HO.out,HE.out⟩
  ·have z1: ¬((i:Int) < (N:Int)):=by omega
   have hfull:(selR fr up l).take m=s:=by
    have h1:=HL.out
    rw [HS.out,List.take_of_length_le (l:=l) (by rw [<-HN.out];omega)] at h1 ⊢
    exact List.take_of_length_le h1
   have HFU:=hi_ hfull
   clear hfull
   go_wp2_with fail
   go_ret2
   exact⟨_,rfl,by rw [HFU.out];exact HO.out,HE.out⟩
theorem iA_ (a:Value) (fr up:Ky) (m:Int) (w:World) (hm:m < 0):
  Calls Tryz.prog 51 #[a,.string ⟨fr.toArray⟩,.string ⟨up.toArray⟩,.int .i64 m] w fun e w'=> e= .returned (.tuple #[.slice none 0 0,.int .i64 1])/\Ext [] w w':=by
 go_enter Tryz.func51,Tryz.ntmps51
 go_wp2
 go_ret2
 exact⟨rfl,Ext.refl _ _⟩
theorem gC_ (tb:Nat) (fr up:Ky) (m:Int) (w:World) (hm:m < 0):
  Calls Tryz.prog 16 #[.pointer (some ⟨tb,0,none⟩),.string ⟨fr.toArray⟩,.string ⟨up.toArray⟩,.int .i64 m] w fun e w'=> e= .returned (.tuple #[.slice none 0 0,.int .i64 1])/\Ext [] w w':=by
 go_enter Tryz.func16,Tryz.ntmps16
 go_wp2
 go_ret2
 exact⟨rfl,Ext.refl _ _⟩
theorem mcopy_c (mb:Nat) (l:List Pr) (w:World) (h:MapR w mb l) (hl:l.length<=100000):
  Calls Tryz.prog 20 #[.pointer (some ⟨mb,0,none⟩)] w fun e w'=> ∃nb,e= .returned (.pointer (some ⟨nb,0,none⟩))/\MapR w' nb l/\Ext [] w w'/\w.heap.size<=nb:=by
 obtain⟨p,c,c0,hc,how, -⟩:=h.cell
 obtain⟨N,hN⟩: ∃N,N=l.length:=⟨_,rfl⟩
 rw [<-hN] at c0 hc how hl
 obtain⟨HN,HOW⟩:=h_2 hN how
 clear hN how h
 go_enter Tryz.func20,Tryz.ntmps20
 have hEa:=(Ext.refl [] w).alloc (.cells #[] 36)
 have ca:=hEa.cell c0 (by simp)
 go_wp2_with (with_reducible refine f_ (d:=8) ?_)
 refine m_ rfl fun K hK=> b_ (s:= .tmp 3) (x:= .tmp 7) (E:=EPr) (T:=36) (zero:=([],[])) (bytes:=32) (v:= .slice (some ⟨w.heap.size,0,none⟩) 0 0) (u:= .slice p N c) (xs:= []) (ys:=l) tiPr Tryz.underlying22 Tryz.underlying22 rfl rfl rfl (aE_ w rfl) (HOW.out.rd.ext0 hEa) (by rw [<-HN.out];simp;omega) (by rw [<-HN.out];simp;omega) ?_
 intro v2 W2 how2 hext2 hnear2 _
 obtain⟨hE2,hf2⟩:=p_ hEa (by simp [blkL]) hext2 hnear2
 simp only [List.nil_append] at how2
 obtain⟨p2,c2,rfl,_⟩:=how2.rd.len_eq
 have hsz:=hE2.size
 refine hK _ _ ?_
 rw [<-HN.out] at how2 ⊢
 obtain⟨HO2,HE2⟩:=h_2 how2 hE2
 clear hK how2 hext2 hnear2 hE2 hf2 ca hEa c0
 go_wp2
 go_ret
 refine⟨_,rfl,⟨_,heap_alloc_new _ _,HO2.out.ext0 ((Ext.refl [] _).alloc _)⟩,HE2.out.alloc _,hsz⟩
def BF (y:Sy) (bs:List Nat) (w w':World):Prop:= ∃S,Ext S w w'/\ ∀k∈S,SyOk y w k\/k∈bs
theorem BF.of (h:SyF y w w'):BF y bs w w':=by
 obtain⟨S,h1,h2⟩:=h
 exact⟨S,h1,fun k hk=> .inl (h2 k hk)⟩
theorem BF.of0 (h:Ext [] w w'):BF y bs w w':=⟨[],h,by simp⟩
theorem BF.refl (y:Sy) (bs:List Nat) (w:World):BF y bs w w:= .of0 (Ext.refl _ _)
theorem BF.df (h:DF y tb w w') (hb:tb∈bs):BF y bs w w':=by
 obtain⟨S,h1,h2⟩:=h
 exact⟨S,h1,fun k hk=> (h2 k hk).imp id (fun e=> by rw [e];exact hb)⟩
theorem BF.own (h:Ext S w w') (hb: ∀k∈S,k∈bs):BF y bs w w':=⟨S,h,fun k hk=> .inr (hb k hk)⟩
theorem BF.mono {bs bs':List Nat} (h:BF y bs w w') (hb: ∀k∈bs,k∈bs'\/w.heap.size<=k):BF y bs' w w':=by
 obtain⟨S,h1,h2⟩:=h
 refine⟨S.filter (fun k=> decide (k < w.heap.size)),(Ext.refl [] w).trans' h1 (by simp) (fun x hx=> ?_),fun k hk=> ?_⟩
 ·by_cases hl:x < w.heap.size
  ·exact .inl (by simp [hx,hl])
  ·exact .inr (by omega)
 ·simp only [List.mem_filter,decide_eq_true_eq] at hk
  rcases h2 k hk.1 with h | h
  ·exact .inl h
  ·rcases hb k h with h | h
   ·exact .inr h
   ·omega
theorem BF.trans {bs bs':List Nat} {a b c:World} (h:BF y bs a b) (k:BF y bs' b c) (hb: ∀k∈bs',k∈bs\/a.heap.size<=k):BF y bs a c:=by
 obtain⟨S,h1,h2⟩:=h
 obtain⟨S',k1,k2⟩:=k
 refine⟨S++S'.filter (fun k=> decide (k < a.heap.size/\k∉S)),h1.trans' k1 (fun x hx=> .inl (by simp [hx])) (fun x hx=> ?_),fun x hx=> ?_⟩
 ·by_cases hl:x < a.heap.size
  ·by_cases hs:x∈S
   ·exact .inl (by simp [hs])
   ·exact .inl (by simp [hx,hl,hs])
  ·exact .inr (by omega)
 ·rcases List.mem_append.1 hx with hx | hx
  ·exact h2 x hx
  ·simp only [List.mem_filter,decide_eq_true_eq] at hx
   obtain⟨hx1,hx2,hx3⟩:=hx
   have et:q_ b x=q_ a x:=by rw [q_,q_,h1.block x hx2 hx3]
   rcases k2 x hx1 with h | h
   ·rcases h with h | ⟨T,h3,h4,h5⟩
    ·exact .inl (.inl h)
    ·exact .inl (.inr ⟨T,h3,by rw [<-et];exact h4,h5⟩)
   ·rcases hb x h with h | h
    ·exact .inr h
    ·omega
theorem BF.then {a b c:World} (h:BF y bs a b) (k:BF y bs b c):BF y bs a c:=h.trans k (fun _ h=> .inl h)
theorem BF.tags (hy:SyR w y v) (h:BF y bs w w'): ∃S,Ext S w w'/\ ∀k∈S,k∉bs-> ∀T,T∉ [117,143,168,339,175]->q_ w k≠some T:=by
 obtain⟨S,h1,h2⟩:=h
 refine⟨S,h1,fun k hk hn T hT e=> ?_⟩
 simp only [List.mem_cons,List.not_mem_nil,or_false,not_or] at hT
 rcases h2 k hk with h | h
 ·rcases h with h | ⟨T',h3,h4,_⟩
  ·simp only [List.mem_cons,List.not_mem_nil,or_false] at h
   rcases h with rfl | rfl | rfl
   ·rw [hy.st.tag] at e;cases e;exact hT.1 rfl
   ·rw [hy.rk.tag.1] at e;cases e;exact hT.2.1 rfl
   ·rw [hy.sp.tag] at e;cases e;exact hT.2.2.1 rfl
  ·rw [h4] at e
   cases e
   simp only [List.mem_cons,List.not_mem_nil,or_false] at h3
   rcases h3 with rfl | rfl
   ·exact hT.2.2.2.1 rfl
   ·exact hT.2.2.2.2 rfl
 ·exact hn h
theorem BF.blk (hy:SyR w y v) (h:BF y bs w w') {c:Array Value} {x:Nat×Nat} (hg:w.heap[g]? =some (.cells c T x)) (hn:g∉bs) (hT:T∉ [117,143,168,339,175]):w'.heap[g]? =some (.cells c T x):=by
 obtain⟨S,h1,h2⟩:=h.tags hy
 exact h1.blk hg (fun hm=> h2 g hm hn T hT (d_ hg))
theorem MapR.bf (hm:MapR w mb l) (hy:SyR w y v) (h:BF y bs w w') (hn:mb∉bs) (hp: ∀k∈bs,q_ w k≠some 36):MapR w' mb l:=by
 obtain⟨S,h1,h2⟩:=h.tags hy
 obtain⟨lv,h3,h4⟩:=hm
 refine⟨lv,h1.blk h3 (fun hk=> h2 mb hk hn _ (by decide) (d_ h3)),h4.ext h1 (fun g hg hk=> ?_)⟩
 by_cases hb:g∈bs
 ·exact hp g hb (h4.tagOf g hg)
 ·exact h2 g hk hb _ (by decide) (h4.tagOf g hg)
theorem TreeR.bf {y y':Sy} (ht:TreeR w y' tb yv gv s) (hy:SyR w y v) (h:BF y bs w w') (hn:tb∉bs) (hp: ∀k∈bs,∀T∈(34::aJ_),q_ w k≠some T):TreeR w' y' tb yv gv s:=by
 obtain⟨S,h1,h2⟩:=h.tags hy
 refine⟨h1.blk ht.blk (fun hk=> h2 tb hk hn _ (by decide) (d_ ht.blk)),ht.root.ext h1 (fun k hk T hT=> ?_),ht.gone.ext h1 (fun g hg hk=> ?_)⟩
 ·by_cases hb:k∈bs
  ·exact hp k hb T (List.mem_cons_of_mem _ hT)
  ·exact h2 k hk hb T (by revert T;decide)
 ·by_cases hb:g∈bs
  ·exact hp g hb _ (by simp) (ht.gone.tagOf g hg)
  ·exact h2 g hk hb _ (by decide) (ht.gone.tagOf g hg)
theorem MapR.tag (h:MapR w mb l):q_ w mb=some 48:=by obtain⟨lv,h,_⟩:=h;exact d_ h
theorem TreeR.tag (h:TreeR w y tb yv gv s):q_ w tb=some 91:=d_ h.blk
theorem sel_drop (hs:SrtK l) (key:Ky):selR key [] l=l.drop (atF l key):=by
 obtain⟨h0,h1,h2⟩:=hs.atF_spec key
 conv=> lhs;rw [<-List.take_append_drop (atF l key) l]
 rw [af_,eJ_ (fun p hp=> ?_),List.nil_append,selR,List.filter_eq_self]
 ·intro p hp
  obtain⟨j,hj⟩:=List.getElem?_of_mem hp
  rw [List.getElem?_drop] at hj
  have:=h2 _ p (by omega) hj
  simp [inR,this]
 ·obtain⟨j,hj⟩:=List.getElem?_of_mem hp
  rw [List.getElem?_take] at hj
  split at hj
  ·exact h1 j p (by assumption) hj
  ·cases hj
theorem getR_eq (hs:SrtK l) (key:Ky):getR l key=if B_ l key then some (l.getD (atF l key) ([],[])).2 else none:=by
 rw [getR,sel_drop hs,List.head?_drop,B_]
 cases h:l[atF l key]? with
 | none=> simp
 | some p=> simp [h,List.getD]
structure BothR (w:World) (y:Sy) (v:Sv) (L:List Blk) (tb:Nat) (yv:Rfm) (gv:Value) (s:TS) (mb:Nat):Prop where
 sy:SyR w y v
 dk:DkS y v L
 tr:TreeR w y tb yv gv s
 ok:RtOk L s.root
 mr:MapR w mb (i_ s.root)
structure SmallT (s:TS):Prop where
 prs:(i_ s.root).length<=100000
 bks:(L_ s.root).length<=40000
 gone:s.gone.length<=900000
structure StepR (y:Sy) (v:Sv) (L:List Blk) (tb:Nat) (s:TS) (mb:Nat) (w w':World):Prop where
 ex: ∃v' yv' gv' s',BothR w' y v' L tb yv' gv' s' mb/\SameV v v'/\(L_ s'.root++s'.gone).Perm (L_ s.root++s.gone)/\(i_ s'.root).length<=(i_ s.root).length+1/\(∀m,HtOk m s.root->(i_ s.root).length<=m->HtOk (m+1) s'.root)/\((∃yv0 d0,w.heap[tb]? =some (.cells (ba_ y yv0 gv' d0) 91 (0,0)))\/ ∀g∈blkL gv',w.heap.size<=g)
 fr:BF y [tb,mb] w w'
structure TrTo (y:Sy) (v:Sv) (L:List Blk) (tb:Nat) (s:TS) (l':List Pr) (w w':World):Prop where
 ex: ∃v' yv' gv' s',SyR w' y v'/\SameV v v'/\DkS y v' L/\TreeR w' y tb yv' gv' s'/\RtOk L s'.root/\i_ s'.root=l'/\(L_ s'.root++s'.gone).Perm (L_ s.root++s.gone)/\(∀m,HtOk m s.root->(i_ s.root).length<=m->HtOk (m+1) s'.root)/\((∃yv0 d0,w.heap[tb]? =some (.cells (ba_ y yv0 gv' d0) 91 (0,0)))\/ ∀g∈blkL gv',w.heap.size<=g)
 fr:DF y tb w w'
theorem do_to (hf:EdF key f) (hw:WOk f) (hd:DkS y v L) (hr:RtOk L s.root) (ht:TreeR w y tb yv gv s) {e:Ending} (h:DoPost y v L tb yv gv s (doF s.root key f) w e w'):
  (∀l',f (i_ s.root)= .ok l'->e= .returned (.int .i64 0)/\TrTo y v L tb s l' w w')/\(∀k,f (i_ s.root)= .error k->e= .returned (.int .i64 k)/\TrTo y v L tb s (i_ s.root) w w'):=by
 obtain⟨h1,h2⟩:=do_ok hf s.root hr
 refine⟨fun l' hl=> ?_,fun k hk=> ?_⟩
 ·obtain⟨r',g,h3,h4⟩:=h2 l' hl
  rw [h3] at h
  obtain⟨yv',gv',v',h5,h6,h7,h8,h9,h10,h11⟩:=h
  refine⟨h5,⟨v',yv',gv',_,h6,h7,hd.same h7 h8,h9,h4.ok,h4.pr, ?_,fun m hm hp=> do_ht hf hw s.root hr hm hp hl h3,.inr h11⟩,h10⟩
  have h11:=h4.bk
  show (L_ r'++(s.gone++g)).Perm _
  exact((List.Perm.append_left _ List.perm_append_comm).trans (by rw [<-List.append_assoc])).trans (h11.append_right s.gone)
 ·rw [h1 k hk] at h
  obtain⟨v',h5,h6,h7,h8,h9,h10⟩:=h
  exact⟨h5,⟨v',yv,gv,s,h6,h7,hd.same h7 h8,h9,hr,rfl,List.Perm.refl _,fun m hm _=> hm.mono (Nat.le_succ m),.inl ⟨_,_,ht.blk⟩⟩,h10⟩
theorem BothR.ext0 (h:BothR w y v L tb yv gv s mb) (he:Ext [] w w'):BothR w' y v L tb yv gv s mb:=⟨h.sy.ext0 he,h.dk,h.tr.ext0 he,h.ok,h.mr.ext0 he⟩
theorem StepR.pre (he:Ext [] w W) (hl:tb < w.heap.size) (h:StepR y v L tb s mb W w'):StepR y v L tb s mb w w':=by
 obtain⟨v',yv',gv',s',h1,h2,h3,h4,h5,h6⟩:=h.ex
 refine⟨⟨v',yv',gv',s',h1,h2,h3,h4,h5, ?_⟩,(BF.of0 he).then h.fr⟩
 rcases h6 with ⟨a,b,h7⟩ | h7
 ·exact .inl ⟨a,b,by rw [<-he.block tb hl (by simp)];exact h7⟩
 ·exact .inr (fun g hg=> Nat.le_trans he.size (h7 g hg))
theorem TrTo.fin {l' l2:List Pr} (h:TrTo y v L tb s l' w w1) (hl:l'.length<=(i_ s.root).length+1) (hm1:MapR w1 mb l2) (hm:MapR w2 mb l') (he:Ext [mb] w1 w2):StepR y v L tb s mb w w2:=by
 obtain⟨v',yv',gv',s',h1,h2,h3,h4,h5,h6,h7,h8⟩:=h.ex
 have ht:=hm1.tag
 refine⟨⟨v',yv',gv',s',⟨h1.otherT he (by simp only [List.mem_singleton,forall_eq,ht];decide),h3,h4.ext he (by simp only [List.mem_singleton,forall_eq,ht];decide),h5,by rw [h6];exact hm⟩,h2,h7,by rw [h6];exact hl,h8⟩, ?_⟩
 exact(BF.df h.fr (by simp)).then (BF.own he (by simp))
theorem dq_ (h:BothR w y v L tb yv gv s mb) (hs:SyR w' y v') (hv:SameV v v') (hd:Dsk y v' L) (hf:BF y [] w w'):StepR y v L tb s mb w w':=
 ⟨⟨v',yv,gv,s,⟨hs,h.dk.same hv hd,h.tr.bf h.sy hf (by simp) (by simp),h.ok,h.mr.bf h.sy hf (by simp) (by simp)⟩,hv,List.Perm.refl _,by omega,fun m hm _=> hm.mono (Nat.le_succ m),.inl ⟨_,_,h.tr.blk⟩⟩,hf.mono (by simp)⟩
theorem TrTo.map {l' l:List Pr} {v0:Sv} (h:TrTo y v L tb s l' w w1) (hy:SyR w y v0) (hm:MapR w mb l) (ht:q_ w tb=some 91):MapR w1 mb l:=
 hm.bf hy (BF.df (bs:= [tb]) h.fr (by simp)) (by simp only [List.mem_singleton];intro e;rw [<-e,hm.tag] at ht;cases ht) (by simp only [List.mem_singleton,forall_eq,ht];decide)
theorem put_both (h:BothR w y v L tb yv gv s mb) (sm:SmallT s) (key val:Ky):
  ∃(c:Int) (l':List Pr),l'.length<=(i_ s.root).length+1/\
   Calls Tryz.prog 14 #[.pointer (some ⟨tb,0,none⟩),.string ⟨key.toArray⟩,.string ⟨val.toArray⟩] w (fun e w'=> e= .returned (.int .i64 c)/\TrTo y v L tb s l' w w')/\
   ∀W,MapR W mb (i_ s.root)->Calls Tryz.prog 24 #[.pointer (some ⟨mb,0,none⟩),.string ⟨key.toArray⟩,.string ⟨val.toArray⟩] W (fun e w'=> e= .returned (.int .i64 c)/\MapR w' mb l'/\Ext [mb] W w'):=by
 by_cases hb:dN_ key val
 ·refine⟨2,i_ s.root,by omega,(trput_bad key val tb w hb).mono ?_,fun W hm=> (mput_bad mb key val W hb).mono ?_⟩
  ·rintro e w' ⟨h1,h2⟩
   exact⟨h1,⟨⟨v,yv,gv,s,h.sy.ext0 h2,SameV.refl v,h.dk,h.tr.ext0 h2,h.ok,rfl,List.Perm.refl _,fun m hm _=> hm.mono (Nat.le_succ m),.inl ⟨_,_,h.tr.blk⟩⟩,DF.of0 h2⟩⟩
  ·rintro e w' ⟨h1,h2⟩
   exact⟨h1,hm.ext0 h2,h2.nil⟩
 ·have hf:EdF key (putF key val):=hE_ (fun e=> hb (.inl e)) (Nat.le_of_not_lt fun e=> hb (.inr (.inl e))) (Nat.le_of_not_lt fun e=> hb (.inr (.inr e)))
  have hw:WOk (putF key val):=put_w (Nat.le_of_not_lt fun e=> hb (.inr (.inl e))) (Nat.le_of_not_lt fun e=> hb (.inr (.inr e)))
  refine⟨0,(i_ s.root).take (atF (i_ s.root) key)++ [(key,val)]++(i_ s.root).drop (atF (i_ s.root) key+(if B_ (i_ s.root) key then 1 else 0)), ?_,(gD_ key val y v tb yv gv s w hb h.sy h.dk.dsk h.tr h.ok sm.bks sm.gone).mono ?_,fun W hm=> (mput_c mb _ key val W hm h.ok.srt.1 sm.prs hb).mono ?_⟩
  ·have:=dK_ (i_ s.root) key
   simp only [List.length_append,List.length_take,List.length_drop,List.length_singleton]
   omega
  ·intro e w' hp
   exact(do_to hf hw h.dk h.ok h.tr hp).1 _ rfl
  ·exact fun e w' hq=> hq
theorem drop_both (h:BothR w y v L tb yv gv s mb) (sm:SmallT s) (key:Ky):
  ∃(c:Int) (l':List Pr),l'.length<=(i_ s.root).length+1/\
   Calls Tryz.prog 25 #[.pointer (some ⟨tb,0,none⟩),.string ⟨key.toArray⟩] w (fun e w'=> e= .returned (.int .i64 c)/\TrTo y v L tb s l' w w')/\
   ∀W,MapR W mb (i_ s.root)->Calls Tryz.prog 26 #[.pointer (some ⟨mb,0,none⟩),.string ⟨key.toArray⟩] W (fun e w'=> e= .returned (.int .i64 c)/\MapR w' mb l'/\Ext [mb] W w'):=by
 by_cases ht:B_ (i_ s.root) key=true
 ·refine⟨0,(i_ s.root).take (atF (i_ s.root) key)++(i_ s.root).drop (atF (i_ s.root) key+1), ?_,(hr_ key y v tb yv gv s w h.sy h.dk.dsk h.tr h.ok sm.bks sm.gone).mono ?_,fun W hm=> (mdrop_yes mb _ key W hm h.ok.srt.1 sm.prs ht).mono ?_⟩
  ·simp only [List.length_append,List.length_take,List.length_drop]
   omega
  ·intro e w' hp
   exact(do_to (gY_ key) (drop_w key) h.dk h.ok h.tr hp).1 _ (by rw [bG_,if_pos ht])
  ·exact fun e w' hq=> hq
 ·have hn:B_ (i_ s.root) key=false:=by simpa using ht
  refine⟨7,i_ s.root,by omega,(hr_ key y v tb yv gv s w h.sy h.dk.dsk h.tr h.ok sm.bks sm.gone).mono ?_,fun W hm=> (mdrop_no mb _ key W hm h.ok.srt.1 sm.prs hn).mono ?_⟩
  ·intro e w' hp
   exact(do_to (gY_ key) (drop_w key) h.dk h.ok h.tr hp).2 _ (by rw [bG_,if_neg ht])
  ·rintro e w' ⟨h1,h2⟩
   exact⟨h1,hm.ext0 h2,h2.nil⟩
def opV (K:Int) (key val:Ky) (n:Int):Value:= .agg #[.int .i64 K,.string ⟨key.toArray⟩,.string ⟨val.toArray⟩,.int .i64 n]
theorem aI_ {a0 a1 a2 a3:Value} (h:W.heap[g]? =some (.cells #[a0,a1,a2,a3] T (0,0))):W.cell? ⟨g,0,none⟩=some a0/\W.cell? ⟨g,1,none⟩=some a1/\W.cell? ⟨g,2,none⟩=some a2/\W.cell? ⟨g,3,none⟩=some a3:=by
 refine⟨?_, ?_, ?_, ?_⟩ <;> (rw [cell_of_row W g _ _ _ _ h];rfl)
theorem step1_c (h:BothR w y v L tb yv gv s mb) (sm:SmallT s) (key val:Ky) (n:Int):
  Calls Tryz.prog 18 #[.pointer (some ⟨tb,0,none⟩),.pointer (some ⟨mb,0,none⟩),opV 1 key val n] w fun e w'=> e= .returned (.bool true)/\StepR y v L tb s mb w w':=by
 have hE0:=(Ext.refl [] w).alloc (.cells #[.int .i64 1,.string ⟨key.toArray⟩,.string ⟨val.toArray⟩,.int .i64 n] 50)
 have hb0:=heap_alloc_new w (.cells #[.int .i64 1,.string ⟨key.toArray⟩,.string ⟨val.toArray⟩,.int .i64 n] 50)
 have HD:=hi_ (fun W (he:Ext [] w W)=> put_both (h.ext0 he) sm key val)
 have HB:=hi_ h
 obtain⟨x0,x1,x2, -⟩:=aI_ hb0
 obtain⟨HB0,HE0⟩:=h_2 hb0 hE0
 have htb:=h.tr.tag
 clear h sm hE0 hb0
 unfold opV
 go_enter Tryz.func18,Tryz.ntmps18
 go_wp2_with fail
 obtain⟨bb,hbb⟩: ∃b,b=w.heap.size:=⟨_,rfl⟩
 have hne:bb≠tb:=fun e=> by have:=(Array.getElem?_eq_some_iff.1 HB.out.tr.blk).1;omega
 simp only [<-hbb] at HB0 ⊢
 clear x0 x1 x2
 clear hbb
 revert HB0 HE0
 generalize World.alloc _ _=W0
 intro HE0 HB0
 have hD:=(Ext.refl [] W0).drew
 have hE:=HE0.out.trans hD
 obtain⟨c,l',hl',ht',hm'⟩:=HD.out _ hE
 obtain⟨HT,HMM⟩:=h_2 ht' hm'
 have HBW:=hi_ (HB.out.ext0 hE)
 have hbW:=hD.blk HB0.out (by simp)
 obtain⟨x0,x1,x2, -⟩:=aI_ hbW
 obtain⟨HBB,HE⟩:=h_2 hbW hE
 clear ht' hm' hbW HD hE x0
 refine e_ (fun W=> W.cell? ⟨bb,1,none⟩=some (.string ⟨key.toArray⟩)/\W.cell? ⟨bb,2,none⟩=some (.string ⟨val.toArray⟩)) (fun i=> i==2 || i==4 || i==8 || i==10 || i==5) (by kernel_rfl) ⟨x1,x2⟩ (fun hS=> ?_)
 refine PUq 0 ?_;(try go_frame);refine PUq 1 ?_;(try go_frame);refine PUq 3 ?_;(try go_frame);refine PUq 6 ?_;(try go_frame);(try simp only [zA,zB,zC,zD,zE]);refine PUq 7 ?_;(try go_frame);(try simp only [zA,zB,zC,zD,zE]);refine PUq 9 ?_;(try go_frame);(try simp only [zA,zB,zC,zD,zE])
 refine ta 2 ?_;(try go_frame);refine ta 4 ?_;(try go_frame);refine ta 8 ?_;(try go_frame);(try simp only [zA,zB,zC,zD,zE]);refine ta 10 ?_;(try go_frame);(try simp only [zA,zB,zC,zD,zE])
 refine oN 5 fun K hK=> ?_
 (try simp only [Act.put,zA,zB,zC,zF,zD,zE]);refine iw rfl ?_
 go_simp
 refine HT.out.mono ?_
 rintro e W5 ⟨rfl,h5⟩
 have hb5:=BF.blk HBW.out.sy (BF.df (bs:= [tb]) h5.fr (by simp)) HBB.out (by simpa using hne) (by decide)
 obtain⟨-,x1,x2, -⟩:=aI_ hb5
 refine hK.out _ _ (fun _=> ⟨x1,x2⟩) (fun _=> ?_)
 have hm5:=h5.map HBW.out.sy HBW.out.mr HBW.out.tr.tag
 obtain⟨H5,HM5⟩:=h_2 h5 hm5
 clear hK hS hb5 h5 hm5
 refine oN 11 fun K hK=> ?_
 (try simp only [Act.put,zA,zB,zC,zF,zD,zE]);refine iw rfl ?_
 go_simp
 refine(HMM.out W5 HM5.out).mono ?_
 rintro e W6 ⟨rfl,hm6,hE6⟩
 have hfin:=StepR.pre HE.out (g_ HB.out.tr.blk) (H5.out.fin hl' HM5.out hm6 hE6)
 have HFIN:=hi_ hfin
 refine nk hK ?_
 clear hK hm6 hE6 hfin
 refine PUq 12 ?_;(try go_frame);(try simp only [zA,zB,zC,zD,zE]);refine PUq 13 ?_;(try go_frame);(try simp only [zA,zB,zC,zD,zE])
 refine c_ (by kernel_rfl) ?_ _
 go_wp2_with fail
 go_ret
 exact⟨rfl,HFIN.out⟩
theorem step2_c (h:BothR w y v L tb yv gv s mb) (sm:SmallT s) (key val:Ky) (n:Int):
  Calls Tryz.prog 18 #[.pointer (some ⟨tb,0,none⟩),.pointer (some ⟨mb,0,none⟩),opV 2 key val n] w fun e w'=> e= .returned (.bool true)/\StepR y v L tb s mb w w':=by
 have hE0:=(Ext.refl [] w).alloc (.cells #[.int .i64 2,.string ⟨key.toArray⟩,.string ⟨val.toArray⟩,.int .i64 n] 50)
 have hb0:=heap_alloc_new w (.cells #[.int .i64 2,.string ⟨key.toArray⟩,.string ⟨val.toArray⟩,.int .i64 n] 50)
 have HD:=hi_ (fun W (he:Ext [] w W)=> drop_both (h.ext0 he) sm key)
 have HB:=hi_ h
 obtain⟨x0,x1,x2, -⟩:=aI_ hb0
 obtain⟨HB0,HE0⟩:=h_2 hb0 hE0
 have htb:=h.tr.tag
 clear h sm hE0 hb0
 unfold opV
 go_enter Tryz.func18,Tryz.ntmps18
 go_wp2_with fail
 obtain⟨bb,hbb⟩: ∃b,b=w.heap.size:=⟨_,rfl⟩
 have hne:bb≠tb:=fun e=> by have:=(Array.getElem?_eq_some_iff.1 HB.out.tr.blk).1;omega
 simp only [<-hbb] at HB0 ⊢
 clear x0 x1 x2
 clear hbb
 revert HB0 HE0
 generalize World.alloc _ _=W0
 intro HE0 HB0
 have hD:=(Ext.refl [] W0).drew
 have hE:=HE0.out.trans hD
 obtain⟨c,l',hl',ht',hm'⟩:=HD.out _ hE
 obtain⟨HT,HMM⟩:=h_2 ht' hm'
 have HBW:=hi_ (HB.out.ext0 hE)
 have hbW:=hD.blk HB0.out (by simp)
 obtain⟨x0,x1,x2, -⟩:=aI_ hbW
 obtain⟨HBB,HE⟩:=h_2 hbW hE
 clear ht' hm' hbW HD hE x0
 refine e_ (fun W=> W.cell? ⟨bb,1,none⟩=some (.string ⟨key.toArray⟩)) (fun i=> i==2 || i==6 || i==3) (by kernel_rfl) x1 (fun hS=> ?_)
 refine PUq 0 ?_;(try go_frame);refine PUq 1 ?_;(try go_frame);refine PUq 4 ?_;(try go_frame);refine PUq 5 ?_;(try go_frame)
 refine ta 2 ?_;(try go_frame);refine ta 6 ?_;(try go_frame);(try simp only [zA,zB,zC,zD,zE])
 refine oN 3 fun K hK=> ?_
 (try simp only [Act.put,zA,zB,zC,zF,zD,zE]);refine iw rfl ?_
 go_simp
 refine HT.out.mono ?_
 rintro e W5 ⟨rfl,h5⟩
 have hb5:=BF.blk HBW.out.sy (BF.df (bs:= [tb]) h5.fr (by simp)) HBB.out (by simpa using hne) (by decide)
 obtain⟨-,x1,x2, -⟩:=aI_ hb5
 refine hK.out _ _ (fun _=> x1) (fun _=> ?_)
 have hm5:=h5.map HBW.out.sy HBW.out.mr HBW.out.tr.tag
 obtain⟨H5,HM5⟩:=h_2 h5 hm5
 clear hK hS hb5 h5 hm5
 refine oN 7 fun K hK=> ?_
 (try simp only [Act.put,zA,zB,zC,zF,zD,zE]);refine iw rfl ?_
 go_simp
 refine(HMM.out W5 HM5.out).mono ?_
 rintro e W6 ⟨rfl,hm6,hE6⟩
 have hfin:=StepR.pre HE.out (g_ HB.out.tr.blk) (H5.out.fin hl' HM5.out hm6 hE6)
 have HFIN:=hi_ hfin
 refine nk hK ?_
 clear hK hm6 hE6 hfin
 refine PUq 8 ?_;(try go_frame);(try simp only [zA,zB,zC,zD,zE]);refine PUq 9 ?_;(try go_frame);(try simp only [zA,zB,zC,zD,zE])
 refine c_ (by kernel_rfl) ?_ _
 go_wp2_with fail
 go_ret
 exact⟨rfl,HFIN.out⟩
theorem get_both (h:BothR w y v L tb yv gv s mb) (sm:SmallT s) (key:Ky):
  ∃(g:Ky) (c:Int),
   Calls Tryz.prog 49 #[.pointer (some ⟨tb,0,none⟩),.string ⟨key.toArray⟩] w (fun e w'=> e= .returned (.tuple #[.string ⟨g.toArray⟩,.int .i64 c])/\StepR y v L tb s mb w w'/\SyF y w w')/\
   ∀W,MapR W mb (i_ s.root)->Calls Tryz.prog 50 #[.pointer (some ⟨mb,0,none⟩),.string ⟨key.toArray⟩] W (fun e w'=> e= .returned (.tuple #[.string ⟨g.toArray⟩,.int .i64 c])/\Ext [] W w'):=by
 refine⟨(getR (i_ s.root) key).getD [],if (getR (i_ s.root) key).isSome then 0 else 7,(trget_c y v L tb yv gv s key w h.sy h.dk.dsk h.tr h.ok.good (by have:=sm.prs;omega)).mono ?_,fun W hm=> (mget_c mb _ key W hm h.ok.srt.1 sm.prs).mono ?_⟩
 ·rintro e w' ⟨v',h1,h2,h3,h4,h5⟩
  exact⟨h1,dq_ h h2 h3 h4 (BF.of h5),h5⟩
 ·rintro e w' ⟨h1,h2⟩
  refine⟨?_,h2⟩
  rw [h1,getR_eq h.ok.srt.1]
  by_cases ht:B_ (i_ s.root) key=true
  ·simp [ht]
  ·have ht:B_ (i_ s.root) key=false:=by simpa using ht
   simp [ht]
theorem StepR.ext0 (h:StepR y v L tb s mb w W) (he:Ext [] W w'):StepR y v L tb s mb w w':=by
 obtain⟨v',yv',gv',s',h1,h2⟩:=h.ex
 exact⟨⟨v',yv',gv',s',h1.ext0 he,h2⟩,h.fr.then (BF.of0 he)⟩
theorem step0_c (h:BothR w y v L tb yv gv s mb) (K:Int) (key val:Ky) (n:Int) (h1:K≠1) (h2:K≠2) (h3:K≠3) (h4:K≠4):
  Calls Tryz.prog 18 #[.pointer (some ⟨tb,0,none⟩),.pointer (some ⟨mb,0,none⟩),opV K key val n] w fun e w'=> e= .returned (.bool true)/\StepR y v L tb s mb w w':=by
 have hE0:=(Ext.refl [] w).alloc (.cells #[.int .i64 K,.string ⟨key.toArray⟩,.string ⟨val.toArray⟩,.int .i64 n] 50)
 have hfin:StepR y v L tb s mb w w:=dq_ h h.sy (SameV.refl v) h.dk.dsk (BF.refl _ _ _)
 have HFIN:=hi_ (hfin.ext0 hE0)
 have hb0:=heap_alloc_new w (.cells #[.int .i64 K,.string ⟨key.toArray⟩,.string ⟨val.toArray⟩,.int .i64 n] 50)
 obtain⟨x0,x1,x2, -⟩:=aI_ hb0
 have z1:(K==1)=false:=by simpa using h1
 have z2:(K==2)=false:=by simpa using h2
 have z3:(K==3)=false:=by simpa using h3
 have z4:(K==4)=false:=by simpa using h4
 clear h hE0 hfin hb0 h1 h2 h3 h4
 unfold opV
 go_enter Tryz.func18,Tryz.ntmps18
 go_wp2_with fail
 go_ret
 exact⟨rfl,HFIN.out⟩
theorem step3_c (h:BothR w y v L tb yv gv s mb) (sm:SmallT s) (key val:Ky) (n:Int):
  Calls Tryz.prog 18 #[.pointer (some ⟨tb,0,none⟩),.pointer (some ⟨mb,0,none⟩),opV 3 key val n] w fun e w'=> e= .returned (.bool true)/\StepR y v L tb s mb w w':=by
 have hE0:=(Ext.refl [] w).alloc (.cells #[.int .i64 3,.string ⟨key.toArray⟩,.string ⟨val.toArray⟩,.int .i64 n] 50)
 have hb0:=heap_alloc_new w (.cells #[.int .i64 3,.string ⟨key.toArray⟩,.string ⟨val.toArray⟩,.int .i64 n] 50)
 have HTL:=hi_ (g_ h.tr.blk)
 have hbw:=h.ext0 hE0
 obtain⟨g,c,hg,hm⟩:=get_both hbw sm key
 obtain⟨x0,x1,x2, -⟩:=aI_ hb0
 obtain⟨HBW,HB0,HE0,HG,HMG⟩:=h_5 hbw hb0 hE0 hg hm
 clear h sm hE0 hb0 hbw hg hm
 unfold opV
 go_enter Tryz.func18,Tryz.ntmps18
 go_wp2_with fail
 refine HG.out.mono ?_
 rintro e W1 ⟨rfl,h1,hf⟩
 obtain⟨-,y1, -, -⟩:=aI_ (hf.blk HBW.out.sy HB0.out (by decide))
 have hm1:=HBW.out.mr.bf HBW.out.sy (BF.of (bs:= []) hf) (by simp) (by simp)
 obtain⟨HM1,H1⟩:=h_2 hm1 h1
 clear hf hm1 h1 x0 x1 x2
 go_wp2_with fail
 refine(HMG.out _ HM1.out).mono ?_
 rintro e W2 ⟨rfl,hE2⟩
 have hfin:=StepR.pre HE0.out HTL.out (H1.out.ext0 hE2)
 have HFIN:=hi_ hfin
 clear hE2 hfin y1
 go_wp2_with fail
 go_ret
 exact⟨rfl,HFIN.out⟩
def TRng (y:Sy) (v:Sv) (L:List Blk) (c:Int) (zs:List Pr) (w:World) (e:Ending) (w':World):Prop:=
 ∃u v',e= .returned (.tuple #[u,.int .i64 c])/\EPr.Ow 36 w' u zs/\(∀g∈blkL u,w.heap.size<=g)/\SyR w' y v'/\SameV v v'/\Dsk y v' L/\SyF y w w'
theorem iw_ (h:BothR w y v L tb yv gv s mb) (sm:SmallT s) (fr up:Ky) (n:Int) (hn:n<=9223372036854775807):
  ∃(zs:List Pr) (c:Int),zs.length<=100000/\
   Calls Tryz.prog 16 #[.pointer (some ⟨tb,0,none⟩),.string ⟨fr.toArray⟩,.string ⟨up.toArray⟩,.int .i64 n] w (TRng y v L c zs w)/\
   ∀W,MapR W mb (i_ s.root)->Calls Tryz.prog 51 #[.pointer (some ⟨mb,0,none⟩),.string ⟨fr.toArray⟩,.string ⟨up.toArray⟩,.int .i64 n] W (fun e w'=> ∃u,e= .returned (.tuple #[u,.int .i64 c])/\EPr.Rd w' u zs/\Ext [] W w'):=by
 by_cases h0:n < 0
 ·refine⟨[],1,by simp,(gC_ tb fr up n w h0).mono ?_,fun W hm=> (iA_ _ fr up n W h0).mono ?_⟩
  ·rintro e w' ⟨h1,h2⟩
   exact⟨_,v,h1,.inl ⟨rfl,rfl⟩,by simp [blkL],h.sy.ext0 h2,SameV.refl v,h.dk.dsk,SyF.of0 h2⟩
  ·rintro e w' ⟨h1,h2⟩
   exact⟨_,h1,.inl ⟨rfl,rfl⟩,h2⟩
 ·obtain⟨m,rfl⟩: ∃m:Nat,n=m:=⟨n.toNat,by omega⟩
  refine⟨(selR fr up (i_ s.root)).take m,0, ?_,(bk_ y v L tb yv gv s fr up m w h.sy h.dk.dsk h.tr h.ok.good hn (by have:=sm.prs;omega)).mono ?_,fun W hm=> (mrange_c mb _ fr up m W hm sm.prs hn).mono ?_⟩
  ·have h1:(selR fr up (i_ s.root)).length<=(i_ s.root).length:=List.length_filter_le _ _
   have:=sm.prs
   rw [List.length_take]
   omega
  ·rintro e w' ⟨u,v',h1,h2,h3,h4,h5,h6,h7⟩
   exact⟨u,v',h1,h2,h3,h4,h5,h6,h7⟩
  ·rintro e w' ⟨u,h1,h2,h3⟩
   exact⟨u,h1,h2.rd,h3⟩
def ClrS (y:Sy) (v1:Sv) (p:Option Addr) (sz:Nat) (w wr:World):Prop:=SyR wr y v1/\BF y [] w wr/\ ∀g o,p=some ⟨g,o,none⟩->w.heap.size<=g/\ ∃row,wr.heap[g]? =some (.cells row 36 (0,0))/\row.size=sz
theorem ow_row {p:Option Addr} {N c:Nat} (h:EPr.Ow T w (.slice p N c) l):(p=none/\N=0)\/ ∃g o row,p=some ⟨g,o,none⟩/\w.heap[g]? =some (.cells row T (0,0))/\o+N*2<=row.size:=by
 rcases h with ⟨h,_⟩ | ⟨g,i,c',l',h,h1,h2,h3,h4⟩
 ·simp only [Value.slice.injEq] at h
  exact .inl ⟨h.1,h.2.1⟩
 ·simp only [Value.slice.injEq] at h
  obtain⟨h5,h6,h7⟩:=h
  refine .inr ⟨g,_,_,h5,h1, ?_⟩
  have hk:EPr.k=2:=rfl
  rw [List.size_toArray,Enc.length_flat,hk]
  omega
theorem ClrS.set {v1:Sv} {g o sz j:Nat} {w wr:World} (h:ClrS y v1 (some ⟨g,o,none⟩) sz w wr) (u:Value):ClrS y v1 (some ⟨g,o,none⟩) sz w (wr.setCell ⟨g,j,none⟩ u):=by
 obtain⟨h1,h2,h3⟩:=h
 obtain⟨h4,row,h5,h6⟩:=h3 g o rfl
 have hE:Ext [g] wr (wr.setCell ⟨g,j,none⟩ u):=(Ext.refl [g] wr).setCell (.inl (by simp)) _
 have ht:=d_ h5
 refine⟨h1.otherT hE (by simp only [List.mem_singleton,forall_eq,ht];decide),h2.trans (BF.own (bs:= [g]) hE (by simp)) (by simp only [List.mem_singleton,forall_eq];exact .inr h4),fun g' o' e=> ?_⟩
 cases e
 exact⟨h4,_,heap_setCell_same wr g j row _ u h5,by simpa using h6⟩
theorem ClrS.cells {v1:Sv} {g o sz:Nat} {w wr:World} (h:ClrS y v1 (some ⟨g,o,none⟩) sz w wr) (j:Nat) (hj:j < sz):(∃u,wr.cell? ⟨g,j,none⟩=some u)/\wr.frozen? ⟨g,j,none⟩=false:=by
 obtain⟨-, -,h3⟩:=h
 obtain⟨-,row,h5,h6⟩:=h3 g o rfl
 refine⟨⟨_,by rw [cell_of_row wr g j _ _ _ h5];exact Array.getElem?_eq_getElem (by omega)⟩,frozen_of_row _ _ _ _ _ h5⟩
theorem step4_c (h:BothR w y v L tb yv gv s mb) (sm:SmallT s) (key val:Ky) (n:Int) (hn:n<=9223372036854775807):
  Calls Tryz.prog 18 #[.pointer (some ⟨tb,0,none⟩),.pointer (some ⟨mb,0,none⟩),opV 4 key val n] w fun e w'=> e= .returned (.bool true)/\StepR y v L tb s mb w w':=by
 have hE0:=(Ext.refl [] w).alloc (.cells #[.int .i64 4,.string ⟨key.toArray⟩,.string ⟨val.toArray⟩,.int .i64 n] 50)
 have hb0:=heap_alloc_new w (.cells #[.int .i64 4,.string ⟨key.toArray⟩,.string ⟨val.toArray⟩,.int .i64 n] 50)
 have HTL:=hi_ (g_ h.tr.blk)
 have hbw:=h.ext0 hE0
 obtain⟨zs,c,hzs,hg,hm⟩:=iw_ hbw sm key val n hn
 obtain⟨x0,x1,x2,x3⟩:=aI_ hb0
 obtain⟨HBW,HB0,HE0,HG,HMG⟩:=h_5 hbw hb0 hE0 hg hm
 clear h sm hE0 hb0 hbw hg hm hn
 unfold opV
 go_enter Tryz.func18,Tryz.ntmps18
 go_wp2_with fail
 refine HG.out.mono ?_
 rintro e W1 ⟨u,v1,rfl,how,hfr,hs1,hv1,hd1,hf⟩
 obtain⟨-,y1,y2,y3⟩:=aI_ (hf.blk HBW.out.sy HB0.out (by decide))
 have hm1:=HBW.out.mr.bf HBW.out.sy (BF.of (bs:= []) hf) (by simp) (by simp)
 obtain⟨p,cp,rfl,_⟩:=how.rd.len_eq
 obtain⟨N,hN⟩: ∃N,N=zs.length:=⟨_,rfl⟩
 rw [<-hN] at how hfr hzs ⊢
 have HN:=hi_ hN
 have hrow:=ow_row how
 obtain⟨HM1,HOW,HS1,HV1,HD1,HF,HFR,HROW⟩:=h_8 hm1 how hs1 hv1 hd1 hf hfr hrow
 clear hf hm1 how hfr hs1 hv1 hd1 hrow x0 x1 x2 x3 hN
 go_wp2_with fail
 refine(HMG.out _ HM1.out).mono ?_
 rintro e W2 ⟨u2,rfl,hrd2,hE2⟩
 have hsame:=fN_ _ _ _ _ W2 (HOW.out.rd.ext0 hE2) hrd2 (by rw [<-HN.out];omega) (by rw [<-HN.out];omega)
 simp only [decide_true] at hsame
 obtain⟨HSM,HE2⟩:=h_2 hsame hE2
 clear hE2 hsame hrd2 y1 y2 y3
 go_wp2_with fail
 refine HSM.out.mono ?_
 rintro e W3 ⟨rfl,hE3⟩
 have hE13:=HE2.out.trans hE3
 obtain⟨sz,hsz⟩: ∃sz,ClrS y v1 p sz (w.alloc (.cells #[.int .i64 4,.string ⟨key.toArray⟩,.string ⟨val.toArray⟩,.int .i64 n] 50)) W3/\ ∀g o,p=some ⟨g,o,none⟩->o+N*2<=sz:=by
  rcases HROW.out with ⟨h1,h2⟩ | ⟨g,o,row,h1,h2,h3⟩
  ·exact⟨0,⟨HS1.out.ext0 hE13,(BF.of HF.out).then (BF.of0 hE13),fun g o e=> by rw [h1] at e;cases e⟩,fun g o e=> by rw [h1] at e;cases e⟩
  ·refine⟨row.size,⟨HS1.out.ext0 hE13,(BF.of HF.out).then (BF.of0 hE13),fun g' o' e=> ?_⟩,fun g' o' e=> ?_⟩
   ·rw [h1] at e
    cases e
    exact⟨HFR.out g (by rw [h1];simp [blkL]),row,hE13.blk h2 (by simp),rfl⟩
   ·rw [h1] at e
    cases e
    exact h3
 have HC:=hi_ hsz.1
 have HSZ:=hi_ hsz.2
 have HFIN:Hid (∀W,ClrS y v1 p sz (w.alloc (.cells #[.int .i64 4,.string ⟨key.toArray⟩,.string ⟨val.toArray⟩,.int .i64 n] 50)) W->StepR y v L tb s mb w W):=hi_ (fun W hc=> StepR.pre HE0.out HTL.out (dq_ HBW.out hc.1 HV1.out HD1.out hc.2.1))
 clear hE3 hE13 hsz HSM
 go_wp2_with fail
 go_loopw [16] (fun iv wr=> ∃i:Nat,iv= .int .i64 i/\i<=N/\Hid (ClrS y v1 p sz (w.alloc (.cells #[.int .i64 4,.string ⟨key.toArray⟩,.string ⟨val.toArray⟩,.int .i64 n] 50)) wr)) (fun iv _=> N - (intOf iv).toNat)
 case atStart=> exact⟨0,rfl,Nat.zero_le _,HC⟩
 case round=>
  obtain⟨i,rfl,hi,HCL⟩:=hrel
  by_cases hlt:i < N
  ·have z1:(i:Int) < (N:Int):=by omega
   obtain⟨g,o,rfl⟩: ∃g o,p=some ⟨g,o,none⟩:=by
    rcases HROW.out with ⟨h1,h2⟩ | ⟨g,o,row,h1,h2,h3⟩
    ·omega
    ·exact⟨g,o,h1⟩
   have hsz:=HSZ.out g o rfl
   obtain⟨⟨u1,c1⟩,f1⟩:=HCL.out.cells (o+i*2) (by omega)
   obtain⟨⟨u2,c2⟩,f2⟩:=HCL.out.cells (o+i*2+1) (by omega)
   have zi:((i:Int)).toNat=i:=by omega
   have HC2:=hi_ ((HCL.out.set (j:=o+i*2) (.string ⟨[33].toArray⟩)).set (j:=o+i*2+1) (.string ⟨[].toArray⟩))
   go_wp2_with fail
   go_roundw
   case rel=> exact⟨i+1,by go_num,by omega,HC2⟩
   case measure=> simp [intOf];omega
  ·have z1: ¬((i:Int) < (N:Int)):=by omega
   have hfin:=HFIN.out _ HCL.out
   have HFF:=hi_ hfin
   clear hfin
   go_wp2_with fail
   go_ret
   exact⟨rfl,HFF.out⟩
theorem step_c (h:BothR w y v L tb yv gv s mb) (sm:SmallT s) (K:Int) (key val:Ky) (n:Int) (hn:n<=9223372036854775807):
  Calls Tryz.prog 18 #[.pointer (some ⟨tb,0,none⟩),.pointer (some ⟨mb,0,none⟩),opV K key val n] w fun e w'=> e= .returned (.bool true)/\StepR y v L tb s mb w w':=by
 by_cases h1:K=1
 ·subst h1;exact step1_c h sm key val n
 by_cases h2:K=2
 ·subst h2;exact step2_c h sm key val n
 by_cases h3:K=3
 ·subst h3;exact step3_c h sm key val n
 by_cases h4:K=4
 ·subst h4;exact step4_c h sm key val n hn
 exact step0_c h K key val n h1 h2 h3 h4
def AtR (r:Root) (q:Ptr4):Prop:=match r with
 | none=> q=P0
 | some ⟨_,x⟩=> x.1=some q
theorem AtR.root (h:AtR r q) (w:World):RootR w (q,none) r:=by
 cases r with
 | none=> rw [show q=P0 from h];rfl
 | some x=>
  obtain⟨n,x⟩:=x
  have hat:x.1=some q:=h
  show KidR _ (q,none) x
  unfold KidR
  simp only [hat]
theorem eI_ (l:List Pr):selR [] [] l=l:=by
 rw [selR,List.filter_eq_self]
 intro p _
 simp [inR]
theorem all_c (hs:SyR w y v) (hd:Dsk y v L) (hr:RtOk L r) (hq:AtR r q) (hm:MapR w mb (i_ r)) (hl:(i_ r).length<=100000):
  Calls Tryz.prog 21 #[.pointer (some ⟨y.b,0,none⟩),bp_ q,.pointer (some ⟨mb,0,none⟩)] w fun e w'=> e= .returned (.bool true)/\ ∃v',SyR w' y v'/\SameV v v'/\Dsk y v' L/\BF y [] w w':=by
 have hE0:=(Ext.refl [] w).alloc (.cells #[.int .i64 q.1,.int .i64 q.2.1,.int .i64 q.2.2.1,.string ⟨q.2.2.2.toArray⟩] 34)
 have hb0:=heap_alloc_new w (.cells #[.int .i64 q.1,.int .i64 q.2.1,.int .i64 q.2.2.1,.string ⟨q.2.2.2.toArray⟩] 34)
 obtain⟨x0,x1,x2,x3⟩:=aI_ hb0
 have HOP:=hi_ (eB_ y q)
 have HS:=hi_ (hs.ext0 hE0)
 obtain⟨HD,HR,HQ⟩:=h_3 hd hr hq
 have HM:=hi_ (hm.ext0 hE0)
 obtain⟨HL,HE0⟩:=h_2 hl hE0
 clear hs hd hr hq hm hE0 hb0 hl
 simp only [bp_] at HOP ⊢
 go_enter Tryz.func21,Tryz.ntmps21
 go_wp2_with fail
 refine(HOP.out _).mono ?_
 rintro e W1 ⟨tb,rfl,ht,hE1, -⟩
 have htr:TreeR W1 y tb (q,none) (.slice none 0 0) ⟨r,[],false⟩:=⟨ht,HQ.out.root W1,.inl ⟨rfl,rfl⟩⟩
 have hrg:=bk_ y v L tb (q,none) (.slice none 0 0) ⟨r,[],false⟩ [] [] 100000 W1 (HS.out.ext0 hE1) HD.out htr HR.out.good (by decide) (by have:=HL.out;show (i_ r).length<=_;omega)
 simp only [eI_] at hrg
 rw [List.take_of_length_le HL.out] at hrg
 obtain⟨HRG,HE1⟩:=h_2 hrg hE1
 clear ht htr hrg hE1 x0 x1 x2 x3
 go_wp2_with fail
 refine HRG.out.mono ?_
 rintro e W2 ⟨u,v2,rfl,how,hfr,hs2,hv2,hd2,hf2⟩
 have hm2:=(HM.out.ext0 HE1.out).bf (HS.out.ext0 HE1.out) (BF.of (bs:= []) hf2) (by simp) (by simp)
 obtain⟨p,c,c0,hc,how2, -⟩:=hm2.cell
 have hsm:=fN_ _ _ _ _ W2 how.rd how2.rd (by have:=HL.out;omega) (by have:=HL.out;omega)
 simp only [decide_true] at hsm
 have HSM:=hi_ hsm
 have hbf:BF y [] w W2:=(BF.of0 HE0.out).then ((BF.of0 HE1.out).then (BF.of hf2))
 have HF:=hi_ (⟨hs2,hv2,hd2,hbf⟩:SyR W2 y v2/\SameV v v2/\Dsk y v2 L/\BF y [] w W2)
 clear how hfr hs2 hv2 hd2 hf2 hm2 how2 hsm hbf HRG
 go_wp2_with fail
 refine HSM.out.mono ?_
 rintro e W3 ⟨rfl,hE3⟩
 have HE3:=hi_ hE3
 clear hE3 c0 HSM
 go_wp2_with fail
 go_ret
 exact⟨rfl,_,HF.out.1.ext0 HE3.out,HF.out.2.1,HF.out.2.2.1,HF.out.2.2.2.then (BF.of0 HE3.out)⟩
def kT1:List (El 0):=([([98],[50])]:List Pr)
def kT2:List (El 0):=([([97],[49]),([98],[50])]:List Pr)
theorem known_sz1:szF 0 kT1<=1024:=by
 have h1:szF 0 kT1=(encL (V_ [([98],[50])])).length:=rfl
 rw [h1]
 simp [V_,encL,encI,C_]
theorem gd_:szF 0 kT2<=1024:=by
 have h1:szF 0 kT2=(encL (V_ [([97],[49]),([98],[50])])).length:=rfl
 rw [h1]
 simp [V_,encL,encI,C_]
theorem en_:putF [98] [50] []= .ok kT1:=by simp [putF,atF,B_,kT1]
theorem em_:putF [97] [49] kT1= .ok kT2:=by
 have h1: ¬(([98]:Ky) < [97]):=by decide
 simp [putF,atF,B_,h1,kT1,kT2]
theorem doF_none {l:List (El 0)} (hf:f []= .ok l) (h0:l≠ []) (hs:szF 0 l<=1024):doF none key f= .ok (some ⟨0,(none,l)⟩,[]):=by
 have h2:=M_ (n:=0) [] h0 hs
 unfold doF
 rw [hf]
 show Except.ok (Q_ (j_ 0 l []).length 0 (j_ 0 l []))=_
 rw [h2]
 rfl
theorem doF_leaf {t l:List (El 0)} (hf:f t= .ok l) (h0:l≠ []) (hs:szF 0 l<=1024):doF (some ⟨0,(none,t)⟩) key f= .ok (some ⟨0,(none,l)⟩,[]):=by
 have h2:=M_ (n:=0) [] h0 hs
 have he:az_ 0 (none,t) key f= .ok (j_ 0 l [],[]):=by
  unfold az_
  show (match f t with | .error e=> Except.error e | .ok l=> .ok (j_ 0 l [],[]))=_
  rw [hf]
 simp only [doF,he]
 rw [h2]
 rfl
theorem known1:doF none [98] (putF [98] [50])= .ok (some ⟨0,(none,kT1)⟩,[]):=doF_none en_ (fun h=> by cases h) known_sz1
theorem known2:doF (some ⟨0,(none,kT1)⟩) [97] (putF [97] [49])= .ok (some ⟨0,(none,kT2)⟩,[]):=doF_leaf em_ (fun h=> by cases h) gd_
theorem known_unw (c:Nat):unwR c (some ⟨0,(none,kT2)⟩)<=32:=costF_le c _ gd_
theorem BF.fresh (h:BF y bs W W') (he:Ext [] w W) (hl: ∀b∈ [y.b,y.r,y.sp],w.heap.size<=b) (hb: ∀k∈bs,w.heap.size<=k):Ext [] w W':=by
 obtain⟨S,h1,h2⟩:=h
 refine he.trans' h1 (by simp) (fun x hx=> .inr ?_)
 rcases h2 x hx with h | h
 ·rcases h with h | ⟨_,_,_,b,hb,hle⟩
  ·exact hl x h
  ·exact Nat.le_trans (hl b hb) hle
 ·exact hb x h
theorem dks_new (hn:NewSy y v) (hw:v.ws= []):DkS y v []:=
 ⟨⟨by simp,by rw [hn.st];simp [sto0],by simp,by rw [hw];simp⟩,by simp,by simp⟩
theorem wrb_new {C:Int} (hn:NewSy y v) (hw:v.ws= []) (hc:v.spc.cells=C) (h0:0<=C) (h1:C<=40000):WrB v []:=by
 have hf:cntL v.spc.free=C:=by rw [hn.free,hc];simp [cntL]
 refine⟨by rw [hf,hw];simp;omega,by rw [hf];simp;omega,by rw [hn.st];simp [sto0],by rw [hn.st];simp [sto0]⟩
theorem WrB.same {ps:List Ptr4} (h:WrB v ps) (s:SameV v v'):WrB v' ps:=⟨by rw [s.ws,s.spc];exact h.ws,by rw [s.spc];exact h.ps,by rw [s.txg];exact h.t0,by rw [s.txg];exact h.t1⟩
theorem hM_ (r r':Root) (key:Ky) (f:List Pr->Except Int (List Pr)) (l':List Pr) (hf:EdF key f) (h:RtOk [] r) (hl:f (i_ r)= .ok l') (hd:doF r key f= .ok (r',[])):RtOk [] r':=by
 obtain⟨r2,g,h1,h2⟩:=(do_ok hf r h).2 l' hl
 rw [hd] at h1
 cases h1
 exact h2.ok
theorem two_rdPr (W:World) (a b:Pr):EPr.Rd (W.alloc (.cells #[.string ⟨a.1.toArray⟩,.string ⟨a.2.toArray⟩,.string ⟨b.1.toArray⟩,.string ⟨b.2.toArray⟩] 36)) (.slice (some ⟨W.heap.size,0,none⟩) 2 2) [a,b]:=by
 refine .inr ⟨W.heap.size,0,2,rfl,Nat.le_refl _,by simp,fun j u hj=> ?_⟩
 rw [cell_of_row _ W.heap.size _ _ _ _ (heap_alloc_new _ _),Nat.zero_add,<-hj]
 simp [EPr,Enc.flat]
theorem sync_new {v0 v:Sv} (hk:y.k=1) (hn:NewSy y v0) (hc:v0.spc.cells=295) (hw:v0.ws= []) (hv:SameV v0 v) (h:SyR w y v) (hd:DkS y v []) (ht:TreeR w y tb yv gv ⟨some ⟨0,(none,kT2)⟩,[],true⟩) (ho:RtOk [] (some ⟨0,(none,kT2)⟩)):
  Calls Tryz.prog 15 #[.pointer (some ⟨tb,0,none⟩)] w fun e w'=> ∃q v' L' r' p c,e= .returned (.tuple #[bp_ q,.slice p 0 c,.int .i64 0])/\0 < (q.2.1:Int)/\SyR w' y v'/\Dsk y v' L'/\RtOk L' r'/\i_ r'=kT2/\TreeR w' y tb (q,none) (.slice none 0 0) ⟨r',[],false⟩/\DF y tb w w':=by
 have hfr:v.spc.free= [(0,295)]:=by rw [hv.spc,hn.free,hc]
 refine(hl_ y v [] tb yv gv _ w h hd ht ho ((wrb_new hn hw hc (by decide) (by decide)).same hv)).mono ?_
 rintro e w' ⟨v',L',⟨q,r',ms,hp,hwr,hle,rfl,hs,htr,hg,hdf⟩ | ⟨rfl,_,⟨vx,Lx,ms,hp,z,hlt,hno⟩,_⟩⟩
 ·have hat:=hwr.at_
  have hok:=hwr.ok
  obtain⟨p,c,hgv,_⟩:=hg.rd.len_eq
  refine⟨q,v',L',r',p,c,by rw [hgv];rfl, ?_,hs,hp.dk.dsk,hok,hwr.pr,htr,hdf⟩
  have hpr:i_ r'=kT2:=hwr.pr
  cases r' with
  | none=> cases hpr
  | some x=>
   obtain⟨n,x⟩:=x
   have hat:x.1=some q:=hat
   have h1:=hok.1 q hat
   have h2:1<=(bi_ n x.2).length:=(hp.dk.dsk.std _ h1.1).1
   have h3:q.2.1=(bi_ n x.2).length:=h1.2.1.1
   show (0:Int) < (q.2.1:Int)
   omega
 ·exfalso
  have hu:=known_unw y.k
  have hlt:G_ y.k ms+z<=unwR y.k (some ⟨0,(none,kT2)⟩):=hlt
  have h1:=hp.one 0 295 hfr (by decide) (by decide) (by omega)
  have h2:vx.spc.back=0:=by rw [hp.back,hv.spc,hn.back]
  exact hno.not h1 h2 (by omega)
theorem known_c (w:World):Calls Tryz.prog 11 #[] w fun e w'=> e= .returned (.bool true)/\Ext [] w w':=by
 have HNEW:=hi_ (gi_ 60 w (by omega) (by omega))
 go_enter Tryz.func11,Tryz.ntmps11
 go_wp2_with fail
 refine HNEW.out.mono ?_
 rintro e W1 ⟨y,v,rfl,hs,hk,hS,hF,hws,hnew,hlow,hE1⟩
 have hcl:v.spc.cells=295:=by rw [hs.cells,hk,hS,hF];rfl
 have HOP:=hi_ (eB_ y P0 W1)
 simp only [bp_,P0] at HOP
 obtain⟨HS,HK,HCL,HWS,HN,HLOW,HE1⟩:=h_7 hs hk hcl hws hnew hlow hE1
 clear hs hk hS hF hws hnew hlow hE1 hcl HNEW
 go_wp2_with fail
 refine HOP.out.mono ?_
 rintro e W2 ⟨tb,rfl,ht,hE2,hlt⟩
 have htr2:TreeR W2 y tb (P0,none) (.slice none 0 0) ⟨none,[],false⟩:=⟨ht,rfl,.inl ⟨rfl,rfl⟩⟩
 have hdk:=dks_new HN.out HWS.out
 have hp1:=gD_ (L:= []) [98] [50] y v tb (P0,none) (.slice none 0 0) ⟨none,[],false⟩ W2 (by simp [dN_]) (HS.out.ext0 hE2) hdk.dsk htr2 trivial (by simp [L_]) (by simp)
 obtain⟨HP1,HDK⟩:=h_2 hp1 hdk
 have HF2:=hi_ (HE1.out.trans hE2)
 have HLT:Hid (w.heap.size<=tb):=hi_ (by have:=HE1.out.size;omega)
 clear ht htr2 hdk hp1 hE2 hlt HOP
 go_wp2_with fail
 refine HP1.out.mono ?_
 rintro e W3 hp
 have hp:DoPost y v [] tb (P0,none) (.slice none 0 0) ⟨none,[],false⟩ (.ok (some ⟨0,(none,kT1)⟩,[])) W2 e W3:=by rw [<-known1];exact hp
 obtain⟨yv3,gv3,v3,rfl,hs3,hv3,hd3,ht3,hdf3, -⟩:=hp
 have hr3:RtOk [] (some ⟨0,(none,kT1)⟩):=hM_ none _ [98] (putF [98] [50]) kT1 (hE_ (by simp) (by simp) (by simp)) trivial en_ known1
 have hp2:=gD_ (L:= []) [97] [49] y v3 tb yv3 gv3 _ W3 (by simp [dN_]) hs3 hd3 ht3 hr3 (by simp [L_,bkR,bkT]) (by simp)
 obtain⟨HP2,HV3,HR3⟩:=h_3 hp2 hv3 hr3
 have HF3:=hi_ ((BF.df (bs:= [tb]) hdf3 (by simp)).fresh HF2.out HLOW.out (by simpa using HLT.out))
 clear hs3 hv3 hd3 ht3 hdf3 hr3 hp2 HP1
 go_wp2_with fail
 refine HP2.out.mono ?_
 rintro e W4 hp
 have hp:DoPost y v3 [] tb yv3 gv3 ⟨some ⟨0,(none,kT1)⟩,[],true⟩ (.ok (some ⟨0,(none,kT2)⟩,[])) W3 e W4:=by rw [<-known2];exact hp
 obtain⟨yv4,gv4,v4,rfl,hs4,hv4,hd4,ht4,hdf4, -⟩:=hp
 have hr4:RtOk [] (some ⟨0,(none,kT2)⟩):=hM_ (some ⟨0,(none,kT1)⟩) _ [97] (putF [97] [49]) kT2 (hE_ (by simp) (by simp) (by simp)) HR3.out em_ known2
 have hv04:=HV3.out.trans hv4
 have hsy:=sync_new HK.out HN.out HCL.out HWS.out hv04 hs4 (HDK.out.same hv04 hd4) ht4 hr4
 have HSY:=hi_ hsy
 have HF4:=hi_ ((BF.df (bs:= [tb]) hdf4 (by simp)).fresh HF3.out HLOW.out (by simpa using HLT.out))
 clear hs4 hv4 hd4 ht4 hdf4 hr4 hv04 hsy HP2
 go_wp2_with fail
 refine HSY.out.mono ?_
 rintro e W5 ⟨q,v5,L5,r5,p5,c5,rfl,hq5,hs5,hd5,hr5,hpr5,ht5,hdf5⟩
 obtain⟨HS5,HD5,HR5,HPR5,HT5⟩:=h_5 hs5 hd5 hr5 hpr5 ht5
 have HF5:=hi_ ((BF.df (bs:= [tb]) hdf5 (by simp)).fresh HF4.out HLOW.out (by simpa using HLT.out))
 clear hs5 hd5 hr5 hpr5 ht5 hdf5 HSY
 simp only [bp_]
 have hE6:=(Ext.refl [] W5).alloc (.cells #[.int .i64 q.1,.int .i64 q.2.1,.int .i64 q.2.2.1,.string ⟨q.2.2.2.toArray⟩] 34)
 have hb6:=heap_alloc_new W5 (.cells #[.int .i64 q.1,.int .i64 q.2.1,.int .i64 q.2.2.1,.string ⟨q.2.2.2.toArray⟩] 34)
 have hrg:=bk_ y v5 L5 tb (q,none) (.slice none 0 0) ⟨r5,[],false⟩ [] [] 9 _ (HS5.out.ext0 hE6) HD5.out (HT5.out.ext0 hE6) HR5.out.good (by decide) (by show (i_ r5).length<=_;rw [HPR5.out];decide)
 have e9:(selR [] [] (i_ r5)).take 9=([([97],[49]),([98],[50])]:List Pr):=by rw [eI_,HPR5.out];rfl
 change Calls _ _ _ _ (RngPost y v5 L5 ((selR [] [] (i_ r5)).take 9) _) at hrg
 rw [e9] at hrg
 have HRG:=hi_ hrg
 clear e9
 have HB6:=hi_ hb6
 have HS6:=hi_ (HS5.out.ext0 hE6)
 have HE6:=hi_ (HF5.out.trans hE6)
 clear hE6 hb6 hrg
 go_wp2_with fail
 refine HRG.out.mono ?_
 rintro e W7 ⟨u,v7,rfl,how,hfr,hs7,hv7,hd7,hf7⟩
 obtain⟨-,x1, -, -⟩:=aI_ (hf7.blk HS6.out HB6.out (by decide))
 have hsm:=fN_ u _ _ _ _ (how.rd.ext0 ((Ext.refl [] W7).alloc _)) (two_rdPr W7 ([97],[49]) ([98],[50])) (by decide) (by decide)
 simp only [decide_true] at hsm
 have HE7:=hi_ ((BF.of (bs:= []) hf7).fresh HE6.out HLOW.out (by simp))
 have HSM:=hi_ hsm
 clear how hfr hs7 hv7 hd7 hf7 hsm HRG
 go_wp2_with fail
 refine HSM.out.mono ?_
 rintro e W8 ⟨rfl,hE8⟩
 have HE8:=hi_ ((HE7.out.alloc _).trans hE8)
 clear hE8 HSM x1
 go_wp2_with fail
 go_ret
 exact⟨rfl,HE8.out⟩
theorem cntL_bdC {s:List Rng} (hs:Ok s) (C:Int): ∀b:Int,(∀x∈s,b<=x.1)->(∀x∈s,x.2<=C)->b<=C->cntL s<=C - b:=by
 induction s with
 | nil=> intro b _ _ hb;simp [cntL];omega
 | cons x s ih=>
  intro b hb hc hb2
  have hx:=hs.2 x (by simp)
  have h1:=hb x (by simp)
  have h2:=hc x (by simp)
  have:=ih hs.cons (x.2) (fun y hy=> by have:=(List.pairwise_cons.1 hs.1).1 y hy;omega) (fun y hy=> hc y (List.mem_cons_of_mem _ hy)) h2
  simp only [cntL];omega
theorem SpI.cntF {s:Spc} (h:SpI s):0<=cntL s.free/\cntL s.free<=s.cells:=by
 refine⟨h.okF.cnt.1, ?_⟩
 have h1:=cntL_bdC h.okF s.cells 0 (fun x hx=> (h.okF.2 x hx).1) (fun x hx=> ?_) (by have:=h.c1;omega)
 ·omega
 ·have h2:=h.okF.2 x hx
  have h3:=(h.all (x.2 - 1)).2 (.inl ⟨x,hx,by omega,by omega⟩)
  omega
theorem nodup_le: ∀(n:Nat) (l:List Nat),l.Nodup->(∀a∈l,a < n)->l.length<=n:=by
 intro n
 induction n with
 | zero=> intro l _ h;cases l with
  | nil=> simp
  | cons a l=> exact absurd (h a (by simp)) (by omega)
 | succ n ih=>
  intro l hn h
  have h1:(l.erase n).length<=n:=ih _ (hn.erase n) (fun a ha=> by
   have h2:=(hn.mem_erase_iff).1 ha
   have:=h a h2.2
   have:=h2.1
   omega)
  have h3:l.length<=(l.erase n).length+1:=by
   by_cases hm:n∈l
   ·rw [List.length_erase_of_mem hm];omega
   ·rw [List.erase_of_not_mem hm];omega
  omega
structure FullR (w:World) (y:Sy) (v:Sv) (L:List Blk) (tb:Nat) (yv:Rfm) (gv:Value) (s:TS) (mb sb rb:Nat) (q:Ptr4) (r:Root) (i:Nat):Prop where
 both:BothR w y v L tb yv gv s mb
 old:RtOk L r
 at_:AtR r q
 sure:MapR w sb (i_ r)
 ne:sb≠mb
 cell:w.heap[rb]? =some (.cells #[.int .i64 q.1,.int .i64 q.2.1,.int .i64 q.2.2.1,.string ⟨q.2.2.2.toArray⟩] 34 (0,0))
 perm:(L_ s.root++s.gone).Perm (L_ r)
 nodup:((L_ r).map (fun p=> p.1)).Nodup
 std: ∀p∈L_ r,∃bs,(p.1,bs)∈L/\PtAt p bs
 leav:v.spc.leaving= []
 cells:v.spc.cells<=100
 ws:v.ws.length<=100*i
 t0:0<=v.st.txg
 t1:v.st.txg<=1125899906842624
 len:(i_ s.root).length<=i
 lenr:(i_ r).length<=i
 gn:rb∉blkL gv
theorem FullR.bks {mb sb rb:Nat} (h:FullR w y v L tb yv gv s mb sb rb q r i):(L_ r).length<=100:=by
 have h1:=nodup_le 100 _ h.nodup (fun a ha=> by
  obtain⟨p,hp,rfl⟩:=List.mem_map.1 ha
  obtain⟨bs,h2, -⟩:=h.std p hp
  have h3:=h.both.dk.dsk.std _ h2
  have h4:=h3.2.2.1
  have h5:4<=D_ y.k bs.length:=h3.cost.1
  have h6:=h.both.sy.cells
  have h7:=h.cells
  rw [h6] at h7
  simp only at h4
  omega)
 simpa using h1
theorem FullR.small {mb sb rb:Nat} (h:FullR w y v L tb yv gv s mb sb rb q r i) (hi:i<=80):SmallT s:=by
 have h1:=h.bks
 have h2:=h.perm.length_eq
 rw [List.length_append] at h2
 exact⟨by have:=h.len;omega,by omega,by omega⟩
theorem FullR.wrb {mb sb rb:Nat} (h:FullR w y v L tb yv gv s mb sb rb q r i) (hi:i<=80):WrB v []:=by
 have h1:=h.both.sy.spi.cntF
 have h2:=h.cells
 have h3:=h.ws
 exact⟨by omega,by simp;omega,h.t0,h.t1⟩
theorem FullR.step {mb sb rb:Nat} (h:FullR w y v L tb yv gv s mb sb rb q r i) (k:StepR y v L tb s mb w w'): ∃v' yv' gv' s',FullR w' y v' L tb yv' gv' s' mb sb rb q r (i+1):=by
 obtain⟨v',yv',gv',s',h1,h2,h3,h4, -,h6⟩:=k.ex
 have ht:=h.both.tr.tag
 have hm:=h.both.mr.tag
 have hsb:=h.sure.tag
 have hrb:=d_ h.cell
 have n1:sb∉ [tb,mb]:=by
  simp only [List.mem_cons,List.not_mem_nil,or_false,not_or]
  exact⟨fun e=> by(rw [e,ht] at hsb;cases hsb),h.ne⟩
 have n2:rb∉ [tb,mb]:=by
  simp only [List.mem_cons,List.not_mem_nil,or_false,not_or]
  exact⟨fun e=> by(rw [e,ht] at hrb;cases hrb),fun e=> by(rw [e,hm] at hrb;cases hrb)⟩
 refine⟨v',yv',gv',s',h1,h.old,h.at_,h.sure.bf h.both.sy k.fr n1 ?_,h.ne,k.fr.blk h.both.sy h.cell n2 (by decide),h3.trans h.perm,h.nodup,h.std,by rw [h2.spc];exact h.leav,by rw [h2.spc];exact h.cells,by rw [h2.ws];have:=h.ws;omega,by rw [h2.txg];exact h.t0,by rw [h2.txg];exact h.t1,by have:=h.len;omega,by have:=h.lenr;omega, ?_⟩
 rotate_left
 ·rcases h6 with ⟨a,d,h7⟩ | h7
  ·rw [h.both.tr.blk] at h7
   have h8:gv=gv':=by
    have h9:=Option.some.inj h7
    injection h9 with h9
    have h10:=congrArg (fun r=> r[6]?) h9
    simpa [ba_] using h10
   rw [<-h8];exact h.gn
  ·exact fun hm=> absurd (h7 rb hm) (by have:=g_ h.cell;omega)
 intro k hk
 simp only [List.mem_cons,List.not_mem_nil,or_false] at hk
 rcases hk with rfl | rfl
 ·rw [ht];decide
 ·rw [hm];decide
structure GonI (y:Sy) (v1:Sv) (L1:List Blk) (gs:List Ptr4) (k:Nat) (vk:Sv) (Lk:List Blk):Prop where
 dk:DkS y vk Lk
 keep: ∀x∈L1,x.1∉(gs.take k).map (fun p=> p.1)->x∈Lk
 sub: ∀x∈Lk,x∈L1/\x.1∉(gs.take k).map (fun p=> p.1)
 free:vk.spc.free=v1.spc.free
 leav:cntL vk.spc.leaving=cntL v1.spc.leaving+G_ y.k (gs.take k)
 cells:vk.spc.cells=v1.spc.cells
 back:vk.spc.back=v1.spc.back
 txg:vk.st.txg=v1.st.txg
 ws:vk.ws=v1.ws
theorem GonI.start (h:DkS y v L) (gs:List Ptr4):GonI y v L gs 0 v L:=
 ⟨h,fun x hx _=> hx,fun x hx=> ⟨hx,by simp⟩,rfl,by simp [G_],rfl,rfl,rfl,rfl⟩
theorem GonI.at {v1 vk:Sv} {L1 Lk:List Blk} (h:GonI y v1 L1 gs k vk Lk) (hnd:(gs.map (fun p=> p.1)).Nodup) (hq:gs[k]? =some q) {bs:List UInt8} (hb:(q.1,bs)∈L1):(q.1,bs)∈Lk:=by
 refine h.keep _ hb (fun hm=> ?_)
 have h1:gs.map (fun p=> p.1)=(gs.take k).map (fun p=> p.1)++(gs.drop k).map (fun p=> p.1):=by rw [<-List.map_append,List.take_append_drop]
 rw [h1,List.nodup_append] at hnd
 refine hnd.2.2 _ hm q.1 ?_ rfl
 obtain⟨h2,h3⟩:=List.getElem?_eq_some_iff.1 hq
 rw [List.drop_eq_getElem_cons h2,h3]
 simp
theorem GonI.step {v1 vk v2:Sv} {L1 Lk:List Blk} {bs:List UInt8} (h:GonI y v1 L1 gs k vk Lk) (hnd:(gs.map (fun p=> p.1)).Nodup) (hq:gs[k]? =some q) (hb:(q.1,bs)∈L1) (hp:PtAt q bs) (hi:SpI vk.spc) (hc:vk.spc.cells=(((y.k+4)*(y.S - y.F):Nat):Int)) (hg:dO_ vk.spc q.1 (D_ y.k q.2.1) v2.spc err) (hw:v2.ws=vk.ws) (hm:(err≠0/\v2.st=vk.st)\/(err=0/\v2.st={vk.st with mem:=aQ_ vk.st.mem q.1})):
  err=0/\GonI y v1 L1 gs (k+1) v2 (offL Lk q.1):=by
 have hsz:D_ y.k q.2.1=D_ y.k bs.length:=by rw [hp.1]
 have hg0:=hg
 rw [hsz] at hg
 obtain⟨he,gv,hdk⟩:=h.dk.give hi hc (h.at hnd hq hb) hg hw hm
 subst he
 have hst:v2.st={vk.st with mem:=aQ_ vk.st.mem q.1}:=by
  rcases hm with ⟨h3,_⟩ | ⟨_,h3⟩
  ·exact absurd rfl h3
  ·exact h3
 have ht:gs.take (k+1)=gs.take k++ [q]:=by rw [List.take_add_one,hq];rfl
 refine⟨rfl,hdk,fun x hx hn=> ?_,fun x hx=> ?_,gv.free.trans h.free, ?_,gv.cells.trans h.cells,gv.back.trans h.back,by rw [hst];exact h.txg,hw.trans h.ws⟩
 ·rw [ht,List.map_append,List.mem_append,not_or] at hn
  exact aw_.2 ⟨h.keep x hx hn.1,fun e=> hn.2 (by simp [e])⟩
 ·obtain⟨h1,h2⟩:=aw_.1 hx
  refine⟨(h.sub x h1).1, ?_⟩
  rw [ht,List.map_append,List.mem_append,not_or]
  exact⟨(h.sub x h1).2,by simpa using h2⟩
 ·have e:G_ y.k (gs.take (k+1))=G_ y.k (gs.take k)+D_ y.k q.2.1:=by rw [ht];simp [G_]
  have h5:=gv.cntV
  have h6:=h.leav
  rw [e,h5,h6,hsz]
  push_cast
  omega
theorem WroteR.atR {r r':Root} (h:WroteR L' r r' q ms):AtR r' q:=by
 cases r' with
 | none=> exact h.at_
 | some x=> obtain⟨n,x⟩:=x;exact h.at_
theorem FullR.failed {v v1 v2:Sv} {L L1:List Blk} {mb sb rb:Nat} (h:FullR w y v L tb yv gv s mb sb rb q r i) (f:FailR y v v1 L L1) (hi1:SpI v1.spc) (st:Settled v1.spc v2.spc) (hws:v2.ws=v1.ws) (hst:v2.st=v1.st) (hsy:SyR w' y v2) (htr:TreeR w' y tb yv gv s) (hmr:MapR w' mb (i_ s.root)) (hsu:MapR w' sb (i_ r)) (hc:w'.heap[rb]? =some (.cells #[.int .i64 q.1,.int .i64 q.2.1,.int .i64 q.2.2.1,.string ⟨q.2.2.2.toArray⟩] 34 (0,0))):FullR w' y v2 L1 tb yv gv s mb sb rb q r (i+1):=by
 have h1:=h.both.sy.spi.cntF
 have h2:=hi1.cntF
 have h3:=f.sum
 have h4:=h.cells
 refine⟨⟨hsy,f.dk.settle st hws (by rw [hst]),htr,h.both.ok.mono f.sub,hmr⟩,h.old.mono f.sub,h.at_,hsu,h.ne,hc,h.perm,h.nodup,fun p hp=> ?_,st.leaving,by rw [st.cells,f.cells];exact h4, ?_,by rw [hst,f.txg];exact h.t0,by rw [hst,f.txg];exact h.t1,Nat.le_succ_of_le h.len,Nat.le_succ_of_le h.lenr,h.gn⟩
 ·obtain⟨bs,h5,h6⟩:=h.std p hp
  exact⟨bs,f.sub _ h5,h6⟩
 ·rw [hws]
  have h5:=h.ws
  omega
theorem FullR.wrote {v v1 v2 v3:Sv} {L L1 L2:List Blk} {mb sb sb' rb:Nat} {q q':Ptr4} {r r':Root} (h:FullR w y v L tb yv gv s mb sb rb q r i) (p:PutsR y v v1 L L1 ms) (hw:WroteR L1 s.root r' q' ms) (hi1:SpI v1.spc) (g:GonI y v1 L1 s.gone k v2 L2) (hk:s.gone.length<=k) (st:Settled v2.spc v3.spc) (hws:v3.ws=v2.ws) (hst:v3.st=v2.st) (hsy:SyR w' y v3) (htr:TreeR w' y tb (q',none) (.slice none 0 0) ⟨r',[],false⟩) (hmr:MapR w' mb (i_ s.root)) (hsu:MapR w' sb' (i_ s.root)) (hne:sb'≠mb) (hc:w'.heap[rb]? =some (.cells #[.int .i64 q'.1,.int .i64 q'.2.1,.int .i64 q'.2.2.1,.string ⟨q'.2.2.2.toArray⟩] 34 (0,0))):FullR w' y v3 L2 tb (q',none) (.slice none 0 0) ⟨r',[],false⟩ mb sb' rb q' r' (i+1):=by
 have h1:=h.both.sy.spi.cntF
 have h2:=hi1.cntF
 have h3:=p.sum
 have h4:=h.cells
 have hgt:s.gone.take k=s.gone:=List.take_of_length_le hk
 have hnd:((L_ s.root++s.gone).map (fun p=> p.1)).Nodup:=(h.perm.map _).nodup_iff.2 h.nodup
 rw [List.map_append,List.nodup_append] at hnd
 obtain⟨n1,n2,n3⟩:=hnd
 have hstd: ∀p∈L_ s.root++s.gone,∃bs,(p.1,bs)∈L/\PtAt p bs:=fun p hp=> h.std p (h.perm.mem_iff.1 hp)
 have hkeep: ∀z∈L_ r',∀bs,(z.1,bs)∈L1->(z.1,bs)∈L2:=fun z hz bs hb=> by
  refine g.keep _ hb ?_
  rw [hgt]
  intro hm
  rcases List.mem_append.1 (hw.bk.mem_iff.1 hz) with hz | hz
  ·exact n3 _ (List.mem_map.2 ⟨z,hz,rfl⟩) _ hm rfl
  ·obtain⟨x,hx,hxe⟩:=List.mem_map.1 hm
   obtain⟨bs',h5,_⟩:=hstd x (List.mem_append_right _ hx)
   exact p.fresh z hz _ h5 hxe
 have hok:RtOk L2 r':=hw.ok.keep hkeep
 have hpr:i_ r'=i_ s.root:=hw.pr
 refine⟨⟨hsy,g.dk.settle st hws (by rw [hst]),htr,hok,by rw [hpr];exact hmr⟩,hok, ?_,by rw [hpr];exact hsu,hne,hc,by simp, ?_,fun z hz=> ?_,st.leaving,by rw [st.cells,g.cells,p.cells];exact h4, ?_,by rw [hst,g.txg,p.txg];exact h.t0,by rw [hst,g.txg,p.txg];exact h.t1,by rw [hpr];exact Nat.le_succ_of_le h.len,by rw [hpr];exact Nat.le_succ_of_le h.len,by simp [blkL]⟩
 ·exact hw.atR
 ·refine(hw.bk.map _).nodup_iff.2 ?_
  rw [List.map_append,List.nodup_append]
  refine⟨n1,p.nodup,fun x hx z hz e=> ?_⟩
  obtain⟨x',hx',rfl⟩:=List.mem_map.1 hx
  obtain⟨z',hz',rfl⟩:=List.mem_map.1 hz
  obtain⟨bs',h5,_⟩:=hstd x' (List.mem_append_left _ hx')
  exact p.fresh z' hz' _ h5 e
 ·rcases List.mem_append.1 (hw.bk.mem_iff.1 hz) with hz' | hz'
  ·obtain⟨bs,h5,h6⟩:=hstd z (List.mem_append_left _ hz')
   exact⟨bs,hkeep z hz bs (p.sub _ h5),h6⟩
  ·obtain⟨bs,h5,h6⟩:=p.new z hz'
   exact⟨bs,hkeep z hz bs h5,h6⟩
 ·rw [hws,g.ws]
  have h5:=h.ws
  omega
theorem FullR.read {mb sb rb:Nat} (h:FullR w y v L tb yv gv s mb sb rb q r i) (hs:SyR w' y v') (hv:SameV v v') (hd:Dsk y v' L) (hf:BF y [] w w'):FullR w' y v' L tb yv gv s mb sb rb q r i:=
 ⟨⟨hs,h.both.dk.same hv hd,h.both.tr.bf h.both.sy hf (by simp) (by simp),h.both.ok,h.both.mr.bf h.both.sy hf (by simp) (by simp)⟩,h.old,h.at_,h.sure.bf h.both.sy hf (by simp) (by simp),h.ne,hf.blk h.both.sy h.cell (by simp) (by decide),h.perm,h.nodup,h.std,by rw [hv.spc];exact h.leav,by rw [hv.spc];exact h.cells,by rw [hv.ws];exact h.ws,by rw [hv.txg];exact h.t0,by rw [hv.txg];exact h.t1,h.len,h.lenr,h.gn⟩
theorem modw10 (a m:Int) (hm:0 < m):0<=(IntKind.u64.wrap a).tmod m/\(IntKind.u64.wrap a).tmod m < m:=by
 have h0:0<=IntKind.u64.wrap a:=by
  rw [IntKind.wrap_u64];omega
 rw [Int.tmod_eq_emod_of_nonneg h0]
 exact⟨Int.emod_nonneg _ (by omega),Int.emod_lt_of_pos _ hm⟩
theorem empty_map (w:World):MapR (w.alloc (.cells #[.slice none 0 0] 48)) w.heap.size []:=⟨_,heap_alloc_new _ _,.inl ⟨rfl,rfl⟩⟩
theorem FullR.ext0 {mb sb rb:Nat} (h:FullR w y v L tb yv gv s mb sb rb q r i) (he:Ext [] w w'):FullR w' y v L tb yv gv s mb sb rb q r i:=
 h.read (h.both.sy.ext0 he) (SameV.refl v) h.both.dk.dsk (BF.of0 he)
theorem full_c (sec:Int) (v0:Value) (xs:List Stp) (w:World) (hv:AR EOx w v0 xs) (hg: ∀x∈xs,StpOk x):Calls Tryz.prog 7 #[.int .i64 sec,v0] w fun e w'=> e= .returned (.bool true)/\Ext [] w w':=by
 obtain⟨p,cap,rfl,hrd⟩:=hv
 have HV:=hi_ hrd
 obtain⟨N,hN⟩: ∃n,n=xs.length:=⟨_,rfl⟩
 obtain⟨HN,HG⟩:=h_2 hN hg
 rw [<-hN] at HV ⊢
 obtain⟨c1,c2⟩:=modw10 sec 12 (by omega)
 obtain⟨C,hC⟩: ∃C:Nat,(C:Int)=3+(IntKind.u64.wrap sec).tmod 12:=⟨(3+(IntKind.u64.wrap sec).tmod 12).toNat,by omega⟩
 have hC1:3<=C/\C<=14:=by omega
 have HC:=hi_ hC
 clear hrd hN hC hg
 go_enter Tryz.func7,Tryz.ntmps7
 go_wp2_with fail
 refine(known_c _).mono ?_
 rintro e W0 ⟨rfl,hE0⟩
 go_wp2_with fail
 rw [<-HC.out]
 clear c1 c2
 have HNEW:=hi_ (gi_ C W0 (by omega) (by omega))
 refine HNEW.out.mono ?_
 rintro e W1 ⟨y,v,rfl,hs,hk,hS,hF,hws,hnew,hlow,hE1⟩
 have hcl:v.spc.cells=((5*(C - 1):Nat):Int):=by rw [hs.cells,hk,hS,hF]
 have HOP:=hi_ (eB_ y P0 W1)
 simp only [bp_,P0] at HOP
 obtain⟨HS,HCL,HWS,HN1⟩:=h_4 hs hcl hws hnew
 have HYL:Hid (∀b∈ [y.b,y.r,y.sp],w.heap.size<=b):=hi_ (fun b hb=> Nat.le_trans hE0.size (hlow b hb))
 have HE1:=hi_ (hE0.trans hE1)
 clear hs hk hS hF hws hnew hlow hE1 hE0 hcl HNEW
 go_wp2_with fail
 refine HOP.out.mono ?_
 rintro e W2 ⟨tb,rfl,ht,hE2,hlt⟩
 obtain⟨HT,HE2⟩:=h_2 ht hE2
 have HLT:Hid (w.heap.size<=tb):=hi_ (by have:=HE1.out.size;omega)
 clear ht hE2 hlt HOP
 go_wp2_with fail
 have hEa:Ext [] W2 (W2.alloc (.cells #[.slice none 0 0] 48)):=(Ext.refl [] W2).alloc _
 have hEb:Ext [] (W2.alloc (.cells #[.slice none 0 0] 48)) ((W2.alloc (.cells #[.slice none 0 0] 48)).alloc (.cells #[.slice none 0 0] 48)):=(Ext.refl [] _).alloc _
 have hEc:Ext [] ((W2.alloc (.cells #[.slice none 0 0] 48)).alloc (.cells #[.slice none 0 0] 48)) (((W2.alloc (.cells #[.slice none 0 0] 48)).alloc (.cells #[.slice none 0 0] 48)).alloc (.cells #[.int .i64 0,.int .i64 0,.int .i64 0,.string ⟨#[]⟩] 34)):=(Ext.refl [] _).alloc _
 have hm0:MapR (((W2.alloc (.cells #[.slice none 0 0] 48)).alloc (.cells #[.slice none 0 0] 48)).alloc (.cells #[.int .i64 0,.int .i64 0,.int .i64 0,.string ⟨#[]⟩] 34)) W2.heap.size []:=((empty_map W2).ext0 hEb).ext0 hEc
 have hs0:MapR (((W2.alloc (.cells #[.slice none 0 0] 48)).alloc (.cells #[.slice none 0 0] 48)).alloc (.cells #[.int .i64 0,.int .i64 0,.int .i64 0,.string ⟨#[]⟩] 34)) (W2.heap.size+1) []:=MapR.ext0 ⟨_,Y_ (by simp),.inl ⟨rfl,rfl⟩⟩ hEc
 have hr0:(((W2.alloc (.cells #[.slice none 0 0] 48)).alloc (.cells #[.slice none 0 0] 48)).alloc (.cells #[.int .i64 0,.int .i64 0,.int .i64 0,.string ⟨#[]⟩] 34)).heap[W2.heap.size+1+1]? =some (.cells #[.int .i64 0,.int .i64 0,.int .i64 0,.string ⟨#[]⟩] 34 (0,0)):=Y_ (by simp)
 have hX0:=(HE1.out.trans HE2.out).trans ((hEa.trans hEb).trans hEc)
 have hlow2:w.heap.size<=W2.heap.size:=by have:=HE1.out.size;have:=HE2.out.size;omega
 obtain⟨mb,hmb⟩: ∃z,z=W2.heap.size:=⟨_,rfl⟩
 obtain⟨sb0,hsb0⟩: ∃z,z=W2.heap.size+1:=⟨_,rfl⟩
 obtain⟨rb,hrb⟩: ∃z,z=W2.heap.size+1+1:=⟨_,rfl⟩
 have hd1:sb0≠mb/\w.heap.size<=mb/\w.heap.size<=rb:=by omega
 rw [<-hrb] at hr0
 rw [<-hsb0] at hs0
 rw [<-hmb] at hm0
 simp only [<-hrb]
 simp only [<-hsb0]
 simp only [<-hmb]
 have hf0:FullR (((W2.alloc (.cells #[.slice none 0 0] 48)).alloc (.cells #[.slice none 0 0] 48)).alloc (.cells #[.int .i64 0,.int .i64 0,.int .i64 0,.string ⟨#[]⟩] 34)) y v [] tb (P0,none) (.slice none 0 0) ⟨none,[],false⟩ mb sb0 rb P0 none 0:=by
  refine⟨⟨(HS.out.ext0 HE2.out).ext0 ((hEa.trans hEb).trans hEc),dks_new HN1.out HWS.out, ?_,trivial,hm0⟩,trivial,rfl,hs0,hd1.1,hr0,by simp [L_],by simp [L_],by simp [L_],HN1.out.leaving,by rw [HCL.out];omega,by rw [HWS.out];simp,by rw [HN1.out.st];simp [sto0],by rw [HN1.out.st];simp [sto0],by simp [i_],by simp [i_],by simp [blkL]⟩
  exact TreeR.ext0 ⟨HT.out,rfl,.inl ⟨rfl,rfl⟩⟩ ((hEa.trans hEb).trans hEc)
 obtain⟨HF0,HX0,HD1⟩:=h_3 hf0 hX0 hd1
 clear hEa hEb hEc hm0 hs0 hr0 hX0 hlow2 hmb hsb0 hrb hd1 hf0 HS HCL HWS HN1 HE1 HE2 HT
 revert HF0 HX0
 generalize World.alloc _ _=W3
 intro HF0 HX0
 go_loopw [12,14] (fun su iv wr=> ∃(i sb:Nat) (v1:Sv) (L1:List Blk) (yv1:Rfm) (gv1:Value) (s1:TS) (q1:Ptr4) (r1:Root),iv= .int .i64 i/\i<=N/\i<=80/\su= .pointer (some ⟨sb,0,none⟩)/\Hid (FullR wr y v1 L1 tb yv1 gv1 s1 mb sb rb q1 r1 i)/\Hid (Ext [] w wr)) (fun _ iv _=> N - (intOf iv).toNat)
 case atStart=> exact⟨0,sb0,v,[],_,_,_,_,_,rfl,Nat.zero_le _,Nat.zero_le _,rfl,HF0,HX0⟩
 case round=>
  clear HF0 HX0
  obtain⟨i,sb,v1,L1,yv1,gv1,s1,q1,r1,rfl,hi,hi80,rfl,HF,HE⟩:=hrel
  by_cases hlt:i < N
  ·have z1:(i:Int) < (N:Int):=by omega
   by_cases hlt2:i < 80
   ·have z2:(i:Int) < 80:=by omega
    have hne:xs≠ []:=by intro h;have:=HN.out;rw [h] at this;simp at this;omega
    have hrd:=(HV.out hne).ext0 HE.out
    obtain⟨ga,o,rfl⟩: ∃g o,p=some ⟨g,o,none⟩:=by
     rcases hrd with ⟨h,_⟩ | ⟨g,o,c,h,_⟩
     ·simp only [Value.slice.injEq] at h;omega
     ·simp only [Value.slice.injEq] at h;exact⟨g,o,h.1⟩
    have hil:i < xs.length:=by rw [<-HN.out];exact hlt
    obtain⟨m0,m1,m2,m3⟩:=EOx_cells hrd i hil
    obtain⟨x,hx⟩: ∃x,x=xs.getD i S0:=⟨_,rfl⟩
    have hxg:StpOk x:=by
     rw [hx,show xs.getD i S0=xs[i] by simp [List.getD,hil]]
     exact HG.out _ (List.getElem_mem hil)
    rw [<-hx] at m0 m1 m2 m3
    obtain⟨kd,key,val,nn⟩:=x
    simp only at m0 m1 m2 m3
    have zi2:((i:Int)).toNat=i:=by omega
    by_cases hk:kd < 5
    ·have hst:=step_c HF.out.both (HF.out.small hi80) kd key val nn hxg.2.2
     simp only [opV] at hst
     have HST:=hi_ hst
     clear hst hx hxg hrd hne hil
     go_wp2_with fail
     refine HST.out.mono ?_
     rintro e W5 ⟨rfl,hstep⟩
     obtain⟨v5,yv5,gv5,s5,hF5⟩:=HF.out.step hstep
     have HF5:=hi_ hF5
     have HX5:=hi_ (hstep.fr.fresh HE.out HYL.out (by
      intro k hk
      simp only [List.mem_cons,List.not_mem_nil,or_false] at hk
      rcases hk with rfl | rfl
      ·exact HLT.out
      ·exact HD1.out.2.1))
     clear hstep hF5 HST HF HE m0 m1 m2 m3
     go_wp2_with fail
     go_roundw
     case rel=> exact⟨i+1,sb,v5,L1,yv5,gv5,s5,q1,r1,by go_num,by omega,by omega,rfl,HF5,HX5⟩
     case measure=> simp [intOf];omega
    ·clear hx hxg hrd hne hil m1 m2 m3
     obtain⟨FR,hFR⟩: ∃z,z=cntL v1.spc.free - v1.spc.back:=⟨_,rfl⟩
     have hfree:=hv_ y v1 wr HF.out.both.sy
     rw [<-hFR] at hfree
     obtain⟨HFREE,HFR⟩:=h_2 hfree hFR
     clear hfree hFR
     go_wp2_with fail
     refine HFREE.out.mono ?_
     rintro e W5 ⟨rfl,hE5⟩
     have HF5:=hi_ (HF.out.ext0 hE5)
     have HE5:=hi_ (HE.out.trans hE5)
     have HSYN:=hi_ (hl_ y v1 L1 tb yv1 gv1 s1 W5 HF5.out.both.sy HF5.out.both.dk HF5.out.both.tr HF5.out.both.ok (HF5.out.wrb hi80))
     clear hE5 HF HE HFREE m0
     go_wp2_with fail
     refine HSYN.out.mono ?_
     rintro e W6 ⟨v6,L6,⟨q6,r6,ms,hpr,hwr, -,rfl,hs6,ht6,hgo6,hdf6⟩ | ⟨rfl,hfl, -,hs6,ht6,hdf6⟩⟩
     ·have hbf6:BF y [tb] W5 W6:=BF.df hdf6 (by simp)
      have htt:=HF5.out.both.tr.tag
      have hmt:=HF5.out.both.mr.tag
      have hrt:=d_ HF5.out.cell
      have hnm:mb∉ [tb]:=by simp only [List.mem_singleton];intro e;rw [e,htt] at hmt;cases hmt
      have hnr:rb∉ [tb]:=by simp only [List.mem_singleton];intro e;rw [e,htt] at hrt;cases hrt
      have hm6:=HF5.out.both.mr.bf HF5.out.both.sy hbf6 hnm (by simp only [List.mem_singleton,forall_eq,htt];decide)
      have hc6:=hbf6.blk HF5.out.both.sy HF5.out.cell hnr (by decide)
      have HX6:=hi_ (hbf6.fresh HE5.out HYL.out (by simpa using HLT.out))
      obtain⟨pg,cg,rfl,hcg⟩:=hgo6.rd.len_eq
      obtain⟨G,hG⟩: ∃z,z=s1.gone.length:=⟨_,rfl⟩
      rw [<-hG] at hgo6 hcg HF5 ⊢
      obtain⟨HGL,HPR,HWR⟩:=h_3 hG hpr hwr
      have hEp:Ext [] W6 (W6.alloc (.cells #[.int .i64 q6.1,.int .i64 q6.2.1,.int .i64 q6.2.2.1,.string ⟨q6.2.2.2.toArray⟩] 34)):=(Ext.refl [] W6).alloc _
      have hpb:=heap_alloc_new W6 (.cells #[.int .i64 q6.1,.int .i64 q6.2.1,.int .i64 q6.2.2.1,.string ⟨q6.2.2.2.toArray⟩] 34)
      have H7:=hi_ (⟨hs6.ext0 hEp,ht6.ext0 hEp,hgo6.ext0 hEp,hm6.ext0 hEp,hEp.blk hc6 (by simp),HX6.out.trans hEp⟩:SyR _ y v6/\TreeR _ y tb (q6,none) (.slice none 0 0) ⟨r6,[],false⟩/\EP.Ow 34 _ (.slice pg G cg) s1.gone/\MapR _ mb (i_ s1.root)/\_/\Ext [] w _)
      have HPB:=hi_ hpb
      clear hbf6 htt hmt hrt hnm hnr hm6 hc6 HX6 hG hpr hwr hEp hpb hs6 ht6 hgo6 hdf6 HSYN
      simp only [bp_]
      go_wp2_with fail
      obtain⟨pb,hpbe⟩: ∃z,z=W6.heap.size:=⟨_,rfl⟩
      rw [<-hpbe] at HPB
      simp only [<-hpbe]
      clear hpbe
      revert H7 HPB
      generalize World.alloc _ _=W7
      intro H7 HPB
      have hD:=(Ext.refl [] W7).drew
      have HCP:=hi_ (mcopy_c mb (i_ s1.root) W7.drew (H7.out.2.2.2.1.ext0 hD) (by have:=HF5.out.len;omega))
      obtain⟨p0,p1,p2,p3, -⟩:=E_ (hD.blk HPB.out (by simp))
      have hmlt:mb < W7.heap.size:=by
       obtain⟨lv,h1,_⟩:=H7.out.2.2.2.1
       exact g_ h1
      refine e_ (fun W=> W.cell? ⟨pb,0,none⟩=some (.int .i64 q6.1)/\W.cell? ⟨pb,1,none⟩=some (.int .i64 q6.2.1)/\W.cell? ⟨pb,2,none⟩=some (.int .i64 q6.2.2.1)/\W.cell? ⟨pb,3,none⟩=some (.string ⟨q6.2.2.2.toArray⟩)) (fun i=> i==0 || i==2) (by kernel_rfl) ⟨p0,p1,p2,p3⟩ (fun hS=> ?_)
      refine PUq 1 ?_;(try go_frame)
      refine ta 0 ?_;(try go_frame)
      refine oN 2 fun K hK=> ?_
      (try simp only [Act.put,zA,zB,zC,zF,zD,zE]);refine iw rfl ?_
      go_simp
      refine HCP.out.mono ?_
      rintro e W8 ⟨nb,rfl,hm8,hE8,hnb8⟩
      refine hK.out _ _ (fun _=> ⟨hE8.cell p0 (by simp),hE8.cell p1 (by simp),hE8.cell p2 (by simp),hE8.cell p3 (by simp)⟩) (fun _=> ?_)
      have hE78:=hD.trans hE8
      have hnbm:nb≠mb:=by
       have:W7.heap.size<=W7.drew.heap.size:=hD.size
       omega
      have H8:=hi_ (⟨H7.out.1.ext0 hE78,H7.out.2.1.ext0 hE78,H7.out.2.2.1.ext0 hE78,H7.out.2.2.2.1.ext0 hE78,hm8,hE78.blk H7.out.2.2.2.2.1 (by simp),H7.out.2.2.2.2.2.trans hE78⟩:SyR W8 y v6/\TreeR W8 y tb (q6,none) (.slice none 0 0) ⟨r6,[],false⟩/\EP.Ow 34 W8 (.slice pg G cg) s1.gone/\MapR W8 mb (i_ s1.root)/\MapR W8 nb (i_ s1.root)/\_/\Ext [] w W8)
      have HNB:=hi_ hnbm
      clear hK hS p0 p1 p2 p3 hm8 hE8 hE78 hnb8 hnbm hmlt hD HCP H7 HPB
      refine oN 3 fun K hK=> ?_
      rw [if_pos (show Region.wanted _ _=true from rfl)]
      have hq4:=E_ H8.out.2.2.2.2.2.1
      obtain⟨r0,r1',r2,r3,hfz⟩:=hq4
      obtain⟨hs9,hE9⟩:=set4 H8.out.2.2.2.2.2.1 (.int .i64 q6.1) (.int .i64 q6.2.1) (.int .i64 q6.2.2.1) (.string ⟨q6.2.2.2.toArray⟩)
      have htg:=d_ H8.out.2.2.2.2.2.1
      have hgl: ∀g∈blkL (.slice pg G cg),g∉ [rb]:=fun g hg hm=> by
       have h1:=HF5.out.gn
       simp only [List.mem_singleton] at hm
       exact h1 (hm ▸ hg)
      have hX9:Ext [] w (((((W8.setCell ⟨rb,0,none⟩ (.int .i64 q6.1)).setCell ⟨rb,1,none⟩ (.int .i64 q6.2.1)).setCell ⟨rb,2,none⟩ (.int .i64 q6.2.2.1)).setCell ⟨rb,3,none⟩ (.string ⟨q6.2.2.2.toArray⟩))):=H8.out.2.2.2.2.2.2.trans' hE9 (by simp) (fun x hx=> .inr (by simp only [List.mem_singleton] at hx;subst hx;exact HD1.out.2.2))
      have H9:=hi_ (⟨H8.out.1.otherT hE9 (by simp only [List.mem_singleton,forall_eq,htg];decide),⟨hE9.blk H8.out.2.1.blk (by simp only [List.mem_singleton];intro e;have h1:=d_ H8.out.2.1.blk;rw [e,htg] at h1;cases h1),H8.out.2.1.root.ext hE9 (by simp only [List.mem_singleton,forall_eq,htg];decide),.inl ⟨rfl,rfl⟩⟩,H8.out.2.2.1.ext hE9 hgl,H8.out.2.2.2.1.ext hE9 (by simp only [List.mem_singleton,forall_eq,htg];decide),H8.out.2.2.2.2.1.ext hE9 (by simp only [List.mem_singleton,forall_eq,htg];decide),hs9,hX9⟩:SyR _ y v6/\TreeR _ y tb (q6,none) (.slice none 0 0) ⟨r6,[],false⟩/\EP.Ow 34 _ (.slice pg G cg) s1.gone/\MapR _ mb (i_ s1.root)/\MapR _ nb (i_ s1.root)/\_/\Ext [] w _)
      clear hs9 hE9 htg hgl hX9 H8
      go_simp
      refine nk hK ?_
      refine PUq 4 ?_;(try go_frame)
      refine c_ (by kernel_rfl) ?_ _
      clear hK r0 r1' r2 r3 hfz
      revert H9
      generalize World.setCell _ _ _=W9
      intro H9
      have HG0:Hid (GonI y v6 L6 s1.gone 0 v6 L6):=hi_ (GonI.start HPR.out.dk s1.gone)
      have HI6:=hi_ H9.out.1.spi
      have hG9:G<=100:=by
       have h1:=HF5.out.bks
       have h2:=HF5.out.perm.length_eq
       rw [List.length_append,<-HGL.out] at h2
       omega
      go_wp2_with fail
      go_loopw [19] (fun kv wr=> ∃(k:Nat) (vk:Sv) (Lk:List Blk),kv= .int .i64 k/\k<=G/\Hid (GonI y v6 L6 s1.gone k vk Lk)/\Hid (SyR wr y vk/\TreeR wr y tb (q6,none) (.slice none 0 0) ⟨r6,[],false⟩/\EP.Ow 34 wr (.slice pg G cg) s1.gone/\MapR wr mb (i_ s1.root)/\MapR wr nb (i_ s1.root)/\wr.heap[rb]? =some (.cells #[.int .i64 q6.1,.int .i64 q6.2.1,.int .i64 q6.2.2.1,.string ⟨q6.2.2.2.toArray⟩] 34 (0,0))/\Ext [] w wr)) (fun kv _=> G - (intOf kv).toNat)
      case atStart=> exact⟨0,v6,L6,rfl,Nat.zero_le _,HG0,H9⟩
      case round=>
       clear HG0 H9
       obtain⟨k,vk,Lk,rfl,hkG,HGI,HM⟩:=hrel
       by_cases hlk:k < G
       ·have zk1:(k:Int) < (G:Int):=by omega
        have hkl:k < s1.gone.length:=by rw [<-HGL.out];exact hlk
        obtain⟨q,hq⟩: ∃q,s1.gone[k]? =some q:=⟨_,List.getElem?_eq_getElem hkl⟩
        have hqd:s1.gone.getD k P0=q:=by simp [List.getD,hq]
        obtain⟨g5,o5,rfl⟩: ∃g o,pg=some ⟨g,o,none⟩:=by
         rcases HM.out.2.2.1 with ⟨h,_⟩ | ⟨g,o,c,_,h,_⟩
         ·simp only [Value.slice.injEq] at h;omega
         ·simp only [Value.slice.injEq] at h;exact⟨g,_,h.1⟩
        obtain⟨m0,m1,m2,m3⟩:=fs_ HM.out.2.2.1.rd k hkl
        rw [hqd] at m0 m1 m2 m3
        obtain⟨bs,hbs1,hbs2⟩:=HF5.out.std q (HF5.out.perm.mem_iff.1 (List.mem_append_right _ (List.mem_of_getElem? hq)))
        have hbs6:=HPR.out.sub _ hbs1
        have hnd:(s1.gone.map (fun p=> p.1)).Nodup:=by
         have h1:=(HF5.out.perm.map (fun p=> p.1)).nodup_iff.2 HF5.out.nodup
         rw [List.map_append,List.nodup_append] at h1
         exact h1.2.1
        have hstd:=HGI.out.dk.dsk.std _ (HGI.out.at hnd hq hbs6)
        have hq1:1<=q.2.1:=by rw [hbs2.1];exact hstd.1
        have hq2:q.2.1<=1024:=by rw [hbs2.1];exact hstd.2.1
        have hq3:q.1<=1000000:=by
         have h1:=hstd.2.2.1
         have h2:=HM.out.1.spi.c2
         have h3:=HM.out.1.cells
         simp only at h1
         omega
        have hgive:=eG_ y vk q.1 q.2.1 q.2.2.1 q.2.2.2 wr HM.out.1 hq1 hq2 hq3
        simp only [pagg] at hgive
        have HGV:=hi_ hgive
        have HSTEP:=hi_ (fun(v2:Sv) (err:Int) hg hw hm=> HGI.out.step (v2:=v2) (err:=err) hnd hq hbs6 hbs2 HM.out.1.spi HM.out.1.cells hg hw hm)
        have zk2:((k:Int)).toNat=k:=by omega
        clear hgive hq1 hq2 hq3 hstd hnd hbs6 hbs1 hbs2 hqd hq hkl HGI
        go_wp2_with fail
        refine HGV.out.mono ?_
        rintro e W10 ⟨err,v2,rfl,hsy2,hF2,hws2,hrel2,hst2⟩
        obtain⟨rfl,hgi2⟩:=HSTEP.out v2 err hrel2 hws2 hst2
        have hbf:BF y [] wr W10:=BF.of hF2
        have hsyr:=HM.out.1
        obtain⟨S10,hSa,hSb⟩:=hF2.tags hsyr
        have HM2:=hi_ (⟨hsy2,HM.out.2.1.bf hsyr hbf (by simp) (by simp),HM.out.2.2.1.ext hSa (fun g hg hm=> hSb g hm _ (by decide) (HM.out.2.2.1.tagOf g hg)),HM.out.2.2.2.1.bf hsyr hbf (by simp) (by simp),HM.out.2.2.2.2.1.bf hsyr hbf (by simp) (by simp),hbf.blk hsyr HM.out.2.2.2.2.2.1 (by simp) (by decide),hbf.fresh HM.out.2.2.2.2.2.2 HYL.out (by simp)⟩:SyR W10 y v2/\TreeR W10 y tb (q6,none) (.slice none 0 0) ⟨r6,[],false⟩/\EP.Ow 34 W10 (.slice (some ⟨g5,o5,none⟩) G cg) s1.gone/\MapR W10 mb (i_ s1.root)/\MapR W10 nb (i_ s1.root)/\W10.heap[rb]? =some (.cells #[.int .i64 q6.1,.int .i64 q6.2.1,.int .i64 q6.2.2.1,.string ⟨q6.2.2.2.toArray⟩] 34 (0,0))/\Ext [] w W10)
        have HGI2:=hi_ hgi2
        clear hsy2 hF2 hws2 hrel2 hst2 hgi2 hbf hsyr hSa hSb HM HSTEP HGV m0 m1 m2 m3
        go_wp2_with fail
        go_roundw
        case rel=> exact⟨k+1,v2,offL Lk q.1,by go_num,by omega,HGI2,HM2⟩
        case measure=> simp [intOf];omega
       ·have zk1: ¬((k:Int) < (G:Int)):=by omega
        have HST:=hi_ (ec_ y vk _ HM.out.1)
        go_wp2_with fail
        refine HST.out.mono ?_
        rintro e W10 ⟨sp10,rfl,hs10,hst10,hF10⟩
        have hbf10:BF y [] wr W10:=BF.of hF10
        have hsyr:=HM.out.1
        have HF:=hi_ (HF5.out.wrote (v3:={vk with spc:=sp10}) HPR.out HWR.out HI6.out HGI.out (by rw [<-HGL.out];omega) hst10 rfl rfl hs10 (HM.out.2.1.bf hsyr hbf10 (by simp) (by simp)) (HM.out.2.2.2.1.bf hsyr hbf10 (by simp) (by simp)) (HM.out.2.2.2.2.1.bf hsyr hbf10 (by simp) (by simp)) HNB.out (hbf10.blk hsyr HM.out.2.2.2.2.2.1 (by simp) (by decide)))
        have HEX:=hi_ (hbf10.fresh HM.out.2.2.2.2.2.2 HYL.out (by simp))
        clear hs10 hst10 hF10 hbf10 hsyr HST HGI HM HF5 HE5
        have hp9:(i_ ((⟨r6,[],false⟩:TS)).root).length<=100000:=by have:=HF.out.len;omega
        have hrg:=bk_ y {vk with spc:=sp10} Lk tb (q6,none) (.slice none 0 0) (⟨r6,[],false⟩:TS) [] [] 100000 W10 HF.out.both.sy HF.out.both.dk.dsk HF.out.both.tr HF.out.both.ok.good (by decide) (by omega)
        simp only [eI_] at hrg
        rw [List.take_of_length_le hp9] at hrg
        obtain⟨HRG,HP9⟩:=h_2 hrg hp9
        clear hrg hp9
        go_wp2_with fail
        refine HRG.out.mono ?_
        rintro e WA ⟨u,v10,rfl,how,hfr,hs10,hv10,hd10,hf10⟩
        have HF10:=hi_ (HF.out.read hs10 hv10 hd10 (BF.of hf10))
        have HEX10:=hi_ ((BF.of (bs:= []) hf10).fresh HEX.out HYL.out (by simp))
        obtain⟨pm,cm,m0,hcm,how2, -⟩:=HF10.out.both.mr.cell
        have hsm:=fN_ _ _ _ _ WA how.rd how2.rd (Nat.le_trans HP9.out (by decide)) (Nat.le_trans HP9.out (by decide))
        simp only [decide_true] at hsm
        have HSM:=hi_ hsm
        clear how hfr hs10 hv10 hd10 hf10 how2 hsm HRG HF HEX
        go_wp2_with fail
        refine HSM.out.mono ?_
        rintro e W11 ⟨rfl,hE11⟩
        have HF11:=hi_ (HF10.out.ext0 hE11)
        have HEX11:=hi_ (HEX10.out.trans hE11)
        obtain⟨r0,r1,r2,r3, -⟩:=E_ HF11.out.cell
        have hall:=all_c HF11.out.both.sy HF11.out.both.dk.dsk HF11.out.old HF11.out.at_ HF11.out.sure (by have:=HF11.out.lenr;omega)
        simp only [bp_] at hall
        have HALL:=hi_ hall
        clear hE11 hall HF10 HEX10 m0 hcm HSM
        go_wp2_with fail
        refine HALL.out.mono ?_
        rintro e W12 ⟨rfl,v12,hs12,hv12,hd12,hf12⟩
        have HF12:=hi_ (HF11.out.read hs12 hv12 hd12 hf12)
        have HEX12:=hi_ (hf12.fresh HEX11.out HYL.out (by simp))
        clear hs12 hv12 hd12 hf12 HF11 HEX11 HALL r0 r1 r2 r3
        go_wp2_with fail
        go_roundw
        case rel=> exact⟨i+1,nb,_,_,_,_,_,_,_,by go_num,by omega,by omega,rfl,HF12,HEX12⟩
        case measure=> simp [intOf];omega
     ·simp only [bp_]
      have hbf6:BF y [tb] W5 W6:=BF.df hdf6 (by simp)
      have htt:=HF5.out.both.tr.tag
      have hmt:=HF5.out.both.mr.tag
      have hst:=HF5.out.sure.tag
      have hrt:=d_ HF5.out.cell
      have hnm:mb∉ [tb]:=by simp only [List.mem_singleton];intro e;rw [e,htt] at hmt;cases hmt
      have hns:sb∉ [tb]:=by simp only [List.mem_singleton];intro e;rw [e,htt] at hst;cases hst
      have hnr:rb∉ [tb]:=by simp only [List.mem_singleton];intro e;rw [e,htt] at hrt;cases hrt
      have hpt: ∀k∈ [tb],q_ W5 k≠some 36:=by simp only [List.mem_singleton,forall_eq,htt];decide
      have hm6:=HF5.out.both.mr.bf HF5.out.both.sy hbf6 hnm hpt
      have hsu6:=HF5.out.sure.bf HF5.out.both.sy hbf6 hns hpt
      have hc6:=hbf6.blk HF5.out.both.sy HF5.out.cell hnr (by decide)
      have hX6:=hbf6.fresh HE5.out HYL.out (by simpa using HLT.out)
      have hEp:Ext [] W6 (W6.alloc (.cells #[.int .i64 0,.int .i64 0,.int .i64 0,.string ⟨#[]⟩] 34)):=(Ext.refl [] W6).alloc _
      have hpb:=heap_alloc_new W6 (.cells #[.int .i64 0,.int .i64 0,.int .i64 0,.string ⟨#[]⟩] 34)
      have HST:=hi_ (ec_ y v6 _ (hs6.ext0 hEp))
      have H7:=hi_ (⟨hs6.ext0 hEp,ht6.ext0 hEp,hm6.ext0 hEp,hsu6.ext0 hEp,hEp.blk hc6 (by simp),hX6.trans hEp⟩:SyR _ y v6/\TreeR _ y tb yv1 gv1 s1/\MapR _ mb (i_ s1.root)/\MapR _ sb (i_ r1)/\_/\Ext [] w _)
      obtain⟨HPB,HFL⟩:=h_2 hpb hfl
      clear hbf6 htt hmt hst hrt hnm hns hnr hpt hm6 hsu6 hc6 hX6 hEp hpb hs6 ht6 hdf6 hfl HSYN HE5
      go_wp2_with fail
      obtain⟨pb,hpbe⟩: ∃z,z=W6.heap.size:=⟨_,rfl⟩
      rw [<-hpbe] at HPB
      simp only [<-hpbe]
      clear hpbe
      revert H7 HPB HST
      generalize World.alloc _ _=W7
      intro HST H7 HPB
      refine HST.out.mono ?_
      rintro e W8 ⟨sp8,rfl,hs8,hst8,hF8⟩
      have hbf8:BF y [] W7 W8:=BF.of hF8
      have hsy7:=H7.out.1
      have hcl:FR=cntL sp8.free - sp8.back:=by
       have h1:=hst8.cnt
       have h2:=HFL.out.cnt
       have h3:=HF5.out.leav
       have h4:=HFL.out.back
       have h5:=hst8.back
       rw [h3] at h2
       simp only [cntL] at h2
       rw [HFR.out]
       omega
      have HF8:=hi_ (HF5.out.failed HFL.out hsy7.spi hst8 (v2:={v6 with spc:=sp8}) rfl rfl hs8 (H7.out.2.1.bf hsy7 hbf8 (by simp) (by simp)) (H7.out.2.2.1.bf hsy7 hbf8 (by simp) (by simp)) (H7.out.2.2.2.1.bf hsy7 hbf8 (by simp) (by simp)) (hbf8.blk hsy7 H7.out.2.2.2.2.1 (by simp) (by decide)))
      have HX8:=hi_ (hbf8.fresh H7.out.2.2.2.2.2 HYL.out (by simp))
      have HPB8:=hi_ (hbf8.blk hsy7 HPB.out (by simp) (by decide))
      have hfree8:=hv_ y {v6 with spc:=sp8} W8 hs8
      simp only [<-hcl] at hfree8
      have HFREE8:=hi_ hfree8
      clear hs8 hst8 hF8 hbf8 hsy7 hcl hfree8 H7 HPB HST HF5 HFL
      go_wp2_with fail
      refine HFREE8.out.mono ?_
      rintro e W9 ⟨rfl,hE9⟩
      have HF:=hi_ (HF8.out.ext0 hE9)
      have HEX:=hi_ (HX8.out.trans hE9)
      obtain⟨p0,p1,p2,p3, -⟩:=E_ (hE9.blk HPB8.out (by simp))
      clear HF8 HX8 HPB8 hE9 HFREE8
      have hp9:(i_ (s1).root).length<=100000:=by have:=HF.out.len;omega
      have hrg:=bk_ y {v6 with spc:=sp8} L6 tb yv1 gv1 s1 [] [] 100000 W9 HF.out.both.sy HF.out.both.dk.dsk HF.out.both.tr HF.out.both.ok.good (by decide) (by omega)
      simp only [eI_] at hrg
      rw [List.take_of_length_le hp9] at hrg
      obtain⟨HRG,HP9⟩:=h_2 hrg hp9
      clear hrg hp9
      go_wp2_with fail
      refine HRG.out.mono ?_
      rintro e WA ⟨u,v10,rfl,how,hfr,hs10,hv10,hd10,hf10⟩
      have HF10:=hi_ (HF.out.read hs10 hv10 hd10 (BF.of hf10))
      have HEX10:=hi_ ((BF.of (bs:= []) hf10).fresh HEX.out HYL.out (by simp))
      obtain⟨pm,cm,m0,hcm,how2, -⟩:=HF10.out.both.mr.cell
      have hsm:=fN_ _ _ _ _ WA how.rd how2.rd (Nat.le_trans HP9.out (by decide)) (Nat.le_trans HP9.out (by decide))
      simp only [decide_true] at hsm
      have HSM:=hi_ hsm
      clear how hfr hs10 hv10 hd10 hf10 how2 hsm HRG HF HEX
      go_wp2_with fail
      refine HSM.out.mono ?_
      rintro e W11 ⟨rfl,hE11⟩
      have HF11:=hi_ (HF10.out.ext0 hE11)
      have HEX11:=hi_ (HEX10.out.trans hE11)
      obtain⟨r0,r1,r2,r3, -⟩:=E_ HF11.out.cell
      have hall:=all_c HF11.out.both.sy HF11.out.both.dk.dsk HF11.out.old HF11.out.at_ HF11.out.sure (by have:=HF11.out.lenr;omega)
      simp only [bp_] at hall
      have HALL:=hi_ hall
      clear hE11 hall HF10 HEX10 m0 hcm HSM
      go_wp2_with fail
      refine HALL.out.mono ?_
      rintro e W12 ⟨rfl,v12,hs12,hv12,hd12,hf12⟩
      have HF12:=hi_ (HF11.out.read hs12 hv12 hd12 hf12)
      have HEX12:=hi_ (hf12.fresh HEX11.out HYL.out (by simp))
      clear hs12 hv12 hd12 hf12 HF11 HEX11 HALL r0 r1 r2 r3
      go_wp2_with fail
      go_roundw
      case rel=> exact⟨i+1,sb,_,_,_,_,_,_,_,by go_num,by omega,by omega,rfl,HF12,HEX12⟩
      case measure=> simp [intOf];omega
   ·have z2: ¬(i:Int) < 80:=by omega
    go_wp2_with fail
    go_ret
    exact⟨rfl,HE.out⟩
  ·have z1: ¬((i:Int) < (N:Int)):=by omega
   go_wp2_with fail
   go_ret
   exact⟨rfl,HE.out⟩
end Go.Proofs.YtkpgjkekmdecbaaGreat
