/- Lemmas for the claim. No conditions beside those that each states. -/
import Derived.Test.YtkpgjkekmdecbaaGreatOrdAU
set_option maxRecDepth 100000
set_option maxHeartbeats 8000000
set_option linter.all false

namespace Go.Proofs.YtkpgjkekmdecbaaGreat
open Go.RowKit
variable {w:World} {n i:Nat}
def cZ_:Value->Nat
 | .slice _ n _=> n
 | _=> 0
theorem PcsR.at {N:Nat->List (El n)->Prop} {xs:List Pcm} {l:List (Pc n)} (h:PcsR N xs l) {x:Pc n} (hx:l[i]? =some x): ∃X,xs[i]? =some X/\KidR N X.1 x.2/\X.2=x.1:=by
 have hl:=(List.getElem?_eq_some_iff.1 hx).1
 have hl2:i < xs.length:=by rw [h.1];exact hl
 exact⟨_,List.getElem?_eq_getElem hl2,h.2 i _ x (List.getElem?_eq_getElem hl2) hx⟩
theorem KidR.some? {N:Nat->List (El n)->Prop} {X:Rfm} {x:Rf n} (h:KidR N X x):X.2.isNone=x.1.isSome:=by
 unfold KidR at h
 cases hx:x.1 with
 | none=> simp only [hx] at h;obtain⟨b,rfl,_⟩:=h;rfl
 | some q=> simp only [hx] at h;subst h;rfl
theorem bp_ {g o n cap:Nat} {s:List Pcm} (h:EPc.Rd w (.slice (some ⟨g,o,none⟩) n cap) s) (i:Nat) (X:Pcm) (hX:s[i]? =some X):
  w.cell? ⟨g,o+i*6,none⟩=some (.int .i64 X.1.1.1)/\w.cell? ⟨g,o+i*6+1,none⟩=some (.int .i64 X.1.1.2.1)/\w.cell? ⟨g,o+i*6+2,none⟩=some (.int .i64 X.1.1.2.2.1)/\
  w.cell? ⟨g,o+i*6+3,none⟩=some (.string ⟨X.1.1.2.2.2.toArray⟩)/\w.cell? ⟨g,o+i*6+4,none⟩=some (ptV X.1.2)/\w.cell? ⟨g,o+i*6+5,none⟩=some (.string ⟨X.2.toArray⟩):=by
 obtain⟨hl,he⟩:=List.getElem?_eq_some_iff.1 hX
 have h1:=gs_ h i hl
 have e:s.getD i (R0,[])=X:=by simp [List.getD,hX]
 rw [e] at h1
 exact h1
theorem PcsR.take {N:Nat->List (El n)->Prop} {xs:List Pcm} {l:List (Pc n)} (h:PcsR N xs l) (i:Nat):PcsR N (xs.take i) (l.take i):=by
 refine⟨by rw [List.length_take,List.length_take,h.1],fun j y x hy hx=> ?_⟩
 rw [List.getElem?_take] at hy hx
 split at hy
 ·rename_i hj
  rw [if_pos hj] at hx
  exact h.2 j y x hy hx
 ·cases hy
theorem PcsR.drop {N:Nat->List (El n)->Prop} {xs:List Pcm} {l:List (Pc n)} (h:PcsR N xs l) (i:Nat):PcsR N (xs.drop i) (l.drop i):=by
 refine⟨by rw [List.length_drop,List.length_drop,h.1],fun j y x hy hx=> ?_⟩
 rw [List.getElem?_drop] at hy hx
 exact h.2 _ y x hy hx
def TidyPost (y:Sy) (v:Sv) (L:List Blk) (cb:Nat) (gs:List Ptr4) (n:Nat) (ps:List (Pc n)) (w:World) (e:Ending) (w':World):Prop:=
 ∃u xs' v',e= .returned (.tuple #[u,.int .i64 0])/\TidS y v v' L cb (gs++(n_ n ps).2) n u xs' (n_ n ps).1 w w'/\ ∀k∈(n_ n ps).1,GoodPc L n k
theorem hb_ (y:Sy) (v:Sv) (L:List Blk) (cb:Nat) (gs:List Ptr4) (n:Nat) (lv:Value) (xs:List Pcm) (ps:List (Pc n)) (w:World) (h:CS y v L cb gs w) (how:EPc.Ow 184 w lv xs) (hp:PcsR (NodeR w n) xs ps) (hg: ∀k∈ps,GoodPc L n k) (hl:ps.length<=5000) (hgl:gs.length+2*ps.length<=50000):
  Calls Tryz.prog 100 #[.pointer (some ⟨cb,0,none⟩),lv] w (TidyPost y v L cb gs n ps w):=by
 have h0:TidS y v v L cb gs n lv xs ps w w:=⟨h,how,hp,SameV.refl _,CF.refl _ _ _⟩
 obtain⟨HT0,HG0⟩:=h_2 h0 hg
 obtain⟨p,c,rfl,_⟩:=how.rd.len_eq
 clear h how hp hg h0
 go_enter Tryz.func100,Tryz.ntmps100
 go_wp2_with fail
 go_loopw [1,6] (fun lv' iv wr=> ∃(i:Nat) (cur:List (Pc n)) (G:List Ptr4) (xs':List Pcm) (v':Sv),iv= .int .i64 i/\Hid (TInv n ps i cur G)/\Hid (TidS y v v' L cb (gs++G) n lv' xs' cur w wr)/\Hid (∀k∈cur,GoodPc L n k)/\Hid (cur.length<=5000/\(gs++G).length+2*cur.length<=50000)) (fun lv' iv _=> cZ_ lv' - (intOf iv).toNat)
 case atStart=> exact⟨0,ps,[],xs,v,rfl,hi_ (TInv.start n ps),hi_ (by rw [List.append_nil];exact HT0.out),HG0,hi_ ⟨hl,by rw [List.append_nil];exact hgl⟩⟩
 case round=>
  obtain⟨i,cur,G,xs',v',rfl,HI,HT,HGC,HB⟩:=hrel
  obtain⟨p',c',rfl,hcap⟩:=HT.out.ow.rd.len_eq
  obtain⟨N,hN⟩: ∃N,N=xs'.length:=⟨_,rfl⟩
  have hNc:N=cur.length:=by rw [hN,HT.out.pcs.1]
  have hle:=HI.out.le
  have hb:=HB.out.1
  rw [<-hNc] at hle hb
  rw [<-hN] at HT hcap
  simp only [<-hN]
  obtain⟨HN,HNX⟩:=h_2 hNc hN
  clear hN hNc
  have w1:IntKind.i64.wrap ((i:Int)+1)=(i:Int)+1:=IntWalk.i64_in _ (by omega)
  by_cases hlt:i+1 < N
  ·have z1:(i:Int)+1 < (N:Int):=by omega
   obtain⟨x,hx⟩: ∃x,cur[i]? =some x:=⟨_,List.getElem?_eq_getElem (by rw [<-HN.out];omega)⟩
   obtain⟨z,hz⟩: ∃z,cur[i+1]? =some z:=⟨_,List.getElem?_eq_getElem (by rw [<-HN.out];omega)⟩
   obtain⟨X,hX,hkx,hxk⟩:=HT.out.pcs.at hx
   obtain⟨Z,hZ,hkz,hzk⟩:=HT.out.pcs.at hz
   obtain⟨g,o,rfl⟩: ∃g o,p'=some ⟨g,o,none⟩:=by
    rcases HT.out.ow with ⟨h,_⟩ | ⟨g,o,c,_,h,_⟩
    ·simp only [Value.slice.injEq] at h;omega
    ·simp only [Value.slice.injEq] at h;exact⟨g,_,h.1⟩
   have hs1:=hkx.some?
   have hs2:=hkz.some?
   obtain⟨m0,m1,m2,m3,m4,m5⟩:=bp_ HT.out.ow.rd i X hX
   obtain⟨n0,n1,n2,n3,n4,n5⟩:=bp_ HT.out.ow.rd (i+1) Z hZ
   obtain⟨pX,hpX⟩: ∃q,q=Option.map (fun b=> (⟨b,0,none⟩:Addr)) X.1.2:=⟨_,rfl⟩
   obtain⟨pZ,hpZ⟩: ∃q,q=Option.map (fun b=> (⟨b,0,none⟩:Addr)) Z.1.2:=⟨_,rfl⟩
   have hs1:pX.isNone=x.2.1.isSome:=by rw [<-hs1,hpX];cases X.1.2 <;> rfl
   have hs2:pZ.isNone=z.2.1.isSome:=by rw [<-hs2,hpZ];cases Z.1.2 <;> rfl
   simp only [ptV] at m4 n4
   rw [<-hpX] at m4
   rw [<-hpZ] at n4
   have hgx:=HGC.out x (List.mem_of_getElem? hx)
   have hgz:=HGC.out z (List.mem_of_getElem? hz)
   have hlx: ∀v2 W,CS y v2 L cb (gs++G) W->KidR (NodeR W n) X.1 x.2->Calls Tryz.prog 62 #[.pointer (some ⟨y.b,0,none⟩),refV X.1] W (gt_ y v2 L cb (gs++G) n x.2.2 W):=fun v2 W h1 h2=> dm_ h1 h2 hgx.dk hgx.good
   have hlz: ∀v2 W,CS y v2 L cb (gs++G) W->KidR (NodeR W n) Z.1 z.2->Calls Tryz.prog 62 #[.pointer (some ⟨y.b,0,none⟩),refV Z.1] W (gt_ y v2 L cb (gs++G) n z.2.2 W):=fun v2 W h1 h2=> dm_ h1 h2 hgz.dk hgz.good
   simp only [refV,ptV] at hlx hlz
   rw [<-hpX] at hlx
   rw [<-hpZ] at hlz
   obtain⟨HLX,HLZ,HGX,HGZ,HX,HZ,HKX,HKZ⟩:=h_8 hlx hlz hgx hgz hx hz hkx hkz
   obtain⟨HXK,HZK,HXX,HZZ,HS1,HS2⟩:=h_6 hxk hzk hX hZ hs1 hs2
   have w2:((i:Int)+1).toNat=i+1:=by omega
   have w3:(0:Int)<=(i:Int)+1:=by omega
   have z2:(i:Int) < (N:Int):=by omega
   have c0:wr.cell? ⟨cb,0,none⟩=some (.pointer (some ⟨y.b,0,none⟩)):=by
    obtain⟨_,_,h,_⟩:=HT.out.cs.ch.cells
    exact h
   obtain⟨HPX,HPZ⟩:=h_2 hpX hpZ
   clear hx hz hkx hkz hxk hzk hpX hpZ hX hZ hs1 hs2 hgx hgz hlx hlz
   cases pX with
   | none=>
    cases pZ with
    | none=>
     have HI2:=hi_ (HI.out.skip HX.out HZ.out (.inl ⟨by rw [<-HS1.out];rfl,by rw [<-HS2.out];rfl⟩))
     clear m0 m1 m2 m3 m5 n0 n1 n2 n3 n5 c0
     go_wp2_with fail
     go_roundw
     case rel=> exact⟨i+1,cur,G,xs',v',by go_num,HI2,HT,HGC,HB⟩
     case measure=> simp [intOf,cZ_];omega
    | some b=>
     have HNB:Hid (¬(x.2.1.isSome=true/\z.2.1.isSome=true)):=hi_ (fun h=> by have h1:=HS2.out;rw [h.2] at h1;cases h1)
     go_wp2_with fail
     have hD:=(Ext.refl [] wr).drew
     refine e_ (fun W=> W.cell? ⟨cb,0,none⟩=some (.pointer (some ⟨y.b,0,none⟩))/\W.cell? ⟨g,o+i*6,none⟩=some (.int .i64 X.1.1.1)/\W.cell? ⟨g,o+i*6+1,none⟩=some (.int .i64 X.1.1.2.1)/\W.cell? ⟨g,o+i*6+2,none⟩=some (.int .i64 X.1.1.2.2.1)/\W.cell? ⟨g,o+i*6+3,none⟩=some (.string ⟨X.1.1.2.2.2.toArray⟩)/\W.cell? ⟨g,o+i*6+4,none⟩=some (.pointer none)) (fun i=> i==3 || i==8) (by kernel_rfl) ⟨hD.cell c0 (by simp),hD.cell m0 (by simp),hD.cell m1 (by simp),hD.cell m2 (by simp),hD.cell m3 (by simp),hD.cell m4 (by simp)⟩ (fun hS=> ?_)
     refine PUq 0 ?_;(try go_frame)
     refine PUq 1 ?_;(try go_frame)
     refine PUq 2 ?_;(try go_frame)
     refine PUq 4 ?_;(try go_frame)
     refine PUq 5 ?_;(try go_frame)
     refine PUq 6 ?_;(try go_frame)
     refine PUq 7 ?_;(try go_frame)
     refine ta 3 ?_;(try go_frame)
     refine ta 8 ?_;(try go_frame)
     refine a_ (i:=9) (by kernel_rfl) rfl (fun K hK=> ?_)
     (try simp only [Act.put,zA,zB,zC,List.setIfInBounds_toArray,zD,zE]);refine iw rfl ?_
     go_simp
     have ht0:=HT.out.ext0 hD
     refine(HLX.out v' _ ht0.cs (HKX.out.mono (fun b h=> h.ext0 hD))).mono ?_
     rintro e W1 ⟨na,v1,rfl,hna,hcs1,hsm1,hcf1⟩
     have HT1:=hi_ (ht0.step hcs1 hsm1 hcf1)
     have HNA:=hi_ hna
     have HKZ1:Hid (KidR (NodeR W1 n) Z.1 z.2):=hi_ (HKZ.out.mono (fun b h=> NodeR.cf ht0.cs.sy hcf1 _ _ _ (h.ext0 hD)))
     refine nk hK ?_
     clear hK hS ht0 hna hcs1 hsm1 hcf1 hD m0 m1 m2 m3 m4 m5 n0 n1 n2 n3 n4 n5 c0 HT HKX HKZ HLX
     refine PUq 10 ?_;(try go_frame)
     refine PUq 11 ?_;(try go_frame)
     refine PUq 12 ?_;(try go_frame)
     refine PUq 13 ?_;(try go_frame)
     refine PUq 14 ?_;(try go_frame)
     simp only [zA,zB,zC,zD,zE]
     refine c_ (by kernel_rfl) ?_ _
     obtain⟨n0,n1,n2,n3,n4,n5⟩:=bp_ HT1.out.ow.rd (i+1) Z HZZ.out
     have hpz:=HPZ.out
     simp only [ptV] at n4
     rw [<-hpz] at n4
     clear hpz
     have c0:W1.cell? ⟨cb,0,none⟩=some (.pointer (some ⟨y.b,0,none⟩)):=by
      obtain⟨_,_,h,_⟩:=HT1.out.cs.ch.cells
      exact h
     go_wp2_with fail
     have hD:=(Ext.refl [] W1).drew
     refine e_ (fun W=> W.cell? ⟨cb,0,none⟩=some (.pointer (some ⟨y.b,0,none⟩))/\W.cell? ⟨g,o+(i+1)*6,none⟩=some (.int .i64 Z.1.1.1)/\W.cell? ⟨g,o+(i+1)*6+1,none⟩=some (.int .i64 Z.1.1.2.1)/\W.cell? ⟨g,o+(i+1)*6+2,none⟩=some (.int .i64 Z.1.1.2.2.1)/\W.cell? ⟨g,o+(i+1)*6+3,none⟩=some (.string ⟨Z.1.1.2.2.2.toArray⟩)/\W.cell? ⟨g,o+(i+1)*6+4,none⟩=some (.pointer (some b))) (fun i=> i==3 || i==9) (by kernel_rfl) ⟨hD.cell c0 (by simp),hD.cell n0 (by simp),hD.cell n1 (by simp),hD.cell n2 (by simp),hD.cell n3 (by simp),hD.cell n4 (by simp)⟩ (fun hS=> ?_)
     refine PUq 0 ?_;(try go_frame)
     refine PUq 1 ?_;(try go_frame)
     refine PUq 2 ?_;(try go_frame)
     refine PUq 4 ?_;(try go_frame)
     refine PUq 5 ?_;(try go_frame)
     refine PUq 6 ?_;(try go_frame)
     refine PUq 7 ?_;(try go_frame)
     refine PUq 8 ?_;(try go_frame)
     refine ta 3 ?_;(try go_frame)
     refine ta 9 ?_;(try go_frame)
     refine a_ (i:=10) (by kernel_rfl) rfl (fun K hK=> ?_)
     (try simp only [Act.put,zA,zB,zC,List.setIfInBounds_toArray,zD,zE]);refine iw rfl ?_
     go_simp
     have ht0:=HT1.out.ext0 hD
     refine(HLZ.out v1 _ ht0.cs (HKZ1.out.mono (fun b h=> h.ext0 hD))).mono ?_
     rintro e W2 ⟨nb,v2,rfl,hnb,hcs2,hsm2,hcf2⟩
     have HT2:=hi_ (ht0.step hcs2 hsm2 hcf2)
     have HNB2:=hi_ hnb
     have HNA2:=hi_ (NodeR.cf ht0.cs.sy hcf2 _ _ _ (HNA.out.ext0 hD))
     refine nk hK ?_
     clear hK hS ht0 hnb hcs2 hsm2 hcf2 hD n0 n1 n2 n3 n4 n5 c0 HT1 HNA HKZ1 HLZ
     refine PUq 11 ?_;(try go_frame)
     simp only [zA,zB,zC,zD,zE]
     refine PUq 12 ?_;(try go_frame)
     simp only [zA,zB,zC,zD,zE]
     refine PUq 13 ?_;(try go_frame)
     simp only [zA,zB,zC,zD,zE]
     refine PUq 14 ?_;(try go_frame)
     simp only [zA,zB,zC,zD,zE]
     refine PUq 15 ?_;(try go_frame)
     simp only [zA,zB,zC,zD,zE]
     refine c_ (by kernel_rfl) ?_ _
     obtain⟨-, -, -, -, -,n5⟩:=bp_ HT2.out.ow.rd (i+1) Z HZZ.out
     rw [HZK.out] at n5
     go_wp2_with fail
     have hgj:=HGX.out.good.join HGZ.out.good HGZ.out.key (S_ HGX.out.sz) (S_ HGZ.out.sz)
     refine(hh_ n na nb x.2.2 z.2.2 z.1 W2 HNA2.out HNB2.out hgj HGX.out.ne HGZ.out.ne).mono ?_
     rintro e W3 ⟨nc,rfl,hnc,hE3⟩
     have HT3:=hi_ (HT2.out.ext0 hE3)
     have HNC:=hi_ hnc
     obtain⟨f,hf⟩: ∃f,f=fitF n (s_ n x.2.2 z.1 z.2.2):=⟨_,rfl⟩
     rw [<-hf]
     have HF:=hi_ hf
     clear hgj hnc hE3 HT2 HNA2 HNB2 n5 hf
     cases f with
     | false=>
      have HI2:=hi_ (HI.out.skip HX.out HZ.out (.inr (fun h=> by have h1:=HF.out;simp [fitF,h] at h1)))
      go_wp2_with fail
      go_roundw
      case rel=> exact⟨i+1,cur,G,xs',v2,by go_num,HI2,HT3,HGC,HB⟩
      case measure=> simp [intOf,cZ_];omega
     | true=>
      have hsz:szF n (s_ n x.2.2 z.1 z.2.2)<=1024:=by have h1:=HF.out;simpa [fitF] using h1.symm
      have HSZ:=hi_ hsz
      clear hsz HF
      have w4:IntKind.i64.wrap ((i:Int)+2)=(i:Int)+2:=IntWalk.i64_in _ (by omega)
      have w5:((i:Int)+2).toNat=i+2:=by omega
      have w6:(0:Int)<=(i:Int)+2:=by omega
      have w7:(i:Int)<=(i:Int)+2:=by omega
      have w8:(i:Int)+2<=(c':Int):=by omega
      have w9: ¬c'=i:=by omega
      have w10:i+2 - i=2:=by omega
      have w11:((i:Int)+2 - (i:Int)).toNat=2:=by omega
      have GF:Hid (∀j k,([x,z]:List (Pc n))[j]? =some k->cur[i+j]? =some k/\(([x,z]:List (Pc n)).take (j+1)).flatMap (fun k=> k.2.1.toList)=(([x,z]:List (Pc n)).take j).flatMap (fun k=> k.2.1.toList)++k.2.1.toList):=hi_ (fun j k hk=> by
       match j,hk with
       | 0,hk=> simp at hk;subst hk;exact⟨HX.out,by simp⟩
       | 1,hk=> simp at hk;subst hk;exact⟨HZ.out,by simp⟩
       | j+2,hk=> simp at hk)
      go_wp2_with fail
      go_loopw [93] (fun jv wr=> ∃(j:Nat),j<=2/\jv= .int .i64 j/\Hid (TidS y v v2 L cb (gs++G++(([x,z]:List (Pc n)).take j).flatMap (fun k=> k.2.1.toList)) n (.slice (some ⟨g,o,none⟩) N c') xs' cur w wr)/\Hid (NodeR wr n nc (s_ n x.2.2 z.1 z.2.2))) (fun jv _=> 2 - (intOf jv).toNat)
      case atStart=> exact⟨0,by omega,rfl,hi_ (by simpa using HT3.out),HNC⟩
      case round=>
       clear HT3 HNC
       obtain⟨j,hj,rfl,HT4,HNC4⟩:=hrel
       by_cases hj2:j < 2
       ·have v1:(j:Int) < 2:=by omega
        obtain⟨k,hk⟩: ∃k,([x,z]:List (Pc n))[j]? =some k:=⟨_,List.getElem?_eq_getElem (by simpa using hj2)⟩
        obtain⟨hck,hgj⟩:=GF.out j k hk
        obtain⟨Y,hY,hky,hyk⟩:=HT4.out.pcs.at hck
        obtain⟨m0,m1,m2,m3,m4,m5⟩:=bp_ HT4.out.ow.rd (i+j) Y hY
        rw [Nat.add_mul,<-Nat.add_assoc] at m0 m1 m2 m3 m4 m5
        have hs9:=hky.some?
        obtain⟨pY,hpY⟩: ∃q,q=Option.map (fun b=> (⟨b,0,none⟩:Addr)) Y.1.2:=⟨_,rfl⟩
        have hs9:pY.isNone=k.2.1.isSome:=by rw [<-hs9,hpY];cases Y.1.2 <;> rfl
        simp only [ptV] at m4
        rw [<-hpY] at m4
        obtain⟨HGJ,HKY,HS9⟩:=h_3 hgj hky hs9
        have hbx:=heap_alloc_new wr (.cells #[.int .i64 Y.1.1.1,.int .i64 Y.1.1.2.1,.int .i64 Y.1.1.2.2.1,.string ⟨Y.1.1.2.2.2.toArray⟩,.pointer pY,.string ⟨Y.2.toArray⟩] 184)
        have hEx:Ext [] wr (wr.alloc (.cells #[.int .i64 Y.1.1.1,.int .i64 Y.1.1.2.1,.int .i64 Y.1.1.2.2.1,.string ⟨Y.1.1.2.2.2.toArray⟩,.pointer pY,.string ⟨Y.2.toArray⟩] 184)):=(Ext.refl [] wr).alloc _
        have HT5:=hi_ (HT4.out.ext0 hEx)
        have HNC5:=hi_ (HNC4.out.ext0 hEx)
        have HBX:=hi_ hbx
        obtain⟨bx,hbxe⟩: ∃b,b=wr.heap.size:=⟨_,rfl⟩
        clear hbx hEx HT4 HNC4 hs9 hky hgj hck hk hY hyk hpY
        cases pY with
        | some a9=>
         have h9:k.2.1=none:=by have h1:=HS9.out;cases hk1:k.2.1 with
          | none=> rfl
          | some q=> rw [hk1] at h1;cases h1
         have hg9:=HGJ.out
         rw [h9] at hg9
         simp only [Option.toList_none,List.append_nil] at hg9
         rw [<-hg9] at HT5
         clear hg9 h9 hbxe HBX
         go_wp2_with fail
         go_roundw
         case rel=> exact⟨j+1,by omega,by go_num,HT5,HNC5⟩
         case measure=> simp [intOf];omega
        | none=>
         obtain⟨q,hq⟩: ∃q,k.2.1=some q:=by
          have h1:=HS9.out
          cases hk1:k.2.1 with
          | none=> rw [hk1] at h1;cases h1
          | some q=> exact⟨q,rfl⟩
         have hYq:Y.1=(q,none):=by
          have h1:=HKY.out
          unfold KidR at h1
          simp only [hq] at h1
          exact h1
         have hg9:=HGJ.out
         rw [hq] at hg9
         simp only [Option.toList_some] at hg9
         obtain⟨gj,hgj⟩: ∃l,l=gs++G++(([x,z]:List (Pc n)).take j).flatMap (fun k=> k.2.1.toList):=⟨_,rfl⟩
         rw [<-hgj] at HT5
         have HGJ2:Hid (gs++G++(([x,z]:List (Pc n)).take (j+1)).flatMap (fun k=> k.2.1.toList)=gj++ [q]):=hi_ (by rw [hg9,hgj];simp [List.append_assoc])
         have hgl9:gj.length<=60000:=by
          have h1:=HB.out.2
          have h2:((([x,z]:List (Pc n)).take j).flatMap (fun k=> k.2.1.toList)).length<=2:=by
           match j,hj2 with
           | 0,_=> simp
           | 1,_=> simp;cases x.2.1 <;> simp
          rw [hgj,List.length_append];omega
         rw [hYq] at HBX m0 m1 m2 m3 HT5 HNC5
         simp only [] at HBX m0 m1 m2 m3
         clear hq hYq hg9 hgj HGJ HS9 HKY
         go_wp2_with fail
         try rw [<-hbxe] at HBX
         try simp only [<-hbxe]
         clear hbxe
         revert HT5 HNC5 HBX
         generalize World.alloc _ _=W5
         intro HNC5 HBX HT5
         obtain⟨p5,c5, -,k1,kb,kow,kge⟩:=HT5.out.cs.ch.cells
         obtain⟨HKB,HKO,HKG⟩:=h_3 kb kow kge
         have x0:W5.cell? ⟨bx,0,none⟩=some (.int .i64 q.1):=by rw [cell_of_row _ bx 0 _ _ _ HBX.out];rfl
         have x1:W5.cell? ⟨bx,1,none⟩=some (.int .i64 q.2.1):=by rw [cell_of_row _ bx 1 _ _ _ HBX.out];rfl
         have x2:W5.cell? ⟨bx,2,none⟩=some (.int .i64 q.2.2.1):=by rw [cell_of_row _ bx 2 _ _ _ HBX.out];rfl
         have x3:W5.cell? ⟨bx,3,none⟩=some (.string ⟨q.2.2.2.toArray⟩):=by rw [cell_of_row _ bx 3 _ _ _ HBX.out];rfl
         clear kb kow kge m0 m1 m2 m3 m4 m5
         have hD:=(Ext.refl [] W5).drew
         refine e_ (fun W=> W.cell? ⟨cb,1,none⟩=some (.slice p5 gj.length c5)/\W.cell? ⟨bx,0,none⟩=some (.int .i64 q.1)/\W.cell? ⟨bx,1,none⟩=some (.int .i64 q.2.1)/\W.cell? ⟨bx,2,none⟩=some (.int .i64 q.2.2.1)/\W.cell? ⟨bx,3,none⟩=some (.string ⟨q.2.2.2.toArray⟩)) (fun i=> i==4 || i==7 || i==8) (by kernel_rfl) ⟨hD.cell k1 (by simp),hD.cell x0 (by simp),hD.cell x1 (by simp),hD.cell x2 (by simp),hD.cell x3 (by simp)⟩ (fun hS=> ?_)
         refine PUq 0 ?_;(try go_frame)
         refine PUq 1 ?_;(try go_frame)
         refine PUq 2 ?_;(try go_frame)
         refine PUq 3 ?_;(try go_frame)
         refine PUq 5 ?_;(try go_frame)
         refine PUq 6 ?_;(try go_frame)
         refine ta 4 ?_;(try go_frame)
         refine ta 7 ?_;(try go_frame)
         refine a_ (i:=8) (by kernel_rfl) rfl (fun K hK=> ?_)
         (try simp only [Act.put,zA,zB,zC,List.setIfInBounds_toArray,zD,zE]);refine iw rfl ?_
         go_simp
         have hE7:Ext [] W5 (W5.alloc (.cells #[.int .i64 q.1,.int .i64 q.2.1,.int .i64 q.2.2.1,.string ⟨q.2.2.2.toArray⟩] 34)).drew:=((Ext.refl [] W5).alloc _).drew
         have hrd7:=(eQ_ (T:=34) W5 q).drew
         refine hK.out _ _ (fun _=> ⟨hE7.cell k1 (by simp),hE7.cell x0 (by simp),hE7.cell x1 (by simp),hE7.cell x2 (by simp),hE7.cell x3 (by simp)⟩) (fun _=> ?_)
         obtain⟨HE7,HRD7⟩:=h_2 hE7 hrd7
         clear hK hS x0 x1 x2 x3 hE7 hrd7 hD k1
         revert HE7 HRD7
         generalize World.drew _=W7
         intro HE7 HRD7
         refine a_ (i:=9) (by kernel_rfl) rfl (fun K hK=> ?_)
         (try simp only [Act.put,zA,zB,zC,List.setIfInBounds_toArray,zD,zE]);refine iw rfl ?_
         refine b_ (s:= .tmp 105) (x:= .tmp 109) (E:=EP) (T:=34) (zero:=(0,0,0,[])) (bytes:=40) (v:= .slice p5 gj.length c5) (xs:=gj) (ys:= [q]) tiEP Tryz.underlying38 Tryz.underlying38 rfl rfl rfl (HKO.out.ext0 HE7.out) HRD7.out (by simp;omega) (by simp;omega) ?_
         intro v8 w8 how hext hnear _
         obtain⟨p8,c8,hv8,_⟩:=how.rd.len_eq
         subst hv8
         have hb7:=HE7.out.blk HKB.out (by simp)
         have ht7:=HT5.out.ext0 HE7.out
         obtain⟨hcs9,hcf9⟩:=ht7.cs.more hb7 (HKO.out.ext0 HE7.out) HKG.out how hext hnear
         have hl1:(gj++ [q]).length=gj.length+1:=by simp
         rw [hl1] at hcs9 hcf9
         have ht9:=ht7.step hcs9 (SameV.refl _) hcf9
         rw [<-HGJ2.out] at ht9
         have HT9:=hi_ ht9
         have HNC9:=hi_ (NodeR.cf ht7.cs.sy hcf9 _ _ _ (HNC5.out.ext0 HE7.out))
         have hb8:=hext.blk hb7 (fun hm=> (HKO.out.ext0 HE7.out).ne hb7 (by decide) cb hm rfl)
         have hfz8: ∀z,w8.frozen? ⟨cb,z,none⟩=false:=fun z=> frozen_of_row _ _ _ _ _ hb8
         have c18:w8.cell? ⟨cb,1,none⟩=some (.slice p5 gj.length c5):=by rw [cell_of_row w8 cb 1 _ _ _ hb8];rfl
         refine nk hK ?_
         clear hK how hext hnear hb7 hcs9 hcf9 ht7 ht9 hl1 hb8 HE7 HRD7 HKB HKO HKG HT5 HNC5 HBX
         refine PUq 10 ?_;(try go_frame)
         simp only [zA,zB,zC,zD,zE]
         refine PUq 11 ?_;(try go_frame)
         simp only [zA,zB,zC,zD,zE]
         refine a_ (i:=12) (by kernel_rfl) rfl (fun K hK=> ?_)
         refine iw rfl ?_
         go_simp
         refine nk hK ?_
         refine c_ (by kernel_rfl) ?_ _
         clear hK hfz8 c18
         revert HT9 HNC9
         generalize World.setCell _ _ _=W9
         intro HT9 HNC9
         go_wp2_with fail
         go_roundw
         case rel=> exact⟨j+1,by omega,by go_num,HT9,HNC9⟩
         case measure=> simp [intOf];omega
       ·have v1: ¬((j:Int) < 2):=by omega
        have hj3:j=2:=by omega
        have hg2:(([x,z]:List (Pc n)).take j).flatMap (fun k=> k.2.1.toList)=x.2.1.toList++z.2.1.toList:=by rw [hj3];simp
        rw [hg2,List.append_assoc] at HT4
        obtain⟨-, -, -, -, -,m5⟩:=bp_ HT4.out.ow.rd i X HXX.out
        have hi2:i+2<=xs'.length:=by rw [<-HNX.out];omega
        have HI3:=hi_ (HI.out.join HX.out HZ.out HNB.out HSZ.out)
        have HGJ3:=hi_ (HGX.out.join HGZ.out HSZ.out)
        clear hg2 hj3 GF
        rw [HXK.out] at m5
        have hD:=(Ext.refl [] wr).drew
        have HBS:Hid (cur.length<=5000):=hi_ HB.out.1
        go_wp2_with fail
        refine e_ (fun W=> W.cell? ⟨g,o+i*6+5,none⟩=some (.string ⟨x.1.toArray⟩)) (fun k=> k==1 || k==11) (by kernel_rfl) (hD.cell m5 (by simp)) (fun hS=> ?_)
        refine PUq 0 ?_;(try go_frame);refine PUq 2 ?_;(try go_frame);refine PUq 3 ?_;(try go_frame);refine PUq 4 ?_;(try go_frame);refine PUq 5 ?_;(try go_frame);refine PUq 6 ?_;(try go_frame);(try simp only [zA,zB,zC,zD,zE]);refine PUq 7 ?_;(try go_frame);(try simp only [zA,zB,zC,zD,zE]);refine PUq 8 ?_;(try go_frame);(try simp only [zA,zB,zC,zD,zE]);refine PUq 9 ?_;(try go_frame);(try simp only [zA,zB,zC,zD,zE]);refine PUq 10 ?_;(try go_frame);(try simp only [zA,zB,zC,zD,zE])
        refine ta 11 ?_;(try go_frame);(try simp only [zA,zB,zC,zD,zE])
        refine PUq 12 ?_;(try go_frame);(try simp only [zA,zB,zC,zD,zE])
        refine an_ (i:=1) (j:=13) (by kernel_rfl) rfl rfl (fun K hK=> ?_) (fun K hK=> ?_)
        ·(try simp only [Act.put,zA,zB,zC,List.setIfInBounds_toArray,zD,zE]);refine iw rfl ?_
         go_simp
         refine(cv_ _ xs' _ (by rw [<-HNX.out];omega) (HT4.out.ow.rd.ext0 hD)).mono ?_
         rintro e W5 ⟨u5,rfl,how5,hE5,hf5, -⟩
         obtain⟨p5,c5,rfl,_⟩:=how5.rd.len_eq
         rw [<-HNX.out] at how5 hf5 ⊢
         have HO5:=hi_ how5
         have HF5:Hid (∀b∈blkL (.slice p5 N c5),wr.heap.size<=b):=hi_ (fun b hb=> Nat.le_trans hD.size (hf5 b hb))
         refine hK.out _ _ (fun _=> hE5.cell hS (by simp)) (fun _=> ?_)
         clear hK hS how5 hf5
         refine a_ (i:=13) (by kernel_rfl) rfl (fun K hK=> ?_)
         (try simp only [Act.put,zA,zB,zC,List.setIfInBounds_toArray,zD,zE]);refine iw rfl ?_
         go_simp
         have hEa:Ext [] W5 (W5.alloc (.cells #[.int .i64 0,.int .i64 0,.int .i64 0,.string ⟨#[]⟩,.pointer (some ⟨nc,0,none⟩),.string ⟨x.1.toArray⟩] 184)):=(Ext.refl [] W5).alloc _
         have hoa:=cl_ W5 nc x.1
         have HOA:=hi_ hoa
         have HO6:=hi_ (HO5.out.ext0 hEa)
         have HE6:=hi_ ((hD.trans hE5).trans hEa)
         have HNE:Hid (∀b∈blkL (.slice (some ⟨W5.heap.size,0,none⟩) 1 1),b∉blkL (.slice p5 N c5)):=hi_ (fun b hb hb2=> by
          simp [blkL] at hb
          have:=HO5.out.lt b hb2
          omega)
         refine nk hK ?_
         clear hK hoa hE5 hEa HO5
         refine a_ (i:=14) (by kernel_rfl) rfl (fun K hK=> ?_)
         (try simp only [Act.put,zA,zB,zC,List.setIfInBounds_toArray,zD,zE]);refine iw rfl ?_
         go_simp
         refine(bM_ (.slice p5 N c5) (.slice (some ⟨W5.heap.size,0,none⟩) 1 1) xs' ((P0,some nc),x.1) i _ HO6.out HOA.out HNE.out hi2 (by rw [<-HNX.out];omega)).mono ?_
         rintro e W7 ⟨v7,rfl,how7,hE7,hn7⟩
         have hE9:Ext [] wr W7:=HE6.out.trans' hE7 (by simp) (fun b hb=> .inr (HF5.out b hb))
         have ht9:=HT4.out.ext0 hE9
         have HT9:Hid (TidS y v v2 L cb (gs++(G++(x.2.1.toList++z.2.1.toList))) n v7 (xs'.take i++ [((P0,some nc),x.1)]++xs'.drop (i+2)) (cur.take i++ [(x.1,none,s_ n x.2.2 z.1 z.2.2)]++cur.drop (i+2)) w W7):=hi_ ⟨ht9.cs,how7,((ht9.pcs.take i).append (PcsR.one (n:=n) (N:=NodeR W7 n) (y:=((P0,some nc),x.1)) (x:=(x.1,none,s_ n x.2.2 z.1 z.2.2)) ⟨nc,rfl,HNC4.out.ext0 hE9⟩ rfl)).append (ht9.pcs.drop (i+2)),ht9.same,ht9.cf⟩
         have HG9:Hid (∀k∈cur.take i++ [(x.1,none,s_ n x.2.2 z.1 z.2.2)]++cur.drop (i+2),GoodPc L n k):=hi_ (fun k hk=> by
          rcases List.mem_append.1 hk with hk | hk
          ·rcases List.mem_append.1 hk with hk | hk
           ·exact HGC.out k (List.mem_of_mem_take hk)
           ·rw [List.mem_singleton.1 hk];exact HGJ3.out
          ·exact HGC.out k (List.mem_of_mem_drop hk))
         have hcl:(cur.take i++ [(x.1,none,s_ n x.2.2 z.1 z.2.2)]++cur.drop (i+2)).length+1=cur.length:=by
          have h1:=HN.out
          simp only [List.length_append,List.length_take,List.length_drop,List.length_singleton]
          omega
         have hxl:(xs'.take i++ [((P0,some nc),x.1)]++xs'.drop (i+2)).length+1=N:=by
          have h1:=HNX.out
          simp only [List.length_append,List.length_take,List.length_drop,List.length_singleton]
          omega
         have HB9:Hid ((cur.take i++ [(x.1,none,s_ n x.2.2 z.1 z.2.2)]++cur.drop (i+2)).length<=5000/\(gs++(G++(x.2.1.toList++z.2.1.toList))).length+2*(cur.take i++ [(x.1,none,s_ n x.2.2 z.1 z.2.2)]++cur.drop (i+2)).length<=50000):=hi_ (by
          have h1:=HB.out
          have h2:(x.2.1.toList++z.2.1.toList).length<=2:=by cases x.2.1 <;> cases z.2.1 <;> simp
          simp only [List.length_append] at h1 h2 ⊢
          simp only [List.length_append] at hcl
          omega)
         obtain⟨p7,c7,hv7,_⟩:=how7.rd.len_eq
         have hsl:cZ_ v7+1=N:=by rw [hv7];exact hxl
         refine nk hK ?_
         clear hK how7 hE7 hn7 hE9 ht9 HT4 HNC4 HNE HOA HO6 HE6 HF5 HGC HB HGJ3 hv7 hcl hxl
         refine PUq 15 ?_;(try go_frame);(try simp only [zA,zB,zC,zD,zE])
         refine c_ (by kernel_rfl) ?_ _
         go_wp2_with fail
         go_roundw
         case rel=> exact⟨i,_,_,_,v2,rfl,HI3,HT9,HG9,HB9⟩
         case measure=> (show cZ_ v7 - ((i:Int)).toNat < N - ((i:Int)).toNat);omega
        ·(try simp only [Act.put,zA,zB,zC,List.setIfInBounds_toArray,zD,zE]);refine iw rfl ?_
         go_simp
         have hEa:Ext [] wr (wr.alloc (.cells #[.int .i64 0,.int .i64 0,.int .i64 0,.string ⟨#[]⟩,.pointer (some ⟨nc,0,none⟩),.string ⟨x.1.toArray⟩] 184)).drew:=((Ext.refl [] wr).alloc _).drew
         have hoa:=(cl_ wr nc x.1).ext0 ((Ext.refl [] _).drew)
         refine nk hK ?_
         clear hK
         refine a_ (i:=1) (by kernel_rfl) rfl (fun K hK=> ?_)
         (try simp only [Act.put,zA,zB,zC,List.setIfInBounds_toArray,zD,zE]);refine iw rfl ?_
         go_simp
         refine(cv_ _ xs' _ (by rw [<-HNX.out];omega) (HT4.out.ow.rd.ext0 hEa)).mono ?_
         rintro e W5 ⟨u5,rfl,how5,hE5,hf5, -⟩
         obtain⟨p5,c5,rfl,_⟩:=how5.rd.len_eq
         rw [<-HNX.out] at how5 hf5 ⊢
         have HO6:=hi_ how5
         have HOA:=hi_ (hoa.ext0 hE5)
         have HE6:=hi_ (hEa.trans hE5)
         have HF5:Hid (∀b∈blkL (.slice p5 N c5),wr.heap.size<=b):=hi_ (fun b hb=> Nat.le_trans hEa.size (hf5 b hb))
         have HNE:Hid (∀b∈blkL (.slice (some ⟨wr.heap.size,0,none⟩) 1 1),b∉blkL (.slice p5 N c5)):=hi_ (fun b hb hb2=> by
          simp [blkL] at hb
          have h1:=hf5 b hb2
          have h2:wr.heap.size+1<=(wr.alloc (.cells #[.int .i64 0,.int .i64 0,.int .i64 0,.string ⟨#[]⟩,.pointer (some ⟨nc,0,none⟩),.string ⟨x.1.toArray⟩] 184)).drew.heap.size:=by simp
          omega)
         refine hK.out _ _ (fun _=> hE5.cell (hEa.cell m5 (by simp)) (by simp)) (fun _=> ?_)
         clear hK hS hoa hE5 hEa how5 hf5
         refine a_ (i:=14) (by kernel_rfl) rfl (fun K hK=> ?_)
         (try simp only [Act.put,zA,zB,zC,List.setIfInBounds_toArray,zD,zE]);refine iw rfl ?_
         go_simp
         refine(bM_ (.slice p5 N c5) (.slice (some ⟨wr.heap.size,0,none⟩) 1 1) xs' ((P0,some nc),x.1) i _ HO6.out HOA.out HNE.out hi2 (by rw [<-HNX.out];omega)).mono ?_
         rintro e W7 ⟨v7,rfl,how7,hE7,hn7⟩
         have hE9:Ext [] wr W7:=HE6.out.trans' hE7 (by simp) (fun b hb=> .inr (HF5.out b hb))
         have ht9:=HT4.out.ext0 hE9
         have HT9:Hid (TidS y v v2 L cb (gs++(G++(x.2.1.toList++z.2.1.toList))) n v7 (xs'.take i++ [((P0,some nc),x.1)]++xs'.drop (i+2)) (cur.take i++ [(x.1,none,s_ n x.2.2 z.1 z.2.2)]++cur.drop (i+2)) w W7):=hi_ ⟨ht9.cs,how7,((ht9.pcs.take i).append (PcsR.one (n:=n) (N:=NodeR W7 n) (y:=((P0,some nc),x.1)) (x:=(x.1,none,s_ n x.2.2 z.1 z.2.2)) ⟨nc,rfl,HNC4.out.ext0 hE9⟩ rfl)).append (ht9.pcs.drop (i+2)),ht9.same,ht9.cf⟩
         have HG9:Hid (∀k∈cur.take i++ [(x.1,none,s_ n x.2.2 z.1 z.2.2)]++cur.drop (i+2),GoodPc L n k):=hi_ (fun k hk=> by
          rcases List.mem_append.1 hk with hk | hk
          ·rcases List.mem_append.1 hk with hk | hk
           ·exact HGC.out k (List.mem_of_mem_take hk)
           ·rw [List.mem_singleton.1 hk];exact HGJ3.out
          ·exact HGC.out k (List.mem_of_mem_drop hk))
         have hcl:(cur.take i++ [(x.1,none,s_ n x.2.2 z.1 z.2.2)]++cur.drop (i+2)).length+1=cur.length:=by
          have h1:=HN.out
          simp only [List.length_append,List.length_take,List.length_drop,List.length_singleton]
          omega
         have hxl:(xs'.take i++ [((P0,some nc),x.1)]++xs'.drop (i+2)).length+1=N:=by
          have h1:=HNX.out
          simp only [List.length_append,List.length_take,List.length_drop,List.length_singleton]
          omega
         have HB9:Hid ((cur.take i++ [(x.1,none,s_ n x.2.2 z.1 z.2.2)]++cur.drop (i+2)).length<=5000/\(gs++(G++(x.2.1.toList++z.2.1.toList))).length+2*(cur.take i++ [(x.1,none,s_ n x.2.2 z.1 z.2.2)]++cur.drop (i+2)).length<=50000):=hi_ (by
          have h1:=HB.out
          have h2:(x.2.1.toList++z.2.1.toList).length<=2:=by cases x.2.1 <;> cases z.2.1 <;> simp
          simp only [List.length_append] at h1 h2 ⊢
          simp only [List.length_append] at hcl
          omega)
         obtain⟨p7,c7,hv7,_⟩:=how7.rd.len_eq
         have hsl:cZ_ v7+1=N:=by rw [hv7];exact hxl
         refine nk hK ?_
         clear hK how7 hE7 hn7 hE9 ht9 HT4 HNC4 HNE HOA HO6 HE6 HF5 HGC HB HGJ3 hv7 hcl hxl
         refine PUq 15 ?_;(try go_frame);(try simp only [zA,zB,zC,zD,zE])
         refine c_ (by kernel_rfl) ?_ _
         go_wp2_with fail
         go_roundw
         case rel=> exact⟨i,_,_,_,v2,rfl,HI3,HT9,HG9,HB9⟩
         case measure=> (show cZ_ v7 - ((i:Int)).toNat < N - ((i:Int)).toNat);omega
   | some a=>
    have HNB:Hid (¬(x.2.1.isSome=true/\z.2.1.isSome=true)):=hi_ (fun h=> by have h1:=HS1.out;rw [h.1] at h1;cases h1)
    go_wp2_with fail
    have hD:=(Ext.refl [] wr).drew
    refine e_ (fun W=> W.cell? ⟨cb,0,none⟩=some (.pointer (some ⟨y.b,0,none⟩))/\W.cell? ⟨g,o+i*6,none⟩=some (.int .i64 X.1.1.1)/\W.cell? ⟨g,o+i*6+1,none⟩=some (.int .i64 X.1.1.2.1)/\W.cell? ⟨g,o+i*6+2,none⟩=some (.int .i64 X.1.1.2.2.1)/\W.cell? ⟨g,o+i*6+3,none⟩=some (.string ⟨X.1.1.2.2.2.toArray⟩)/\W.cell? ⟨g,o+i*6+4,none⟩=some (.pointer (some a))) (fun i=> i==3 || i==8) (by kernel_rfl) ⟨hD.cell c0 (by simp),hD.cell m0 (by simp),hD.cell m1 (by simp),hD.cell m2 (by simp),hD.cell m3 (by simp),hD.cell m4 (by simp)⟩ (fun hS=> ?_)
    refine PUq 0 ?_;(try go_frame)
    refine PUq 1 ?_;(try go_frame)
    refine PUq 2 ?_;(try go_frame)
    refine PUq 4 ?_;(try go_frame)
    refine PUq 5 ?_;(try go_frame)
    refine PUq 6 ?_;(try go_frame)
    refine PUq 7 ?_;(try go_frame)
    refine ta 3 ?_;(try go_frame)
    refine ta 8 ?_;(try go_frame)
    refine a_ (i:=9) (by kernel_rfl) rfl (fun K hK=> ?_)
    (try simp only [Act.put,zA,zB,zC,List.setIfInBounds_toArray,zD,zE]);refine iw rfl ?_
    go_simp
    have ht0:=HT.out.ext0 hD
    refine(HLX.out v' _ ht0.cs (HKX.out.mono (fun b h=> h.ext0 hD))).mono ?_
    rintro e W1 ⟨na,v1,rfl,hna,hcs1,hsm1,hcf1⟩
    have HT1:=hi_ (ht0.step hcs1 hsm1 hcf1)
    have HNA:=hi_ hna
    have HKZ1:Hid (KidR (NodeR W1 n) Z.1 z.2):=hi_ (HKZ.out.mono (fun b h=> NodeR.cf ht0.cs.sy hcf1 _ _ _ (h.ext0 hD)))
    refine nk hK ?_
    clear hK hS ht0 hna hcs1 hsm1 hcf1 hD m0 m1 m2 m3 m4 m5 n0 n1 n2 n3 n4 n5 c0 HT HKX HKZ HLX
    refine PUq 10 ?_;(try go_frame)
    refine PUq 11 ?_;(try go_frame)
    refine PUq 12 ?_;(try go_frame)
    refine PUq 13 ?_;(try go_frame)
    refine PUq 14 ?_;(try go_frame)
    simp only [zA,zB,zC,zD,zE]
    refine c_ (by kernel_rfl) ?_ _
    obtain⟨n0,n1,n2,n3,n4,n5⟩:=bp_ HT1.out.ow.rd (i+1) Z HZZ.out
    have hpz:=HPZ.out
    simp only [ptV] at n4
    rw [<-hpz] at n4
    clear hpz
    have c0:W1.cell? ⟨cb,0,none⟩=some (.pointer (some ⟨y.b,0,none⟩)):=by
     obtain⟨_,_,h,_⟩:=HT1.out.cs.ch.cells
     exact h
    go_wp2_with fail
    have hD:=(Ext.refl [] W1).drew
    refine e_ (fun W=> W.cell? ⟨cb,0,none⟩=some (.pointer (some ⟨y.b,0,none⟩))/\W.cell? ⟨g,o+(i+1)*6,none⟩=some (.int .i64 Z.1.1.1)/\W.cell? ⟨g,o+(i+1)*6+1,none⟩=some (.int .i64 Z.1.1.2.1)/\W.cell? ⟨g,o+(i+1)*6+2,none⟩=some (.int .i64 Z.1.1.2.2.1)/\W.cell? ⟨g,o+(i+1)*6+3,none⟩=some (.string ⟨Z.1.1.2.2.2.toArray⟩)/\W.cell? ⟨g,o+(i+1)*6+4,none⟩=some (.pointer pZ)) (fun i=> i==3 || i==9) (by kernel_rfl) ⟨hD.cell c0 (by simp),hD.cell n0 (by simp),hD.cell n1 (by simp),hD.cell n2 (by simp),hD.cell n3 (by simp),hD.cell n4 (by simp)⟩ (fun hS=> ?_)
    refine PUq 0 ?_;(try go_frame)
    refine PUq 1 ?_;(try go_frame)
    refine PUq 2 ?_;(try go_frame)
    refine PUq 4 ?_;(try go_frame)
    refine PUq 5 ?_;(try go_frame)
    refine PUq 6 ?_;(try go_frame)
    refine PUq 7 ?_;(try go_frame)
    refine PUq 8 ?_;(try go_frame)
    refine ta 3 ?_;(try go_frame)
    refine ta 9 ?_;(try go_frame)
    refine a_ (i:=10) (by kernel_rfl) rfl (fun K hK=> ?_)
    (try simp only [Act.put,zA,zB,zC,List.setIfInBounds_toArray,zD,zE]);refine iw rfl ?_
    go_simp
    have ht0:=HT1.out.ext0 hD
    refine(HLZ.out v1 _ ht0.cs (HKZ1.out.mono (fun b h=> h.ext0 hD))).mono ?_
    rintro e W2 ⟨nb,v2,rfl,hnb,hcs2,hsm2,hcf2⟩
    have HT2:=hi_ (ht0.step hcs2 hsm2 hcf2)
    have HNB2:=hi_ hnb
    have HNA2:=hi_ (NodeR.cf ht0.cs.sy hcf2 _ _ _ (HNA.out.ext0 hD))
    refine nk hK ?_
    clear hK hS ht0 hnb hcs2 hsm2 hcf2 hD n0 n1 n2 n3 n4 n5 c0 HT1 HNA HKZ1 HLZ
    refine PUq 11 ?_;(try go_frame)
    simp only [zA,zB,zC,zD,zE]
    refine PUq 12 ?_;(try go_frame)
    simp only [zA,zB,zC,zD,zE]
    refine PUq 13 ?_;(try go_frame)
    simp only [zA,zB,zC,zD,zE]
    refine PUq 14 ?_;(try go_frame)
    simp only [zA,zB,zC,zD,zE]
    refine PUq 15 ?_;(try go_frame)
    simp only [zA,zB,zC,zD,zE]
    refine c_ (by kernel_rfl) ?_ _
    obtain⟨-, -, -, -, -,n5⟩:=bp_ HT2.out.ow.rd (i+1) Z HZZ.out
    rw [HZK.out] at n5
    go_wp2_with fail
    have hgj:=HGX.out.good.join HGZ.out.good HGZ.out.key (S_ HGX.out.sz) (S_ HGZ.out.sz)
    refine(hh_ n na nb x.2.2 z.2.2 z.1 W2 HNA2.out HNB2.out hgj HGX.out.ne HGZ.out.ne).mono ?_
    rintro e W3 ⟨nc,rfl,hnc,hE3⟩
    have HT3:=hi_ (HT2.out.ext0 hE3)
    have HNC:=hi_ hnc
    obtain⟨f,hf⟩: ∃f,f=fitF n (s_ n x.2.2 z.1 z.2.2):=⟨_,rfl⟩
    rw [<-hf]
    have HF:=hi_ hf
    clear hgj hnc hE3 HT2 HNA2 HNB2 n5 hf
    cases f with
    | false=>
     have HI2:=hi_ (HI.out.skip HX.out HZ.out (.inr (fun h=> by have h1:=HF.out;simp [fitF,h] at h1)))
     go_wp2_with fail
     go_roundw
     case rel=> exact⟨i+1,cur,G,xs',v2,by go_num,HI2,HT3,HGC,HB⟩
     case measure=> simp [intOf,cZ_];omega
    | true=>
     have hsz:szF n (s_ n x.2.2 z.1 z.2.2)<=1024:=by have h1:=HF.out;simpa [fitF] using h1.symm
     have HSZ:=hi_ hsz
     clear hsz HF
     have w4:IntKind.i64.wrap ((i:Int)+2)=(i:Int)+2:=IntWalk.i64_in _ (by omega)
     have w5:((i:Int)+2).toNat=i+2:=by omega
     have w6:(0:Int)<=(i:Int)+2:=by omega
     have w7:(i:Int)<=(i:Int)+2:=by omega
     have w8:(i:Int)+2<=(c':Int):=by omega
     have w9: ¬c'=i:=by omega
     have w10:i+2 - i=2:=by omega
     have w11:((i:Int)+2 - (i:Int)).toNat=2:=by omega
     have GF:Hid (∀j k,([x,z]:List (Pc n))[j]? =some k->cur[i+j]? =some k/\(([x,z]:List (Pc n)).take (j+1)).flatMap (fun k=> k.2.1.toList)=(([x,z]:List (Pc n)).take j).flatMap (fun k=> k.2.1.toList)++k.2.1.toList):=hi_ (fun j k hk=> by
      match j,hk with
      | 0,hk=> simp at hk;subst hk;exact⟨HX.out,by simp⟩
      | 1,hk=> simp at hk;subst hk;exact⟨HZ.out,by simp⟩
      | j+2,hk=> simp at hk)
     go_wp2_with fail
     go_loopw [93] (fun jv wr=> ∃(j:Nat),j<=2/\jv= .int .i64 j/\Hid (TidS y v v2 L cb (gs++G++(([x,z]:List (Pc n)).take j).flatMap (fun k=> k.2.1.toList)) n (.slice (some ⟨g,o,none⟩) N c') xs' cur w wr)/\Hid (NodeR wr n nc (s_ n x.2.2 z.1 z.2.2))) (fun jv _=> 2 - (intOf jv).toNat)
     case atStart=> exact⟨0,by omega,rfl,hi_ (by simpa using HT3.out),HNC⟩
     case round=>
      clear HT3 HNC
      obtain⟨j,hj,rfl,HT4,HNC4⟩:=hrel
      by_cases hj2:j < 2
      ·have v1:(j:Int) < 2:=by omega
       obtain⟨k,hk⟩: ∃k,([x,z]:List (Pc n))[j]? =some k:=⟨_,List.getElem?_eq_getElem (by simpa using hj2)⟩
       obtain⟨hck,hgj⟩:=GF.out j k hk
       obtain⟨Y,hY,hky,hyk⟩:=HT4.out.pcs.at hck
       obtain⟨m0,m1,m2,m3,m4,m5⟩:=bp_ HT4.out.ow.rd (i+j) Y hY
       rw [Nat.add_mul,<-Nat.add_assoc] at m0 m1 m2 m3 m4 m5
       have hs9:=hky.some?
       obtain⟨pY,hpY⟩: ∃q,q=Option.map (fun b=> (⟨b,0,none⟩:Addr)) Y.1.2:=⟨_,rfl⟩
       have hs9:pY.isNone=k.2.1.isSome:=by rw [<-hs9,hpY];cases Y.1.2 <;> rfl
       simp only [ptV] at m4
       rw [<-hpY] at m4
       obtain⟨HGJ,HKY,HS9⟩:=h_3 hgj hky hs9
       have hbx:=heap_alloc_new wr (.cells #[.int .i64 Y.1.1.1,.int .i64 Y.1.1.2.1,.int .i64 Y.1.1.2.2.1,.string ⟨Y.1.1.2.2.2.toArray⟩,.pointer pY,.string ⟨Y.2.toArray⟩] 184)
       have hEx:Ext [] wr (wr.alloc (.cells #[.int .i64 Y.1.1.1,.int .i64 Y.1.1.2.1,.int .i64 Y.1.1.2.2.1,.string ⟨Y.1.1.2.2.2.toArray⟩,.pointer pY,.string ⟨Y.2.toArray⟩] 184)):=(Ext.refl [] wr).alloc _
       have HT5:=hi_ (HT4.out.ext0 hEx)
       have HNC5:=hi_ (HNC4.out.ext0 hEx)
       have HBX:=hi_ hbx
       obtain⟨bx,hbxe⟩: ∃b,b=wr.heap.size:=⟨_,rfl⟩
       clear hbx hEx HT4 HNC4 hs9 hky hgj hck hk hY hyk hpY
       cases pY with
       | some a9=>
        have h9:k.2.1=none:=by have h1:=HS9.out;cases hk1:k.2.1 with
         | none=> rfl
         | some q=> rw [hk1] at h1;cases h1
        have hg9:=HGJ.out
        rw [h9] at hg9
        simp only [Option.toList_none,List.append_nil] at hg9
        rw [<-hg9] at HT5
        clear hg9 h9 hbxe HBX
        go_wp2_with fail
        go_roundw
        case rel=> exact⟨j+1,by omega,by go_num,HT5,HNC5⟩
        case measure=> simp [intOf];omega
       | none=>
        obtain⟨q,hq⟩: ∃q,k.2.1=some q:=by
         have h1:=HS9.out
         cases hk1:k.2.1 with
         | none=> rw [hk1] at h1;cases h1
         | some q=> exact⟨q,rfl⟩
        have hYq:Y.1=(q,none):=by
         have h1:=HKY.out
         unfold KidR at h1
         simp only [hq] at h1
         exact h1
        have hg9:=HGJ.out
        rw [hq] at hg9
        simp only [Option.toList_some] at hg9
        obtain⟨gj,hgj⟩: ∃l,l=gs++G++(([x,z]:List (Pc n)).take j).flatMap (fun k=> k.2.1.toList):=⟨_,rfl⟩
        rw [<-hgj] at HT5
        have HGJ2:Hid (gs++G++(([x,z]:List (Pc n)).take (j+1)).flatMap (fun k=> k.2.1.toList)=gj++ [q]):=hi_ (by rw [hg9,hgj];simp [List.append_assoc])
        have hgl9:gj.length<=60000:=by
         have h1:=HB.out.2
         have h2:((([x,z]:List (Pc n)).take j).flatMap (fun k=> k.2.1.toList)).length<=2:=by
          match j,hj2 with
          | 0,_=> simp
          | 1,_=> simp;cases x.2.1 <;> simp
         rw [hgj,List.length_append];omega
        rw [hYq] at HBX m0 m1 m2 m3 HT5 HNC5
        simp only [] at HBX m0 m1 m2 m3
        clear hq hYq hg9 hgj HGJ HS9 HKY
        go_wp2_with fail
        try rw [<-hbxe] at HBX
        try simp only [<-hbxe]
        clear hbxe
        revert HT5 HNC5 HBX
        generalize World.alloc _ _=W5
        intro HNC5 HBX HT5
        obtain⟨p5,c5, -,k1,kb,kow,kge⟩:=HT5.out.cs.ch.cells
        obtain⟨HKB,HKO,HKG⟩:=h_3 kb kow kge
        have x0:W5.cell? ⟨bx,0,none⟩=some (.int .i64 q.1):=by rw [cell_of_row _ bx 0 _ _ _ HBX.out];rfl
        have x1:W5.cell? ⟨bx,1,none⟩=some (.int .i64 q.2.1):=by rw [cell_of_row _ bx 1 _ _ _ HBX.out];rfl
        have x2:W5.cell? ⟨bx,2,none⟩=some (.int .i64 q.2.2.1):=by rw [cell_of_row _ bx 2 _ _ _ HBX.out];rfl
        have x3:W5.cell? ⟨bx,3,none⟩=some (.string ⟨q.2.2.2.toArray⟩):=by rw [cell_of_row _ bx 3 _ _ _ HBX.out];rfl
        clear kb kow kge m0 m1 m2 m3 m4 m5
        have hD:=(Ext.refl [] W5).drew
        refine e_ (fun W=> W.cell? ⟨cb,1,none⟩=some (.slice p5 gj.length c5)/\W.cell? ⟨bx,0,none⟩=some (.int .i64 q.1)/\W.cell? ⟨bx,1,none⟩=some (.int .i64 q.2.1)/\W.cell? ⟨bx,2,none⟩=some (.int .i64 q.2.2.1)/\W.cell? ⟨bx,3,none⟩=some (.string ⟨q.2.2.2.toArray⟩)) (fun i=> i==4 || i==7 || i==8) (by kernel_rfl) ⟨hD.cell k1 (by simp),hD.cell x0 (by simp),hD.cell x1 (by simp),hD.cell x2 (by simp),hD.cell x3 (by simp)⟩ (fun hS=> ?_)
        refine PUq 0 ?_;(try go_frame)
        refine PUq 1 ?_;(try go_frame)
        refine PUq 2 ?_;(try go_frame)
        refine PUq 3 ?_;(try go_frame)
        refine PUq 5 ?_;(try go_frame)
        refine PUq 6 ?_;(try go_frame)
        refine ta 4 ?_;(try go_frame)
        refine ta 7 ?_;(try go_frame)
        refine a_ (i:=8) (by kernel_rfl) rfl (fun K hK=> ?_)
        (try simp only [Act.put,zA,zB,zC,List.setIfInBounds_toArray,zD,zE]);refine iw rfl ?_
        go_simp
        have hE7:Ext [] W5 (W5.alloc (.cells #[.int .i64 q.1,.int .i64 q.2.1,.int .i64 q.2.2.1,.string ⟨q.2.2.2.toArray⟩] 34)).drew:=((Ext.refl [] W5).alloc _).drew
        have hrd7:=(eQ_ (T:=34) W5 q).drew
        refine hK.out _ _ (fun _=> ⟨hE7.cell k1 (by simp),hE7.cell x0 (by simp),hE7.cell x1 (by simp),hE7.cell x2 (by simp),hE7.cell x3 (by simp)⟩) (fun _=> ?_)
        obtain⟨HE7,HRD7⟩:=h_2 hE7 hrd7
        clear hK hS x0 x1 x2 x3 hE7 hrd7 hD k1
        revert HE7 HRD7
        generalize World.drew _=W7
        intro HE7 HRD7
        refine a_ (i:=9) (by kernel_rfl) rfl (fun K hK=> ?_)
        (try simp only [Act.put,zA,zB,zC,List.setIfInBounds_toArray,zD,zE]);refine iw rfl ?_
        refine b_ (s:= .tmp 105) (x:= .tmp 109) (E:=EP) (T:=34) (zero:=(0,0,0,[])) (bytes:=40) (v:= .slice p5 gj.length c5) (xs:=gj) (ys:= [q]) tiEP Tryz.underlying38 Tryz.underlying38 rfl rfl rfl (HKO.out.ext0 HE7.out) HRD7.out (by simp;omega) (by simp;omega) ?_
        intro v8 w8 how hext hnear _
        obtain⟨p8,c8,hv8,_⟩:=how.rd.len_eq
        subst hv8
        have hb7:=HE7.out.blk HKB.out (by simp)
        have ht7:=HT5.out.ext0 HE7.out
        obtain⟨hcs9,hcf9⟩:=ht7.cs.more hb7 (HKO.out.ext0 HE7.out) HKG.out how hext hnear
        have hl1:(gj++ [q]).length=gj.length+1:=by simp
        rw [hl1] at hcs9 hcf9
        have ht9:=ht7.step hcs9 (SameV.refl _) hcf9
        rw [<-HGJ2.out] at ht9
        have HT9:=hi_ ht9
        have HNC9:=hi_ (NodeR.cf ht7.cs.sy hcf9 _ _ _ (HNC5.out.ext0 HE7.out))
        have hb8:=hext.blk hb7 (fun hm=> (HKO.out.ext0 HE7.out).ne hb7 (by decide) cb hm rfl)
        have hfz8: ∀z,w8.frozen? ⟨cb,z,none⟩=false:=fun z=> frozen_of_row _ _ _ _ _ hb8
        have c18:w8.cell? ⟨cb,1,none⟩=some (.slice p5 gj.length c5):=by rw [cell_of_row w8 cb 1 _ _ _ hb8];rfl
        refine nk hK ?_
        clear hK how hext hnear hb7 hcs9 hcf9 ht7 ht9 hl1 hb8 HE7 HRD7 HKB HKO HKG HT5 HNC5 HBX
        refine PUq 10 ?_;(try go_frame)
        simp only [zA,zB,zC,zD,zE]
        refine PUq 11 ?_;(try go_frame)
        simp only [zA,zB,zC,zD,zE]
        refine a_ (i:=12) (by kernel_rfl) rfl (fun K hK=> ?_)
        refine iw rfl ?_
        go_simp
        refine nk hK ?_
        refine c_ (by kernel_rfl) ?_ _
        clear hK hfz8 c18
        revert HT9 HNC9
        generalize World.setCell _ _ _=W9
        intro HT9 HNC9
        go_wp2_with fail
        go_roundw
        case rel=> exact⟨j+1,by omega,by go_num,HT9,HNC9⟩
        case measure=> simp [intOf];omega
      ·have v1: ¬((j:Int) < 2):=by omega
       have hj3:j=2:=by omega
       have hg2:(([x,z]:List (Pc n)).take j).flatMap (fun k=> k.2.1.toList)=x.2.1.toList++z.2.1.toList:=by rw [hj3];simp
       rw [hg2,List.append_assoc] at HT4
       obtain⟨-, -, -, -, -,m5⟩:=bp_ HT4.out.ow.rd i X HXX.out
       have hi2:i+2<=xs'.length:=by rw [<-HNX.out];omega
       have HI3:=hi_ (HI.out.join HX.out HZ.out HNB.out HSZ.out)
       have HGJ3:=hi_ (HGX.out.join HGZ.out HSZ.out)
       clear hg2 hj3 GF
       rw [HXK.out] at m5
       have hD:=(Ext.refl [] wr).drew
       have HBS:Hid (cur.length<=5000):=hi_ HB.out.1
       go_wp2_with fail
       refine e_ (fun W=> W.cell? ⟨g,o+i*6+5,none⟩=some (.string ⟨x.1.toArray⟩)) (fun k=> k==1 || k==11) (by kernel_rfl) (hD.cell m5 (by simp)) (fun hS=> ?_)
       refine PUq 0 ?_;(try go_frame);refine PUq 2 ?_;(try go_frame);refine PUq 3 ?_;(try go_frame);refine PUq 4 ?_;(try go_frame);refine PUq 5 ?_;(try go_frame);refine PUq 6 ?_;(try go_frame);(try simp only [zA,zB,zC,zD,zE]);refine PUq 7 ?_;(try go_frame);(try simp only [zA,zB,zC,zD,zE]);refine PUq 8 ?_;(try go_frame);(try simp only [zA,zB,zC,zD,zE]);refine PUq 9 ?_;(try go_frame);(try simp only [zA,zB,zC,zD,zE]);refine PUq 10 ?_;(try go_frame);(try simp only [zA,zB,zC,zD,zE])
       refine ta 11 ?_;(try go_frame);(try simp only [zA,zB,zC,zD,zE])
       refine PUq 12 ?_;(try go_frame);(try simp only [zA,zB,zC,zD,zE])
       refine an_ (i:=1) (j:=13) (by kernel_rfl) rfl rfl (fun K hK=> ?_) (fun K hK=> ?_)
       ·(try simp only [Act.put,zA,zB,zC,List.setIfInBounds_toArray,zD,zE]);refine iw rfl ?_
        go_simp
        refine(cv_ _ xs' _ (by rw [<-HNX.out];omega) (HT4.out.ow.rd.ext0 hD)).mono ?_
        rintro e W5 ⟨u5,rfl,how5,hE5,hf5, -⟩
        obtain⟨p5,c5,rfl,_⟩:=how5.rd.len_eq
        rw [<-HNX.out] at how5 hf5 ⊢
        have HO5:=hi_ how5
        have HF5:Hid (∀b∈blkL (.slice p5 N c5),wr.heap.size<=b):=hi_ (fun b hb=> Nat.le_trans hD.size (hf5 b hb))
        refine hK.out _ _ (fun _=> hE5.cell hS (by simp)) (fun _=> ?_)
        clear hK hS how5 hf5
        refine a_ (i:=13) (by kernel_rfl) rfl (fun K hK=> ?_)
        (try simp only [Act.put,zA,zB,zC,List.setIfInBounds_toArray,zD,zE]);refine iw rfl ?_
        go_simp
        have hEa:Ext [] W5 (W5.alloc (.cells #[.int .i64 0,.int .i64 0,.int .i64 0,.string ⟨#[]⟩,.pointer (some ⟨nc,0,none⟩),.string ⟨x.1.toArray⟩] 184)):=(Ext.refl [] W5).alloc _
        have hoa:=cl_ W5 nc x.1
        have HOA:=hi_ hoa
        have HO6:=hi_ (HO5.out.ext0 hEa)
        have HE6:=hi_ ((hD.trans hE5).trans hEa)
        have HNE:Hid (∀b∈blkL (.slice (some ⟨W5.heap.size,0,none⟩) 1 1),b∉blkL (.slice p5 N c5)):=hi_ (fun b hb hb2=> by
         simp [blkL] at hb
         have:=HO5.out.lt b hb2
         omega)
        refine nk hK ?_
        clear hK hoa hE5 hEa HO5
        refine a_ (i:=14) (by kernel_rfl) rfl (fun K hK=> ?_)
        (try simp only [Act.put,zA,zB,zC,List.setIfInBounds_toArray,zD,zE]);refine iw rfl ?_
        go_simp
        refine(bM_ (.slice p5 N c5) (.slice (some ⟨W5.heap.size,0,none⟩) 1 1) xs' ((P0,some nc),x.1) i _ HO6.out HOA.out HNE.out hi2 (by rw [<-HNX.out];omega)).mono ?_
        rintro e W7 ⟨v7,rfl,how7,hE7,hn7⟩
        have hE9:Ext [] wr W7:=HE6.out.trans' hE7 (by simp) (fun b hb=> .inr (HF5.out b hb))
        have ht9:=HT4.out.ext0 hE9
        have HT9:Hid (TidS y v v2 L cb (gs++(G++(x.2.1.toList++z.2.1.toList))) n v7 (xs'.take i++ [((P0,some nc),x.1)]++xs'.drop (i+2)) (cur.take i++ [(x.1,none,s_ n x.2.2 z.1 z.2.2)]++cur.drop (i+2)) w W7):=hi_ ⟨ht9.cs,how7,((ht9.pcs.take i).append (PcsR.one (n:=n) (N:=NodeR W7 n) (y:=((P0,some nc),x.1)) (x:=(x.1,none,s_ n x.2.2 z.1 z.2.2)) ⟨nc,rfl,HNC4.out.ext0 hE9⟩ rfl)).append (ht9.pcs.drop (i+2)),ht9.same,ht9.cf⟩
        have HG9:Hid (∀k∈cur.take i++ [(x.1,none,s_ n x.2.2 z.1 z.2.2)]++cur.drop (i+2),GoodPc L n k):=hi_ (fun k hk=> by
         rcases List.mem_append.1 hk with hk | hk
         ·rcases List.mem_append.1 hk with hk | hk
          ·exact HGC.out k (List.mem_of_mem_take hk)
          ·rw [List.mem_singleton.1 hk];exact HGJ3.out
         ·exact HGC.out k (List.mem_of_mem_drop hk))
        have hcl:(cur.take i++ [(x.1,none,s_ n x.2.2 z.1 z.2.2)]++cur.drop (i+2)).length+1=cur.length:=by
         have h1:=HN.out
         simp only [List.length_append,List.length_take,List.length_drop,List.length_singleton]
         omega
        have hxl:(xs'.take i++ [((P0,some nc),x.1)]++xs'.drop (i+2)).length+1=N:=by
         have h1:=HNX.out
         simp only [List.length_append,List.length_take,List.length_drop,List.length_singleton]
         omega
        have HB9:Hid ((cur.take i++ [(x.1,none,s_ n x.2.2 z.1 z.2.2)]++cur.drop (i+2)).length<=5000/\(gs++(G++(x.2.1.toList++z.2.1.toList))).length+2*(cur.take i++ [(x.1,none,s_ n x.2.2 z.1 z.2.2)]++cur.drop (i+2)).length<=50000):=hi_ (by
         have h1:=HB.out
         have h2:(x.2.1.toList++z.2.1.toList).length<=2:=by cases x.2.1 <;> cases z.2.1 <;> simp
         simp only [List.length_append] at h1 h2 ⊢
         simp only [List.length_append] at hcl
         omega)
        obtain⟨p7,c7,hv7,_⟩:=how7.rd.len_eq
        have hsl:cZ_ v7+1=N:=by rw [hv7];exact hxl
        refine nk hK ?_
        clear hK how7 hE7 hn7 hE9 ht9 HT4 HNC4 HNE HOA HO6 HE6 HF5 HGC HB HGJ3 hv7 hcl hxl
        refine PUq 15 ?_;(try go_frame);(try simp only [zA,zB,zC,zD,zE])
        refine c_ (by kernel_rfl) ?_ _
        go_wp2_with fail
        go_roundw
        case rel=> exact⟨i,_,_,_,v2,rfl,HI3,HT9,HG9,HB9⟩
        case measure=> (show cZ_ v7 - ((i:Int)).toNat < N - ((i:Int)).toNat);omega
       ·(try simp only [Act.put,zA,zB,zC,List.setIfInBounds_toArray,zD,zE]);refine iw rfl ?_
        go_simp
        have hEa:Ext [] wr (wr.alloc (.cells #[.int .i64 0,.int .i64 0,.int .i64 0,.string ⟨#[]⟩,.pointer (some ⟨nc,0,none⟩),.string ⟨x.1.toArray⟩] 184)).drew:=((Ext.refl [] wr).alloc _).drew
        have hoa:=(cl_ wr nc x.1).ext0 ((Ext.refl [] _).drew)
        refine nk hK ?_
        clear hK
        refine a_ (i:=1) (by kernel_rfl) rfl (fun K hK=> ?_)
        (try simp only [Act.put,zA,zB,zC,List.setIfInBounds_toArray,zD,zE]);refine iw rfl ?_
        go_simp
        refine(cv_ _ xs' _ (by rw [<-HNX.out];omega) (HT4.out.ow.rd.ext0 hEa)).mono ?_
        rintro e W5 ⟨u5,rfl,how5,hE5,hf5, -⟩
        obtain⟨p5,c5,rfl,_⟩:=how5.rd.len_eq
        rw [<-HNX.out] at how5 hf5 ⊢
        have HO6:=hi_ how5
        have HOA:=hi_ (hoa.ext0 hE5)
        have HE6:=hi_ (hEa.trans hE5)
        have HF5:Hid (∀b∈blkL (.slice p5 N c5),wr.heap.size<=b):=hi_ (fun b hb=> Nat.le_trans hEa.size (hf5 b hb))
        have HNE:Hid (∀b∈blkL (.slice (some ⟨wr.heap.size,0,none⟩) 1 1),b∉blkL (.slice p5 N c5)):=hi_ (fun b hb hb2=> by
         simp [blkL] at hb
         have h1:=hf5 b hb2
         have h2:wr.heap.size+1<=(wr.alloc (.cells #[.int .i64 0,.int .i64 0,.int .i64 0,.string ⟨#[]⟩,.pointer (some ⟨nc,0,none⟩),.string ⟨x.1.toArray⟩] 184)).drew.heap.size:=by simp
         omega)
        refine hK.out _ _ (fun _=> hE5.cell (hEa.cell m5 (by simp)) (by simp)) (fun _=> ?_)
        clear hK hS hoa hE5 hEa how5 hf5
        refine a_ (i:=14) (by kernel_rfl) rfl (fun K hK=> ?_)
        (try simp only [Act.put,zA,zB,zC,List.setIfInBounds_toArray,zD,zE]);refine iw rfl ?_
        go_simp
        refine(bM_ (.slice p5 N c5) (.slice (some ⟨wr.heap.size,0,none⟩) 1 1) xs' ((P0,some nc),x.1) i _ HO6.out HOA.out HNE.out hi2 (by rw [<-HNX.out];omega)).mono ?_
        rintro e W7 ⟨v7,rfl,how7,hE7,hn7⟩
        have hE9:Ext [] wr W7:=HE6.out.trans' hE7 (by simp) (fun b hb=> .inr (HF5.out b hb))
        have ht9:=HT4.out.ext0 hE9
        have HT9:Hid (TidS y v v2 L cb (gs++(G++(x.2.1.toList++z.2.1.toList))) n v7 (xs'.take i++ [((P0,some nc),x.1)]++xs'.drop (i+2)) (cur.take i++ [(x.1,none,s_ n x.2.2 z.1 z.2.2)]++cur.drop (i+2)) w W7):=hi_ ⟨ht9.cs,how7,((ht9.pcs.take i).append (PcsR.one (n:=n) (N:=NodeR W7 n) (y:=((P0,some nc),x.1)) (x:=(x.1,none,s_ n x.2.2 z.1 z.2.2)) ⟨nc,rfl,HNC4.out.ext0 hE9⟩ rfl)).append (ht9.pcs.drop (i+2)),ht9.same,ht9.cf⟩
        have HG9:Hid (∀k∈cur.take i++ [(x.1,none,s_ n x.2.2 z.1 z.2.2)]++cur.drop (i+2),GoodPc L n k):=hi_ (fun k hk=> by
         rcases List.mem_append.1 hk with hk | hk
         ·rcases List.mem_append.1 hk with hk | hk
          ·exact HGC.out k (List.mem_of_mem_take hk)
          ·rw [List.mem_singleton.1 hk];exact HGJ3.out
         ·exact HGC.out k (List.mem_of_mem_drop hk))
        have hcl:(cur.take i++ [(x.1,none,s_ n x.2.2 z.1 z.2.2)]++cur.drop (i+2)).length+1=cur.length:=by
         have h1:=HN.out
         simp only [List.length_append,List.length_take,List.length_drop,List.length_singleton]
         omega
        have hxl:(xs'.take i++ [((P0,some nc),x.1)]++xs'.drop (i+2)).length+1=N:=by
         have h1:=HNX.out
         simp only [List.length_append,List.length_take,List.length_drop,List.length_singleton]
         omega
        have HB9:Hid ((cur.take i++ [(x.1,none,s_ n x.2.2 z.1 z.2.2)]++cur.drop (i+2)).length<=5000/\(gs++(G++(x.2.1.toList++z.2.1.toList))).length+2*(cur.take i++ [(x.1,none,s_ n x.2.2 z.1 z.2.2)]++cur.drop (i+2)).length<=50000):=hi_ (by
         have h1:=HB.out
         have h2:(x.2.1.toList++z.2.1.toList).length<=2:=by cases x.2.1 <;> cases z.2.1 <;> simp
         simp only [List.length_append] at h1 h2 ⊢
         simp only [List.length_append] at hcl
         omega)
        obtain⟨p7,c7,hv7,_⟩:=how7.rd.len_eq
        have hsl:cZ_ v7+1=N:=by rw [hv7];exact hxl
        refine nk hK ?_
        clear hK how7 hE7 hn7 hE9 ht9 HT4 HNC4 HNE HOA HO6 HE6 HF5 HGC HB HGJ3 hv7 hcl hxl
        refine PUq 15 ?_;(try go_frame);(try simp only [zA,zB,zC,zD,zE])
        refine c_ (by kernel_rfl) ?_ _
        go_wp2_with fail
        go_roundw
        case rel=> exact⟨i,_,_,_,v2,rfl,HI3,HT9,HG9,HB9⟩
        case measure=> (show cZ_ v7 - ((i:Int)).toNat < N - ((i:Int)).toNat);omega
  ·have z1: ¬((i:Int)+1 < (N:Int)):=by omega
   have hd:=HI.out.done (by rw [<-HN.out];omega)
   have HD:=hi_ hd
   clear hd
   go_wp2
   go_ret2
   exact⟨_,xs',v',rfl,by rw [HD.out];exact HT.out,by rw [HD.out];exact HGC.out⟩
end Go.Proofs.YtkpgjkekmdecbaaGreat
