/- Lemmas for the claim. No conditions beside those that each states. -/
import Derived.Test.YtkpgjkekmdecbaaGreatOrdAS
import Derived.Test.YtkpgjkekmdecbaaGreatOrdAM
import Derived.Test.YtkpgjkekmdecbaaGreatOrdAQ
import Derived.BigQuiet
set_option maxRecDepth 100000
set_option maxHeartbeats 8000000
set_option linter.all false

namespace Go.Proofs.YtkpgjkekmdecbaaGreat
open Go.RowKit
variable {w W:World} {T:TypeId} {n g b:Nat} {key:Ky} {rs:List Rfm}
def fk_ (n:Nat) (t:List (El n)) (i:Nat) (key:Ky) (w:World) (e:Ending) (w':World):Prop:=
 ∃a c,e= .returned (.tuple #[.pointer (some ⟨a,0,none⟩),.string ⟨key.toArray⟩,.pointer (some ⟨c,0,none⟩)])/\NodeR w' n a (t.take i)/\NodeR w' n c (t.drop i)/\Ext [] w w'
def h0R (t:List Pr) (i:Nat) (key:Ky):Nat->Value->World->Prop
 | 6,v,w=> EPr.Ow 36 w v (t.take i)
 | 7,v,w=> ∃u,v= .agg #[.bool true,u,.slice none 0 0,.slice none 0 0]/\EPr.Ow 36 w u (t.take i)
 | 8,v,w=> ∃a,v= .pointer (some ⟨a,0,none⟩)/\NodeR w 0 a (t.take i)
 | 23,v,w=> EPr.Ow 36 w v (t.drop i)
 | 24,v,w=> ∃u,v= .agg #[.bool true,u,.slice none 0 0,.slice none 0 0]/\EPr.Ow 36 w u (t.drop i)
 | 25,v,w=> ∃a,v= .pointer (some ⟨a,0,none⟩)/\NodeR w 0 a (t.drop i)
 | 26,v,w=> ∃a,v= .pointer (some ⟨a,0,none⟩)/\NodeR w 0 a (t.take i)
 | 27,v,_=> v= .string ⟨key.toArray⟩
 | 28,v,w=> ∃a,v= .pointer (some ⟨a,0,none⟩)/\NodeR w 0 a (t.drop i)
 | _,_,_=> True
theorem h0R_ext (t:List Pr) (i:Nat) (key:Ky): ∀k v w w',h0R t i key k v w->Ext [] w w'->h0R t i key k v w':=by
 intro k v w w' h he
 unfold h0R at h ⊢
 split at h <;> first | exact h.ext0 he | (obtain⟨u,h1,h2⟩:=h;exact⟨u,h1,h2.ext0 he⟩) | exact h | trivial
def h0D:Nat->List Nat
 | 7=> [6]
 | 8=> [7]
 | 24=> [23]
 | 25=> [24]
 | 26=> [8]
 | 28=> [25]
 | _=> []
theorem gB_ (b:Nat) (t:List Pr) (w:World) (h:NodeR w 0 b t) (hl:t.length<=900) (h2:2<=t.length):Calls Tryz.prog 98 #[.pointer (some ⟨b,0,none⟩)] w (fk_ 0 t (cutI 0 (List.length (α:=Pr) t)) (bV_ (n:=0) t (cutI 0 (List.length (α:=Pr) t))) w):=by
 obtain⟨pp,cp,pk,ck,pr,cr,c0,c1, -, -,hps, -, -, -⟩:=NodeB.cells h
 obtain⟨N,hN⟩: ∃N,N=t.length:=⟨_,rfl⟩
 rw [<-hN] at hl h2 c1 hps
 have HN:=hi_ hN
 have hcap:N<=cp:=by
  obtain⟨p,c,he,hc⟩:=hps.rd.len_eq
  simp only [Value.slice.injEq] at he
  rw [<-hN] at hc he
  omega
 obtain⟨i,hi⟩: ∃i,i=(N+1) / 2:=⟨_,rfl⟩
 have hcut:cutI 0 t.length=i:=by rw [hi,cutI,<-hN];rfl
 rw [hcut]
 have y1:IntKind.i64.wrap ((N:Int)+1)=(N:Int)+1:=IntWalk.i64_in _ (by omega)
 have y2:((N:Int)+1).tdiv 2=(i:Int):=by rw [Int.tdiv_eq_ediv_of_nonneg (by omega)];omega
 have y3:IntKind.i64.wrap (i:Int)=(i:Int):=IntWalk.i64_in _ (by omega)
 have hi1:1<=i:=by omega
 have hi2:i < N:=by omega
 obtain⟨g,o,rfl⟩: ∃g o,pp=some ⟨g,o,none⟩:=by
  rcases hps with ⟨h,_⟩ | ⟨g,o,c,_,h,_⟩
  ·simp only [Value.slice.injEq] at h;omega
  ·simp only [Value.slice.injEq] at h;exact⟨g,_,h.1⟩
 obtain⟨m1, -⟩:=aJ_ hps.rd i (by omega)
 obtain⟨key,hkey⟩: ∃k,k=(t.getD i ([],[])).1:=⟨_,rfl⟩
 rw [<-hkey] at m1
 have hke:bV_ (n:=0) t i=key:=(by
  rw [hkey]
  have e:(t:List Pr)[i]? =some t[i]:=List.getElem?_eq_getElem (by omega)
  show (Option.elim (t:List Pr)[i]? [] (fun e=> e.1))=_
  rw [e]
  simp [List.getD,show i < t.length by omega])
 rw [hke]
 have hA:EPr.Rd w (.slice (some ⟨g,o,none⟩) i cp) (t.take i):=hps.rd.takeS (by omega)
 have hB:EPr.Rd w (.slice (if cp=i then some ⟨g,o,none⟩ else some ⟨g,o+i*2,none⟩) (N - i) (cp - i)) (t.drop i):=hps.rd.dropS2
 have hne: ¬cp=i:=by omega
 rw [if_neg hne] at hB
 have HA:=hi_ hA
 have HL:Hid ((t.take i).length=i):=hi_ (by rw [List.length_take];omega)
 have HL2:Hid ((t.drop i).length=N - i):=hi_ (by rw [List.length_drop];omega)
 have HB:=hi_ hB
 have z1:(i:Int)<=(cp:Int):=by omega
 have z2:(i:Int)<=(N:Int):=by omega
 have z3:(i:Int) < (N:Int):=by omega
 clear h hps hN hcut hke hkey hA hB hi
 go_enter Tryz.func98,Tryz.ntmps98
 go_wp2_with fail
 have hD:=(Ext.refl [] w).drew
 refine e_ (fun W=> W.cell? ⟨b,1,none⟩=some (.slice (some ⟨g,o,none⟩) N cp)/\W.cell? ⟨g,o+i*2,none⟩=some (.string ⟨key.toArray⟩)) (fun i=> [3,12,16,20,5,22,14,15,6,7,8,23,24,25,26,27,28].contains i) (by kernel_rfl) ⟨hD.cell c1 (by simp),hD.cell m1 (by simp)⟩ (fun hS=> ?_)
 refine PUq 0 ?_;(try go_frame)
 refine PUq 1 ?_;(try go_frame)
 refine PUq 2 ?_;(try go_frame)
 refine PUq 4 ?_;(try go_frame)
 refine PUq 9 ?_;(try go_frame)
 refine PUq 10 ?_;(try go_frame)
 simp only [zA,zB,zC,zD,zE]
 refine PUq 11 ?_;(try go_frame)
 simp only [zA,zB,zC,zD,zE]
 refine PUq 13 ?_;(try go_frame)
 simp only [zA,zB,zC,zD,zE]
 refine PUq 17 ?_;(try go_frame)
 simp only [zA,zB,zC,zD,zE]
 refine PUq 18 ?_;(try go_frame)
 simp only [zA,zB,zC,zD,zE]
 refine PUq 19 ?_;(try go_frame)
 simp only [zA,zB,zC,zD,zE]
 refine PUq 21 ?_;(try go_frame)
 simp only [zA,zB,zC,zD,zE]
 refine ta 3 ?_;(try go_frame)
 refine ta 12 ?_;(try go_frame)
 simp only [zA,zB,zC,zD,zE]
 refine ta 20 ?_;(try go_frame)
 simp only [zA,zB,zC,zD,zE]
 refine ta 5 ?_;(try go_frame)
 refine ta 22 ?_;(try go_frame)
 simp only [zA,zB,zC,zD,zE]
 refine ta 14 ?_;(try go_frame)
 simp only [zA,zB,zC,zD,zE]
 refine ta 15 ?_;(try go_frame)
 simp only [zA,zB,zC,zD,zE]
 refine ta 16 ?_;(try go_frame)
 simp only [zA,zB,zC,zD,zE]
 refine aA_ (A:= ?A) [(24,6),(25,7),(26,8),(41,23),(42,24),(43,25),(2,26),(3,27),(4,28)] h0D (h0R t i key) (fun W=> W.cell? ⟨b,1,none⟩=some (.slice (some ⟨g,o,none⟩) N cp)/\W.cell? ⟨g,o+i*2,none⟩=some (.string ⟨key.toArray⟩)) 0 (by rfl) (by kernel_rfl) (fun _ h=> h) (fun _ _ h hE=> ⟨hE.cell h.1 (by simp),hE.cell h.2 (by simp)⟩) hS (fun x _=> h0R_ext t i key x.2) ?hA ?_ ?_
 case hA=> intro vals;simp only [putG,putT,List.setIfInBounds_toArray,List.set_cons_zero,List.set_cons_succ];exact rfl
 ·intro x hx o2 ho vals W hE hS2 hd K hK
  simp only [List.mem_cons,List.not_mem_nil,or_false] at hx
  rcases hx with rfl | rfl | rfl | rfl | rfl | rfl | rfl | rfl | rfl
  all_goals (have ho2:some _=some o2:=ho;obtain rfl:=Option.some.inj ho2;clear ho ho2;simp only [Act.put,List.setIfInBounds_toArray,List.set_cons_zero,List.set_cons_succ] at hK)
  ·go_simp
   refine(aZ_ _ (t.take i) _ (by rw [HL.out];omega) (HA.out.ext0 (hD.trans hE))).mono ?_
   rintro e w' ⟨u,rfl,how,hE', -, -⟩
   exact hK.out _ _ hE' how
  ·have h6:EPr.Ow 36 W (vals 6) _:=hd 6 (by simp [h0D])
   obtain⟨p6,c6,hv,_⟩:=h6.rd.len_eq
   rw [HL.out] at hv
   rw [hv] at h6 hK ⊢
   go_simp
   (try simp only [Act.put,List.setIfInBounds_toArray,List.set_cons_zero,List.set_cons_succ])
   exact hK.out _ _ (Ext.refl _ _) ⟨_,rfl,h6⟩
  ·obtain⟨u,hu,how⟩:=hd 7 (by simp [h0D])
   obtain⟨p6,c6,rfl,_⟩:=how.rd.len_eq
   rw [HL.out] at hu how
   rw [hu] at hK ⊢
   go_simp
   (try simp only [Act.put,List.setIfInBounds_toArray,List.set_cons_zero,List.set_cons_succ])
   exact hK.out _ _ ((Ext.refl [] W).alloc _) ⟨_,rfl,_,_,_,heap_alloc_new W _,how.ext0 ((Ext.refl [] W).alloc _),.inl ⟨rfl,rfl⟩,.inl ⟨rfl,rfl⟩⟩
  ·go_simp
   refine(aZ_ _ (t.drop i) _ (by rw [HL2.out];omega) (HB.out.ext0 (hD.trans hE))).mono ?_
   rintro e w' ⟨u,rfl,how,hE', -, -⟩
   exact hK.out _ _ hE' how
  ·have h6:EPr.Ow 36 W (vals 23) _:=hd 23 (by simp [h0D])
   obtain⟨p6,c6,hv,_⟩:=h6.rd.len_eq
   rw [HL2.out] at hv
   rw [hv] at h6 hK ⊢
   go_simp
   (try simp only [Act.put,List.setIfInBounds_toArray,List.set_cons_zero,List.set_cons_succ])
   exact hK.out _ _ (Ext.refl _ _) ⟨_,rfl,h6⟩
  ·obtain⟨u,hu,how⟩:=hd 24 (by simp [h0D])
   obtain⟨p6,c6,rfl,_⟩:=how.rd.len_eq
   rw [HL2.out] at hu how
   rw [hu] at hK ⊢
   go_simp
   (try simp only [Act.put,List.setIfInBounds_toArray,List.set_cons_zero,List.set_cons_succ])
   exact hK.out _ _ ((Ext.refl [] W).alloc _) ⟨_,rfl,_,_,_,heap_alloc_new W _,how.ext0 ((Ext.refl [] W).alloc _),.inl ⟨rfl,rfl⟩,.inl ⟨rfl,rfl⟩⟩
  ·have h8:=hd 8 (by simp [h0D])
   go_simp
   (try simp only [Act.put,List.setIfInBounds_toArray,List.set_cons_zero,List.set_cons_succ])
   exact hK.out _ _ (Ext.refl _ _) h8
  ·go_simp
   (try simp only [Act.put,List.setIfInBounds_toArray,List.set_cons_zero,List.set_cons_succ])
   exact hK.out _ _ (Ext.refl _ _) rfl
  ·have h8:=hd 25 (by simp [h0D])
   go_simp
   (try simp only [Act.put,List.setIfInBounds_toArray,List.set_cons_zero,List.set_cons_succ])
   exact hK.out _ _ (Ext.refl _ _) h8
 ·intro vals W hE hS2 hall
  obtain⟨a1,e1,hn1⟩:=hall (2,26) (by simp)
  have e2:vals 27=_:=hall (3,27) (by simp)
  obtain⟨a3,e3,hn3⟩:=hall (4,28) (by simp)
  obtain⟨HN1,HN3⟩:=h_2 hn1 hn3
  clear hall hn1 hn3
  simp only [] at e1 e2 e3
  rw [e1,e2,e3]
  refine c_ (by kernel_rfl) ?_ _
  go_wp2
  go_ret3
  exact⟨a1,a3,rfl,HN1.out,HN3.out,hD.trans hE⟩
theorem gM_ (t:List (Pc n)) (i:Nat) (hi:1<=i):o_ (t.take i)=(o_ t).take (i - 1):=by
 obtain⟨j,rfl⟩: ∃j,i=j+1:=⟨i - 1,by omega⟩
 cases t with
 | nil=> simp [o_]
 | cons a t=> simp [o_,List.map_take]
theorem gO_ (t:List (Pc n)) (i:Nat):o_ (t.drop i)=(o_ t).drop i:=by
 simp only [o_,List.drop_drop,<-List.map_drop]
 rw [Nat.add_comm]
theorem KidsR.take {N:Nat->List (El n)->Prop} {l:List (Pc n)} (h:KidsR N rs l) (i:Nat):KidsR N (rs.take i) (l.take i):=by
 refine⟨by simp [h.1],fun j y x hy hx=> ?_⟩
 rw [List.getElem?_take] at hy hx
 split at hy
 ·rename_i hj
  rw [if_pos hj] at hx
  exact h.2 j y x hy hx
 ·cases hy
theorem KidsR.drop {N:Nat->List (El n)->Prop} {l:List (Pc n)} (h:KidsR N rs l) (i:Nat):KidsR N (rs.drop i) (l.drop i):=by
 refine⟨by simp [h.1],fun j y x hy hx=> ?_⟩
 rw [List.getElem?_drop] at hy hx
 exact h.2 _ y x hy hx
def h1R (ka kb:List Ky) (ra rb:List Rfm) (key:Ky):Nat->Value->World->Prop
 | 7,v,w=> EKy.Ow 9 w v ka
 | 14,v,w=> ERf.Ow 89 w v ra
 | 15,v,w=> ∃u1 u2,v= .agg #[.bool false,.slice none 0 0,u1,u2]/\EKy.Ow 9 w u1 ka/\ERf.Ow 89 w u2 ra
 | 16,v,w=> ∃a,v= .pointer (some ⟨a,0,none⟩)/\NodeB w a false [] ka ra
 | 31,v,w=> EKy.Ow 9 w v kb
 | 38,v,w=> ERf.Ow 89 w v rb
 | 39,v,w=> ∃u1 u2,v= .agg #[.bool false,.slice none 0 0,u1,u2]/\EKy.Ow 9 w u1 kb/\ERf.Ow 89 w u2 rb
 | 40,v,w=> ∃a,v= .pointer (some ⟨a,0,none⟩)/\NodeB w a false [] kb rb
 | 41,v,w=> ∃a,v= .pointer (some ⟨a,0,none⟩)/\NodeB w a false [] ka ra
 | 42,v,_=> v= .string ⟨key.toArray⟩
 | 43,v,w=> ∃a,v= .pointer (some ⟨a,0,none⟩)/\NodeB w a false [] kb rb
 | _,_,_=> True
theorem h1R_ext (ka kb:List Ky) (ra rb:List Rfm) (key:Ky): ∀k v w w',h1R ka kb ra rb key k v w->Ext [] w w'->h1R ka kb ra rb key k v w':=by
 intro k v w w' h he
 unfold h1R at h ⊢
 split at h <;> first | exact Enc.Ow.ext0 h he | (obtain⟨u,u2,h1,h2,h3⟩:=h;exact⟨u,u2,h1,h2.ext0 he,h3.ext0 he⟩) | (obtain⟨u,h1,h2⟩:=h;exact⟨u,h1,h2.ext0 he⟩) | exact h | trivial
def h1D:Nat->List Nat
 | 15=> [7,14]
 | 16=> [15]
 | 39=> [31,38]
 | 40=> [39]
 | 41=> [16]
 | 43=> [40]
 | _=> []
theorem gA_ (b M i:Nat) (ks ka kb:List Ky) (rs ra rb:List Rfm) (key:Ky) (w:World) (h:NodeB w b false [] ks rs) (hM:rs.length=M) (hkl:ks.length=M - 1) (hl:M<=900) (h2:2<=M) (hi:i=M / 2) (hkey:key=ks.getD (i - 1) []) (hka:ka=ks.take (i - 1)) (hkb:kb=ks.drop i) (hra:ra=rs.take i) (hrb:rb=rs.drop i):
  Calls Tryz.prog 98 #[.pointer (some ⟨b,0,none⟩)] w fun e w'=> ∃a c,e= .returned (.tuple #[.pointer (some ⟨a,0,none⟩),.string ⟨key.toArray⟩,.pointer (some ⟨c,0,none⟩)])/\NodeB w' a false [] ka ra/\NodeB w' c false [] kb rb/\Ext [] w w':=by
 obtain⟨pp,cp,pk,ck,pr,cr,c0,c1,c2,c3, -,hks,hrs, -⟩:=NodeB.cells h
 rw [hM] at c3 hrs
 rw [hkl] at c2 hks
 have hcr:M<=cr:=by
  obtain⟨p,c,he,hc⟩:=hrs.rd.len_eq
  simp only [Value.slice.injEq] at he
  omega
 have hck:M - 1<=ck:=by
  obtain⟨p,c,he,hc⟩:=hks.rd.len_eq
  simp only [Value.slice.injEq] at he
  omega
 have y2:(M:Int).tdiv 2=(i:Int):=by rw [Int.tdiv_eq_ediv_of_nonneg (by omega)];omega
 have y3:IntKind.i64.wrap (i:Int)=(i:Int):=IntWalk.i64_in _ (by omega)
 have hi1:1<=i:=by omega
 have hi2:i < M:=by omega
 have y4:IntKind.i64.wrap ((i:Int) - 1)=(i:Int) - 1:=IntWalk.i64_in _ (by omega)
 have y5:((i:Int) - 1).toNat=i - 1:=by omega
 have y6:(0:Int)<=(i:Int) - 1:=by omega
 have y12:(1:Int)<=(i:Int):=by omega
 have y13:(i:Int) - 1<=(i:Int):=by omega
 have y7:(i:Int) - 1<=(ck:Int):=by omega
 have y8:(i:Int) - 1 < ((M - 1:Nat):Int):=by omega
 have y9:(i:Int)<=((M - 1:Nat):Int):=by omega
 have y10:(i:Int)<=(M:Int):=by omega
 have y11:(i:Int)<=(cr:Int):=by omega
 obtain⟨gk,ok,rfl⟩: ∃g o,pk=some ⟨g,o,none⟩:=by
  rcases hks with ⟨h,_⟩ | ⟨g,o,c,_,h,_⟩
  ·simp only [Value.slice.injEq] at h;omega
  ·simp only [Value.slice.injEq] at h;exact⟨g,_,h.1⟩
 obtain⟨gr,or,rfl⟩: ∃g o,pr=some ⟨g,o,none⟩:=by
  rcases hrs with ⟨h,_⟩ | ⟨g,o,c,_,h,_⟩
  ·simp only [Value.slice.injEq] at h;omega
  ·simp only [Value.slice.injEq] at h;exact⟨g,_,h.1⟩
 have m1:=bz_ hks.rd (i - 1) (by omega)
 rw [<-hkey] at m1
 have hA1:EKy.Rd w (.slice (some ⟨gk,ok,none⟩) (i - 1) ck) ka:=by rw [hka];exact hks.rd.takeS (by omega)
 have hA2:ERf.Rd w (.slice (some ⟨gr,or,none⟩) i cr) ra:=by rw [hra];exact hrs.rd.takeS (by omega)
 have hB1:EKy.Rd w (.slice (if ck=i then some ⟨gk,ok,none⟩ else some ⟨gk,ok+i*1,none⟩) (M - 1 - i) (ck - i)) kb:=by rw [hkb];exact hks.rd.dropS2
 have hB2:ERf.Rd w (.slice (if cr=i then some ⟨gr,or,none⟩ else some ⟨gr,or+i*5,none⟩) (M - i) (cr - i)) rb:=by rw [hrb];exact hrs.rd.dropS2
 have hne: ¬cr=i:=by omega
 rw [if_neg hne] at hB2
 rw [Nat.mul_one] at hB1
 obtain⟨HA1,HA2,HB2⟩:=h_3 hA1 hA2 hB2
 have L1:Hid (ka.length=i - 1):=hi_ (by rw [hka,List.length_take];omega)
 have L2:Hid (ra.length=i):=hi_ (by rw [hra,List.length_take];omega)
 have L3:Hid (kb.length=M - 1 - i):=hi_ (by rw [hkb,List.length_drop];omega)
 have L4:Hid (rb.length=M - i):=hi_ (by rw [hrb,List.length_drop];omega)
 have hD:=(Ext.refl [] w).drew
 clear h hks hrs hM hkl hi hkey hka hkb hra hrb hA1 hA2 hB2
 by_cases hck2:ck=i
 ·rw [if_pos hck2] at hB1
  have h3:i=ck:=hck2.symm
  subst h3
  have e0:M - 1 - i=0:=by omega
  rw [Nat.sub_self,e0] at hB1
  rw [e0] at L3
  clear e0
  have HB1:=hi_ hB1
  clear hB1
  go_enter Tryz.func98,Tryz.ntmps98
  go_wp2_with fail
  refine e_ (fun W=> W.cell? ⟨b,2,none⟩=some (.slice (some ⟨gk,ok,none⟩) (M - 1) i)/\W.cell? ⟨b,3,none⟩=some (.slice (some ⟨gr,or,none⟩) M cr)/\W.cell? ⟨gk,ok+(i - 1),none⟩=some (.string ⟨key.toArray⟩)) (fun i=> [3,11,20,28,35,6,13,23,24,30,37,7,14,15,16,31,38,39,40,41,42,43].contains i) (by kernel_rfl) ⟨hD.cell c2 (by simp),hD.cell c3 (by simp),hD.cell m1 (by simp)⟩ (fun hS=> ?_)
  refine PUq 0 ?_;(try go_frame)
  refine PUq 1 ?_;(try go_frame)
  refine PUq 2 ?_;(try go_frame)
  refine PUq 4 ?_;(try go_frame)
  refine PUq 5 ?_;(try go_frame)
  refine PUq 8 ?_;(try go_frame)
  refine PUq 9 ?_;(try go_frame)
  refine PUq 10 ?_;(try go_frame)
  simp only [zA,zB,zC,zD,zE]
  refine PUq 12 ?_;(try go_frame)
  simp only [zA,zB,zC,zD,zE]
  refine PUq 17 ?_;(try go_frame)
  simp only [zA,zB,zC,zD,zE]
  refine PUq 18 ?_;(try go_frame)
  simp only [zA,zB,zC,zD,zE]
  refine PUq 19 ?_;(try go_frame)
  simp only [zA,zB,zC,zD,zE]
  refine PUq 21 ?_;(try go_frame)
  simp only [zA,zB,zC,zD,zE]
  refine PUq 22 ?_;(try go_frame)
  simp only [zA,zB,zC,zD,zE]
  refine PUq 25 ?_;(try go_frame)
  simp only [zA,zB,zC,zD,zE]
  refine PUq 26 ?_;(try go_frame)
  simp only [zA,zB,zC,zD,zE]
  refine PUq 27 ?_;(try go_frame)
  simp only [zA,zB,zC,zD,zE]
  refine PUq 29 ?_;(try go_frame)
  simp only [zA,zB,zC,zD,zE]
  refine PUq 32 ?_;(try go_frame)
  simp only [zA,zB,zC,zD,zE]
  refine PUq 33 ?_;(try go_frame)
  simp only [zA,zB,zC,zD,zE]
  refine PUq 34 ?_;(try go_frame)
  simp only [zA,zB,zC,zD,zE]
  refine PUq 36 ?_;(try go_frame)
  simp only [zA,zB,zC,zD,zE]
  refine ta 3 ?_;(try go_frame)
  refine ta 11 ?_;(try go_frame)
  simp only [zA,zB,zC,zD,zE]
  refine ta 20 ?_;(try go_frame)
  simp only [zA,zB,zC,zD,zE]
  refine ta 28 ?_;(try go_frame)
  simp only [zA,zB,zC,zD,zE]
  refine ta 35 ?_;(try go_frame)
  simp only [zA,zB,zC,zD,zE]
  refine ta 6 ?_;(try go_frame)
  refine ta 13 ?_;(try go_frame)
  simp only [zA,zB,zC,zD,zE]
  refine ta 23 ?_;(try go_frame)
  simp only [zA,zB,zC,zD,zE]
  refine ta 24 ?_;(try go_frame)
  simp only [zA,zB,zC,zD,zE]
  refine ta 30 ?_;(try go_frame)
  simp only [zA,zB,zC,zD,zE]
  refine ta 37 ?_;(try go_frame)
  simp only [zA,zB,zC,zD,zE]
  refine aA_ (A:= ?A1) [(57,7),(64,14),(65,15),(66,16),(81,31),(88,38),(89,39),(90,40),(2,41),(3,42),(4,43)] h1D (h1R ka kb ra rb key) (fun W=> W.cell? ⟨b,2,none⟩=some (.slice (some ⟨gk,ok,none⟩) (M - 1) i)/\W.cell? ⟨b,3,none⟩=some (.slice (some ⟨gr,or,none⟩) M cr)/\W.cell? ⟨gk,ok+(i - 1),none⟩=some (.string ⟨key.toArray⟩)) 0 (by rfl) (by kernel_rfl) (fun _ h=> h) (fun _ _ h hE=> ⟨hE.cell h.1 (by simp),hE.cell h.2.1 (by simp),hE.cell h.2.2 (by simp)⟩) hS (fun x _=> h1R_ext ka kb ra rb key x.2) ?hA1 ?_ ?_
  case hA1=> intro vals;simp only [putG,putT,List.setIfInBounds_toArray,List.set_cons_zero,List.set_cons_succ];exact rfl
  ·intro x hx o2 ho vals W hE hS2 hd K hK
   simp only [List.mem_cons,List.not_mem_nil,or_false] at hx
   rcases hx with rfl | rfl | rfl | rfl | rfl | rfl | rfl | rfl | rfl | rfl | rfl
   all_goals (have ho2:some _=some o2:=ho;obtain rfl:=Option.some.inj ho2;clear ho ho2;simp only [Act.put,List.setIfInBounds_toArray,List.set_cons_zero,List.set_cons_succ] at hK)
   ·go_simp
    refine(cw_ _ ka _ (by rw [L1.out];omega) (HA1.out.ext0 (hD.trans hE))).mono ?_
    rintro e w' ⟨u,rfl,how,hE', -, -⟩
    exact hK.out _ _ hE' how
   ·go_simp
    refine(bG_ _ ra _ (by rw [L2.out];omega) (HA2.out.ext0 (hD.trans hE))).mono ?_
    rintro e w' ⟨u,rfl,how,hE', -, -⟩
    exact hK.out _ _ hE' how
   ·have h6:EKy.Ow 9 W (vals 7) _:=hd 7 (by simp [h1D])
    have h7:ERf.Ow 89 W (vals 14) _:=hd 14 (by simp [h1D])
    obtain⟨p6,c6,hv,_⟩:=h6.rd.len_eq
    obtain⟨p7,c7,hv2,_⟩:=h7.rd.len_eq
    rw [L1.out] at hv
    rw [L2.out] at hv2
    rw [hv] at h6 hK ⊢
    rw [hv2] at h7 hK ⊢
    go_simp
    (try simp only [Act.put,List.setIfInBounds_toArray,List.set_cons_zero,List.set_cons_succ])
    exact hK.out _ _ (Ext.refl _ _) ⟨_,_,rfl,h6,h7⟩
   ·obtain⟨u,u2,hu,how,how2⟩:=hd 15 (by simp [h1D])
    obtain⟨p6,c6,rfl,_⟩:=how.rd.len_eq
    obtain⟨p7,c7,rfl,_⟩:=how2.rd.len_eq
    rw [L1.out] at hu how
    rw [L2.out] at hu how2
    rw [hu] at hK ⊢
    go_simp
    (try simp only [Act.put,List.setIfInBounds_toArray,List.set_cons_zero,List.set_cons_succ])
    exact hK.out _ _ ((Ext.refl [] W).alloc _) ⟨_,rfl,_,_,_,heap_alloc_new W _,.inl ⟨rfl,rfl⟩,how.ext0 ((Ext.refl [] W).alloc _),how2.ext0 ((Ext.refl [] W).alloc _)⟩
   ·go_simp
    refine(cw_ _ kb _ (by rw [L3.out];omega) (HB1.out.ext0 (hD.trans hE))).mono ?_
    rintro e w' ⟨u,rfl,how,hE', -, -⟩
    exact hK.out _ _ hE' how
   ·go_simp
    refine(bG_ _ rb _ (by rw [L4.out];omega) (HB2.out.ext0 (hD.trans hE))).mono ?_
    rintro e w' ⟨u,rfl,how,hE', -, -⟩
    exact hK.out _ _ hE' how
   ·have h6:EKy.Ow 9 W (vals 31) _:=hd 31 (by simp [h1D])
    have h7:ERf.Ow 89 W (vals 38) _:=hd 38 (by simp [h1D])
    obtain⟨p6,c6,hv,_⟩:=h6.rd.len_eq
    obtain⟨p7,c7,hv2,_⟩:=h7.rd.len_eq
    rw [L3.out] at hv
    rw [L4.out] at hv2
    rw [hv] at h6 hK ⊢
    rw [hv2] at h7 hK ⊢
    go_simp
    (try simp only [Act.put,List.setIfInBounds_toArray,List.set_cons_zero,List.set_cons_succ])
    exact hK.out _ _ (Ext.refl _ _) ⟨_,_,rfl,h6,h7⟩
   ·obtain⟨u,u2,hu,how,how2⟩:=hd 39 (by simp [h1D])
    obtain⟨p6,c6,rfl,_⟩:=how.rd.len_eq
    obtain⟨p7,c7,rfl,_⟩:=how2.rd.len_eq
    rw [L3.out] at hu how
    rw [L4.out] at hu how2
    rw [hu] at hK ⊢
    go_simp
    (try simp only [Act.put,List.setIfInBounds_toArray,List.set_cons_zero,List.set_cons_succ])
    exact hK.out _ _ ((Ext.refl [] W).alloc _) ⟨_,rfl,_,_,_,heap_alloc_new W _,.inl ⟨rfl,rfl⟩,how.ext0 ((Ext.refl [] W).alloc _),how2.ext0 ((Ext.refl [] W).alloc _)⟩
   ·have h8:=hd 16 (by simp [h1D])
    go_simp
    (try simp only [Act.put,List.setIfInBounds_toArray,List.set_cons_zero,List.set_cons_succ])
    exact hK.out _ _ (Ext.refl _ _) h8
   ·go_simp
    (try simp only [Act.put,List.setIfInBounds_toArray,List.set_cons_zero,List.set_cons_succ])
    exact hK.out _ _ (Ext.refl _ _) rfl
   ·have h8:=hd 40 (by simp [h1D])
    go_simp
    (try simp only [Act.put,List.setIfInBounds_toArray,List.set_cons_zero,List.set_cons_succ])
    exact hK.out _ _ (Ext.refl _ _) h8
  ·intro vals W hE hS2 hall
   obtain⟨a1,e1,hn1⟩:=hall (2,41) (by simp)
   have e2:vals 42=_:=hall (3,42) (by simp)
   obtain⟨a3,e3,hn3⟩:=hall (4,43) (by simp)
   obtain⟨HN1,HN3⟩:=h_2 hn1 hn3
   clear hall hn1 hn3
   simp only [] at e1 e2 e3
   rw [e1,e2,e3]
   refine c_ (by kernel_rfl) ?_ _
   go_wp2
   go_ret3
   exact⟨a1,a3,rfl,HN1.out,HN3.out,hD.trans hE⟩
 ·rw [if_neg hck2] at hB1
  have HB1:=hi_ hB1
  clear hB1
  go_enter Tryz.func98,Tryz.ntmps98
  go_wp2_with fail
  refine e_ (fun W=> W.cell? ⟨b,2,none⟩=some (.slice (some ⟨gk,ok,none⟩) (M - 1) ck)/\W.cell? ⟨b,3,none⟩=some (.slice (some ⟨gr,or,none⟩) M cr)/\W.cell? ⟨gk,ok+(i - 1),none⟩=some (.string ⟨key.toArray⟩)) (fun i=> [3,11,20,28,35,6,13,23,24,30,37,7,14,15,16,31,38,39,40,41,42,43].contains i) (by kernel_rfl) ⟨hD.cell c2 (by simp),hD.cell c3 (by simp),hD.cell m1 (by simp)⟩ (fun hS=> ?_)
  refine PUq 0 ?_;(try go_frame)
  refine PUq 1 ?_;(try go_frame)
  refine PUq 2 ?_;(try go_frame)
  refine PUq 4 ?_;(try go_frame)
  refine PUq 5 ?_;(try go_frame)
  refine PUq 8 ?_;(try go_frame)
  refine PUq 9 ?_;(try go_frame)
  refine PUq 10 ?_;(try go_frame)
  simp only [zA,zB,zC,zD,zE]
  refine PUq 12 ?_;(try go_frame)
  simp only [zA,zB,zC,zD,zE]
  refine PUq 17 ?_;(try go_frame)
  simp only [zA,zB,zC,zD,zE]
  refine PUq 18 ?_;(try go_frame)
  simp only [zA,zB,zC,zD,zE]
  refine PUq 19 ?_;(try go_frame)
  simp only [zA,zB,zC,zD,zE]
  refine PUq 21 ?_;(try go_frame)
  simp only [zA,zB,zC,zD,zE]
  refine PUq 22 ?_;(try go_frame)
  simp only [zA,zB,zC,zD,zE]
  refine PUq 25 ?_;(try go_frame)
  simp only [zA,zB,zC,zD,zE]
  refine PUq 26 ?_;(try go_frame)
  simp only [zA,zB,zC,zD,zE]
  refine PUq 27 ?_;(try go_frame)
  simp only [zA,zB,zC,zD,zE]
  refine PUq 29 ?_;(try go_frame)
  simp only [zA,zB,zC,zD,zE]
  refine PUq 32 ?_;(try go_frame)
  simp only [zA,zB,zC,zD,zE]
  refine PUq 33 ?_;(try go_frame)
  simp only [zA,zB,zC,zD,zE]
  refine PUq 34 ?_;(try go_frame)
  simp only [zA,zB,zC,zD,zE]
  refine PUq 36 ?_;(try go_frame)
  simp only [zA,zB,zC,zD,zE]
  refine ta 3 ?_;(try go_frame)
  refine ta 11 ?_;(try go_frame)
  simp only [zA,zB,zC,zD,zE]
  refine ta 20 ?_;(try go_frame)
  simp only [zA,zB,zC,zD,zE]
  refine ta 28 ?_;(try go_frame)
  simp only [zA,zB,zC,zD,zE]
  refine ta 35 ?_;(try go_frame)
  simp only [zA,zB,zC,zD,zE]
  refine ta 6 ?_;(try go_frame)
  refine ta 13 ?_;(try go_frame)
  simp only [zA,zB,zC,zD,zE]
  refine ta 23 ?_;(try go_frame)
  simp only [zA,zB,zC,zD,zE]
  refine ta 24 ?_;(try go_frame)
  simp only [zA,zB,zC,zD,zE]
  refine ta 30 ?_;(try go_frame)
  simp only [zA,zB,zC,zD,zE]
  refine ta 37 ?_;(try go_frame)
  simp only [zA,zB,zC,zD,zE]
  refine aA_ (A:= ?A2) [(57,7),(64,14),(65,15),(66,16),(81,31),(88,38),(89,39),(90,40),(2,41),(3,42),(4,43)] h1D (h1R ka kb ra rb key) (fun W=> W.cell? ⟨b,2,none⟩=some (.slice (some ⟨gk,ok,none⟩) (M - 1) ck)/\W.cell? ⟨b,3,none⟩=some (.slice (some ⟨gr,or,none⟩) M cr)/\W.cell? ⟨gk,ok+(i - 1),none⟩=some (.string ⟨key.toArray⟩)) 0 (by rfl) (by kernel_rfl) (fun _ h=> h) (fun _ _ h hE=> ⟨hE.cell h.1 (by simp),hE.cell h.2.1 (by simp),hE.cell h.2.2 (by simp)⟩) hS (fun x _=> h1R_ext ka kb ra rb key x.2) ?hA2 ?_ ?_
  case hA2=> intro vals;simp only [putG,putT,List.setIfInBounds_toArray,List.set_cons_zero,List.set_cons_succ];exact rfl
  ·intro x hx o2 ho vals W hE hS2 hd K hK
   simp only [List.mem_cons,List.not_mem_nil,or_false] at hx
   rcases hx with rfl | rfl | rfl | rfl | rfl | rfl | rfl | rfl | rfl | rfl | rfl
   all_goals (have ho2:some _=some o2:=ho;obtain rfl:=Option.some.inj ho2;clear ho ho2;simp only [Act.put,List.setIfInBounds_toArray,List.set_cons_zero,List.set_cons_succ] at hK)
   ·go_simp
    refine(cw_ _ ka _ (by rw [L1.out];omega) (HA1.out.ext0 (hD.trans hE))).mono ?_
    rintro e w' ⟨u,rfl,how,hE', -, -⟩
    exact hK.out _ _ hE' how
   ·go_simp
    refine(bG_ _ ra _ (by rw [L2.out];omega) (HA2.out.ext0 (hD.trans hE))).mono ?_
    rintro e w' ⟨u,rfl,how,hE', -, -⟩
    exact hK.out _ _ hE' how
   ·have h6:EKy.Ow 9 W (vals 7) _:=hd 7 (by simp [h1D])
    have h7:ERf.Ow 89 W (vals 14) _:=hd 14 (by simp [h1D])
    obtain⟨p6,c6,hv,_⟩:=h6.rd.len_eq
    obtain⟨p7,c7,hv2,_⟩:=h7.rd.len_eq
    rw [L1.out] at hv
    rw [L2.out] at hv2
    rw [hv] at h6 hK ⊢
    rw [hv2] at h7 hK ⊢
    go_simp
    (try simp only [Act.put,List.setIfInBounds_toArray,List.set_cons_zero,List.set_cons_succ])
    exact hK.out _ _ (Ext.refl _ _) ⟨_,_,rfl,h6,h7⟩
   ·obtain⟨u,u2,hu,how,how2⟩:=hd 15 (by simp [h1D])
    obtain⟨p6,c6,rfl,_⟩:=how.rd.len_eq
    obtain⟨p7,c7,rfl,_⟩:=how2.rd.len_eq
    rw [L1.out] at hu how
    rw [L2.out] at hu how2
    rw [hu] at hK ⊢
    go_simp
    (try simp only [Act.put,List.setIfInBounds_toArray,List.set_cons_zero,List.set_cons_succ])
    exact hK.out _ _ ((Ext.refl [] W).alloc _) ⟨_,rfl,_,_,_,heap_alloc_new W _,.inl ⟨rfl,rfl⟩,how.ext0 ((Ext.refl [] W).alloc _),how2.ext0 ((Ext.refl [] W).alloc _)⟩
   ·go_simp
    refine(cw_ _ kb _ (by rw [L3.out];omega) (HB1.out.ext0 (hD.trans hE))).mono ?_
    rintro e w' ⟨u,rfl,how,hE', -, -⟩
    exact hK.out _ _ hE' how
   ·go_simp
    refine(bG_ _ rb _ (by rw [L4.out];omega) (HB2.out.ext0 (hD.trans hE))).mono ?_
    rintro e w' ⟨u,rfl,how,hE', -, -⟩
    exact hK.out _ _ hE' how
   ·have h6:EKy.Ow 9 W (vals 31) _:=hd 31 (by simp [h1D])
    have h7:ERf.Ow 89 W (vals 38) _:=hd 38 (by simp [h1D])
    obtain⟨p6,c6,hv,_⟩:=h6.rd.len_eq
    obtain⟨p7,c7,hv2,_⟩:=h7.rd.len_eq
    rw [L3.out] at hv
    rw [L4.out] at hv2
    rw [hv] at h6 hK ⊢
    rw [hv2] at h7 hK ⊢
    go_simp
    (try simp only [Act.put,List.setIfInBounds_toArray,List.set_cons_zero,List.set_cons_succ])
    exact hK.out _ _ (Ext.refl _ _) ⟨_,_,rfl,h6,h7⟩
   ·obtain⟨u,u2,hu,how,how2⟩:=hd 39 (by simp [h1D])
    obtain⟨p6,c6,rfl,_⟩:=how.rd.len_eq
    obtain⟨p7,c7,rfl,_⟩:=how2.rd.len_eq
    rw [L3.out] at hu how
    rw [L4.out] at hu how2
    rw [hu] at hK ⊢
    go_simp
    (try simp only [Act.put,List.setIfInBounds_toArray,List.set_cons_zero,List.set_cons_succ])
    exact hK.out _ _ ((Ext.refl [] W).alloc _) ⟨_,rfl,_,_,_,heap_alloc_new W _,.inl ⟨rfl,rfl⟩,how.ext0 ((Ext.refl [] W).alloc _),how2.ext0 ((Ext.refl [] W).alloc _)⟩
   ·have h8:=hd 16 (by simp [h1D])
    go_simp
    (try simp only [Act.put,List.setIfInBounds_toArray,List.set_cons_zero,List.set_cons_succ])
    exact hK.out _ _ (Ext.refl _ _) h8
   ·go_simp
    (try simp only [Act.put,List.setIfInBounds_toArray,List.set_cons_zero,List.set_cons_succ])
    exact hK.out _ _ (Ext.refl _ _) rfl
   ·have h8:=hd 40 (by simp [h1D])
    go_simp
    (try simp only [Act.put,List.setIfInBounds_toArray,List.set_cons_zero,List.set_cons_succ])
    exact hK.out _ _ (Ext.refl _ _) h8
  ·intro vals W hE hS2 hall
   obtain⟨a1,e1,hn1⟩:=hall (2,41) (by simp)
   have e2:vals 42=_:=hall (3,42) (by simp)
   obtain⟨a3,e3,hn3⟩:=hall (4,43) (by simp)
   obtain⟨HN1,HN3⟩:=h_2 hn1 hn3
   clear hall hn1 hn3
   simp only [] at e1 e2 e3
   rw [e1,e2,e3]
   refine c_ (by kernel_rfl) ?_ _
   go_wp2
   go_ret3
   exact⟨a1,a3,rfl,HN1.out,HN3.out,hD.trans hE⟩
theorem gz_ (b:Nat) (t:List (Pc n)) (rs:List Rfm) (w:World) (h:NodeB w b false [] (o_ t) rs) (hk:KidsR (NodeR w n) rs t) (hl:t.length<=900) (h2:2<=t.length) (i:Nat) (hi:i=t.length / 2):
  Calls Tryz.prog 98 #[.pointer (some ⟨b,0,none⟩)] w fun e w'=> ∃a c,e= .returned (.tuple #[.pointer (some ⟨a,0,none⟩),.string ⟨(y_ t i).toArray⟩,.pointer (some ⟨c,0,none⟩)])/\(∃rs',NodeB w' a false [] (o_ (t.take i)) rs'/\KidsR (NodeR w' n) rs' (t.take i))/\(∃rs',NodeB w' c false [] (o_ (t.drop i)) rs'/\KidsR (NodeR w' n) rs' (t.drop i))/\Ext [] w w':=by
 have hi1:1<=i:=by omega
 have hg:=bl_ t (i - 1) (by omega)
 rw [Nat.sub_add_cancel hi1] at hg
 refine(gA_ b t.length i _ _ _ rs _ _ _ w h hk.1 (t_ t) hl h2 hi hg.symm rfl rfl rfl rfl).mono ?_
 rintro e w' ⟨a,c,rfl,ha,hc,hE⟩
 have hk':KidsR (NodeR w' n) rs t:=hk.mono (fun b t h=> h.ext0 hE)
 exact⟨a,c,rfl,⟨_,by rw [gM_ t _ hi1];exact ha,hk'.take _⟩,⟨_,by rw [gO_ t _];exact hc,hk'.drop _⟩,hE⟩
theorem if_ (n b:Nat) (t:List (El n)) (w:World) (h:NodeR w n b t) (hl:t.length<=900) (h2:2<=t.length):Calls Tryz.prog 98 #[.pointer (some ⟨b,0,none⟩)] w (fk_ n t (cutI n t.length) (bV_ t (cutI n t.length)) w):=by
 cases n with
 | zero=> exact gB_ b t w h hl h2
 | succ n=>
  obtain⟨rs,h1,hk⟩:=h
  exact gz_ (n:=n) b t rs w h1 hk hl h2 _ rfl
theorem GoodT.take {t:List (El n)} (h:GoodT n t) (i:Nat):GoodT n (t.take i):=by
 have hl:(t.take i).length<=900:=by rw [List.length_take];have:=h.len;omega
 cases n with
 | zero=> exact⟨hl,fun p hp=> h.2 p (List.mem_of_mem_take hp)⟩
 | succ n=> exact⟨hl,fun p hp=> h.2 p (List.mem_of_mem_take hp)⟩
theorem GoodT.drop {t:List (El n)} (h:GoodT n t) (i:Nat):GoodT n (t.drop i):=by
 have hl:(t.drop i).length<=900:=by rw [List.length_drop];have:=h.len;omega
 cases n with
 | zero=> exact⟨hl,fun p hp=> h.2 p (List.mem_of_mem_drop hp)⟩
 | succ n=> exact⟨hl,fun p hp=> h.2 p (List.mem_of_mem_drop hp)⟩
theorem GoodT.one {t:List (El n)} (h:GoodT n t) (h1:t.length=1):szF n t<=1024:=by
 cases n with
 | zero=>
  obtain⟨p,hp⟩: ∃p:Pr,t= [p]:=List.length_eq_one_iff.1 h1
  have hg:=h.2 p (by rw [hp];exact List.mem_singleton.2 rfl)
  have e1:=x_ 0 (2*1) (by omega)
  have e2:=x_ 0 p.1.length (by have:=hg.2.1;omega)
  have e3:=x_ 1 p.2.length (by have:=hg.2.2;omega)
  have:=hg.2.1
  have:=hg.2.2
  rw [hp]
  show (encL (V_ [p])).length<=1024
  simp only [V_,encL,encI,List.flatMap_cons,List.flatMap_nil,List.append_nil,List.map_cons,List.map_nil,List.flatten_cons,List.flatten_nil,List.length_append,List.length_cons,List.length_nil]
  omega
 | succ n=>
  obtain⟨p,hp⟩: ∃p:Pc n,t= [p]:=List.length_eq_one_iff.1 h1
  have hg:=h.2 p (by rw [hp];exact List.mem_singleton.2 rfl)
  have e1:=x_ 0 (2*2) (by omega)
  have e0:=dc_ hg.2.1
  have e2:=x_ 0 (kidB p).length (by omega)
  rw [hp]
  show (encL (G_ [p])).length<=1024
  simp only [G_,encL,encI,List.flatMap_cons,List.flatMap_nil,List.append_nil,List.drop_succ_cons,List.drop_zero,List.map_cons,List.map_nil,List.flatten_cons,List.flatten_nil,List.length_append,List.length_cons,List.length_nil]
  omega
def PcsR {n:Nat} (N:Nat->List (El n)->Prop) (xs:List Pcm) (l:List (Pc n)):Prop:=xs.length=l.length/\ ∀(i:Nat) y x,xs[i]? =some y->l[i]? =some x->KidR N y.1 x.2/\y.2=x.1
theorem PcsR.mono {N N':Nat->List (El n)->Prop} {xs:List Pcm} {l:List (Pc n)} (h:PcsR N xs l) (hN: ∀b t,N b t->N' b t):PcsR N' xs l:=
 ⟨h.1,fun i y x hy hx=> ⟨(h.2 i y x hy hx).1.mono (fun b=> hN b _),(h.2 i y x hy hx).2⟩⟩
theorem PcsR.nil {N:Nat->List (El n)->Prop}:PcsR N [] ([]:List (Pc n)):=⟨rfl,fun i y x hy=> by simp at hy⟩
theorem PcsR.append {N:Nat->List (El n)->Prop} {xs ys:List Pcm} {l m:List (Pc n)} (h:PcsR N xs l) (k:PcsR N ys m):PcsR N (xs++ys) (l++m):=by
 refine⟨by simp [h.1,k.1],fun i y x hy hx=> ?_⟩
 by_cases hi:i < xs.length
 ·rw [List.getElem?_append_left hi] at hy
  rw [List.getElem?_append_left (by rw [<-h.1];exact hi)] at hx
  exact h.2 i y x hy hx
 ·rw [List.getElem?_append_right (by omega)] at hy
  rw [List.getElem?_append_right (by rw [<-h.1];omega),<-h.1] at hx
  exact k.2 _ y x hy hx
theorem PcsR.one {N:Nat->List (El n)->Prop} {y:Pcm} {x:Pc n} (h:KidR N y.1 x.2) (hk:y.2=x.1):PcsR N [y] [x]:=by
 refine⟨rfl,fun i y' x' hy hx=> ?_⟩
 cases i with
 | zero=> simp at hy hx;subst hy;subst hx;exact⟨h,hk⟩
 | succ i=> simp at hy
def gX_ (n:Nat) (l:List (Pc n)) (w:World) (e:Ending) (w':World):Prop:=
 ∃u xs,e= .returned u/\EPc.Ow 184 w' u xs/\PcsR (NodeR w' n) xs l/\Ext [] w w'/\ ∀g∈blkL u,w.heap.size<=g
theorem NodeR.lens {t:List (El n)} (h:NodeR w n b t): ∃pp a cp pr c cr,w.cell? ⟨b,1,none⟩=some (.slice pp a cp)/\w.cell? ⟨b,3,none⟩=some (.slice pr c cr)/\a+c=t.length:=by
 cases n with
 | zero=>
  obtain⟨pp,cp,pk,ck,pr,cr,c0,c1,c2,c3, -⟩:=NodeB.cells h
  exact⟨_,_,_,_,_,_,c1,c3,rfl⟩
 | succ n=>
  obtain⟨rs,h,hk⟩:=h
  obtain⟨pp,cp,pk,ck,pr,cr,c0,c1,c2,c3, -⟩:=NodeB.cells h
  exact⟨_,_,_,_,_,_,c1,c3,by rw [hk.1];simp;rfl⟩
theorem aC_: ∀(m:Nat) (t:List (El n)) (key:Ky),t.length<=m->(i_ n t key).length<=t.length
 | 0,t,key,h=> by
  obtain rfl:t= []:=List.eq_nil_of_length_eq_zero (by omega)
  rw [X_];simp
 | m+1,t,key,h=> by
  rw [i_]
  split
  ·simp
  ·rename_i h0
   split
   ·simp;omega
   ·split
    ·simp
    ·rename_i h2
     have hc:=cu_ n t.length (by omega)
     rw [List.length_append]
     have h1:=aC_ m (t.take (cutI n t.length)) key (by rw [List.length_take];omega)
     have h2:=aC_ m (t.drop (cutI n t.length)) (bV_ t (cutI n t.length)) (by rw [List.length_drop];omega)
     rw [List.length_take] at h1
     rw [List.length_drop] at h2
     omega
theorem cl_ (W0:World) (b:Nat) (key:Ky):EPc.Ow 184 (W0.alloc (.cells #[.int .i64 0,.int .i64 0,.int .i64 0,.string ⟨#[]⟩,.pointer (some ⟨b,0,none⟩),.string ⟨key.toArray⟩] 184)) (.slice (some ⟨W0.heap.size,0,none⟩) 1 1) [((P0,some b),key)]:=by
 refine .inr ⟨W0.heap.size,0,1,[((P0,some b),key)],by simp,heap_alloc_new _ _,by simp,by simp,by simp⟩
theorem be_ (n:Nat): ∀(m b:Nat) (t:List (El n)) (key:Ky) (w:World),t.length<=m->NodeR w n b t->GoodT n t->Calls Tryz.prog 70 #[.pointer (some ⟨b,0,none⟩),.string ⟨key.toArray⟩] w (gX_ n (i_ n t key) w):=by
 intro m
 induction m with
 | zero=>
  intro b t key w hm h hg
  obtain rfl:t= []:=List.eq_nil_of_length_eq_zero (by omega)
  obtain⟨pp,a,cp,pr,c,cr,c1,c3,hac⟩:=h.lens
  obtain⟨rfl,rfl⟩:a=0/\c=0:=by simp at hac;omega
  rw [X_]
  clear h hg hm hac
  go_enter Tryz.func70,Tryz.ntmps70
  go_wp2_with fail
  go_big_quiet (fail)
  go_wp2_with fail
  go_ret
  exact⟨_,[],rfl,.inl ⟨rfl,rfl⟩,PcsR.nil,(Ext.refl [] w).drewN _,by simp [blkL]⟩
 | succ m ih=>
  intro b t key w hm h hg
  obtain⟨pp,a,cp,pr,c,cr,c1,c3,hac⟩:=h.lens
  have hl:=hg.len
  by_cases h0:t.length=0
  ·obtain rfl:t= []:=List.eq_nil_of_length_eq_zero h0
   obtain⟨rfl,rfl⟩:a=0/\c=0:=by simp at hac;omega
   rw [X_]
   clear h hg hm hac ih
   go_enter Tryz.func70,Tryz.ntmps70
   go_wp2_with fail
   go_big_quiet (fail)
   go_wp2_with fail
   go_ret
   exact⟨_,[],rfl,.inl ⟨rfl,rfl⟩,PcsR.nil,(Ext.refl [] w).drewN _,by simp [blkL]⟩
  ·have hne:t≠ []:=fun e=> h0 (by rw [e];rfl)
   have z1:((a:Int)+(c:Int)==0)=false:=beq_eq_false_iff_ne.2 (by omega)
   have z2:IntKind.i64.wrap ((a:Int)+(c:Int))=(a:Int)+(c:Int):=IntWalk.i64_in _ (by omega)
   have HF:Hid (∀W,Ext [] w W->Calls Tryz.prog 97 #[.pointer (some ⟨b,0,none⟩)] W fun e w'=> e= .returned (.bool (fitF n t))/\Ext [] W w'):=hi_ (fun W hW=> ex_ n b t W (h.ext0 hW) hg)
   by_cases hf:szF n t<=1024
   ·have hfit:fitF n t=true:=by simpa [fitF] using hf
    rw [K_ key hne hf]
    rw [hfit] at HF
    have HN:=hi_ h
    clear h hg hm hac ih hfit hf hne h0 hl
    go_enter Tryz.func70,Tryz.ntmps70
    go_wp2_with fail
    go_big_quiet (fail)
    go_wp2_with fail
    have hq:Ext [] w (w.drewN nq):=(Ext.refl [] w).drewN nq
    refine(HF.out _ hq).mono ?_
    rintro e W1 ⟨rfl,hE⟩
    go_wp2_with fail
    go_ret
    have hE2:=(Ext.refl [] W1).alloc (.cells #[.int .i64 0,.int .i64 0,.int .i64 0,.string ⟨#[]⟩,.pointer (some ⟨b,0,none⟩),.string ⟨key.toArray⟩] 184)
    have hE3:=hq.trans hE
    exact⟨_,_,rfl,cl_ W1 b key,PcsR.one ⟨b,rfl,(HN.out.ext0 hE3).ext0 hE2⟩ rfl,hE3.trans hE2,by simp [blkL];exact hE3.size⟩
   ·have hfit:fitF n t=false:=by simpa [fitF] using hf
    have h2:2<=t.length:=by
     rcases Nat.lt_or_ge t.length 2 with h | h
     ·exact absurd (hg.one (by omega)) hf
     ·exact h
    have hci:=cu_ n t.length h2
    have hpf:=bt_ key h2 hf
    have hlen:=aC_ (m+1) t key hm
    rw [hpf,List.length_append] at hlen
    rw [hpf]
    rw [hfit] at HF
    obtain⟨i,hi⟩: ∃i,i=cutI n t.length:=⟨_,rfl⟩
    obtain⟨k2,hk2⟩: ∃k,k=bV_ t i:=⟨_,rfl⟩
    rw [<-hi] at hci hlen ⊢
    rw [<-hk2] at hlen ⊢
    have HH:Hid (∀W,Ext [] w W->Calls Tryz.prog 98 #[.pointer (some ⟨b,0,none⟩)] W (fk_ n t i k2 W)):=hi_ (fun W hW=> by rw [hk2,hi];exact if_ n b t W (h.ext0 hW) hl h2)
    have HA:Hid (∀a W,NodeR W n a (t.take i)->Calls Tryz.prog 70 #[.pointer (some ⟨a,0,none⟩),.string ⟨key.toArray⟩] W (gX_ n (i_ n (t.take i) key) W)):=hi_ (fun a W h=> ih a _ key W (by rw [List.length_take];omega) h (hg.take i))
    have HB:Hid (∀a W,NodeR W n a (t.drop i)->Calls Tryz.prog 70 #[.pointer (some ⟨a,0,none⟩),.string ⟨k2.toArray⟩] W (gX_ n (i_ n (t.drop i) k2) W)):=hi_ (fun a W h=> ih a _ k2 W (by rw [List.length_drop];omega) h (hg.drop i))
    obtain⟨l1,hl1⟩: ∃l,l=i_ n (t.take i) key:=⟨_,rfl⟩
    obtain⟨l2,hl2⟩: ∃l,l=i_ n (t.drop i) k2:=⟨_,rfl⟩
    rw [<-hl1] at HA hlen ⊢
    rw [<-hl2] at HB hlen ⊢
    clear h hg hm hac ih hfit hf hne h0 hpf hi hk2 hci h2 hl1 hl2
    go_enter Tryz.func70,Tryz.ntmps70
    go_wp2_with fail
    go_big_quiet (fail)
    go_wp2_with fail
    have hq:Ext [] w (w.drewN nq):=(Ext.refl [] w).drewN nq
    refine(HF.out _ hq).mono ?_
    rintro e W1 ⟨rfl,hE1⟩
    have hE1:=hq.trans hE1
    clear hq c1 c3
    go_wp2_with fail
    refine(HH.out _ hE1).mono ?_
    rintro e W2 ⟨a1,a2,rfl,hn1,hn2,hE2⟩
    have HN2:=hi_ hn2
    clear hn2
    go_wp2_with fail
    refine(HA.out a1 _ hn1).mono ?_
    rintro e W3 ⟨u,xs,rfl,how,hpx,hE3,hf3⟩
    obtain⟨p,c',rfl,_⟩:=how.rd.len_eq
    have hn3:=HN2.out.ext0 hE3
    obtain⟨HO,HP,HF3⟩:=h_3 how hpx hf3
    have hE12:=(hE1.trans hE2)
    have hs12:=hE12.size
    have hE23:=hE12.trans hE3
    have hx1:=hi_ hpx.1
    clear how hpx hf3 hn1 HN2 hE1 hE2 hE12
    go_wp2_with fail
    refine(HB.out a2 _ hn3).mono ?_
    rintro e W4 ⟨u2,ys,rfl,how2,hpy,hE4,hf4⟩
    obtain⟨p2,c2,rfl,_⟩:=how2.rd.len_eq
    have HO4:=hi_ (HO.out.ext0 hE4)
    have HP4:Hid (PcsR (NodeR W4 n) xs l1):=hi_ (HP.out.mono (fun b t h=> h.ext0 hE4))
    obtain⟨HO2,HP2⟩:=h_2 how2 hpy
    have hx2:=hi_ hpy.1
    have hE34:=hE23.trans hE4
    have HF4:Hid (∀g∈blkL (.slice p xs.length c'),w.heap.size<=g):=hi_ (fun g hg=> by have h1:=HF3.out g hg;omega)
    clear how2 hpy hf4 hn3 HO HP HF3 hE23 hE3 hE4 hs12
    go_wp2_with (with_reducible refine f_ (d:=41) ?_)
    refine k_ rfl fun K hK=> b_ (E:=EPc) (T:=184) (zero:=(R0,[])) (bytes:=64) (v:= .slice p xs.length c') (u:= .slice p2 ys.length c2) (xs:=xs) (ys:=ys) tiPc Tryz.underlying147 Tryz.underlying147 rfl rfl rfl HO4.out HO2.out.rd (by rw [hx1.out,hx2.out];omega) (by rw [hx1.out,hx2.out];omega) ?_
    intro v' w' how hext hnear _
    have hup:=bY_ hext hnear hE34.size HF4.out w rfl hE34 (by simp)
    have HO5:=hi_ how
    have HP5:Hid (PcsR (NodeR w' n) (xs++ys) (l1++l2)):=hi_ ((HP4.out.append HP2.out).mono (fun b t h=> NodeR.ext hext (fun k hk T hT=> by rw [HO4.out.tagOf k hk];intro e;cases e;exact absurd hT (by decide)) _ _ _ h))
    refine hK _ _ ?_
    clear hK how hext hnear HO4 HP4 HO2 HP2
    go_wp2
    go_ret
    exact⟨_,_,rfl,HO5.out,HP5.out,hup.1,hup.2⟩
def jnR (B:Nat) (leaf:Bool) (v1 v2 v3 v4:Value) (ps:List Pr) (rs:List Rfm):Nat->Value->World->Prop
 | 12,v,w=> ∃g,v= .slice (some ⟨g,0,none⟩) 2 2/\w.heap[g]? =some (.cells #[v1,v2] 22 (0,0))
 | 13,v,w=> EPr.Ow 36 w v ps
 | 22,v,w=> ∃g,v= .slice (some ⟨g,0,none⟩) 2 2/\w.heap[g]? =some (.cells #[v3,v4] 123 (0,0))
 | 23,v,w=> ERf.Ow 89 w v rs
 | 24,v,w=> ∃u1 u2,v= .agg #[.bool leaf,u1,.slice none 0 0,u2]/\EPr.Ow 36 w u1 ps/\ERf.Ow 89 w u2 rs
 | 25,v,w=> ∃a,v= .pointer (some ⟨a,0,none⟩)/\NodeB w a leaf ps [] rs/\B<=a
 | 26,v,w=> ∃a,v= .pointer (some ⟨a,0,none⟩)/\NodeB w a leaf ps [] rs/\B<=a
 | _,_,_=> True
theorem jnR_ext (B:Nat) (leaf:Bool) (v1 v2 v3 v4:Value) (ps:List Pr) (rs:List Rfm): ∀k v w w',jnR B leaf v1 v2 v3 v4 ps rs k v w->Ext [] w w'->jnR B leaf v1 v2 v3 v4 ps rs k v w':=by
 intro k v w w' h he
 unfold jnR at h ⊢
 split at h <;> first | exact Enc.Ow.ext0 h he | (obtain⟨u,u2,h1,h2,h3⟩:=h;exact⟨u,u2,h1,h2.ext0 he,h3.ext0 he⟩) | (obtain⟨u,h1,h2,h3⟩:=h;exact⟨u,h1,h2.ext0 he,h3⟩) | (obtain⟨u,h1,h2⟩:=h;exact⟨u,h1,he.blk h2 (by simp)⟩) | trivial
def jnD:Nat->List Nat
 | 13=> [12]
 | 23=> [22]
 | 24=> [13,23]
 | 25=> [24]
 | 26=> [25]
 | _=> []
theorem trjoin0_c (a b:Nat) (s t:List Pr) (key:Ky) (w:World) (h:NodeR w 0 a s) (h':NodeR w 0 b t) (hg:GoodT 0 (s++t)):
  Calls Tryz.prog 133 #[.pointer (some ⟨a,0,none⟩),.string ⟨key.toArray⟩,.pointer (some ⟨b,0,none⟩)] w fun e w'=> ∃c,e= .returned (.tuple #[.pointer (some ⟨c,0,none⟩),.bool (fitF 0 (s++t))])/\NodeR w' 0 c (s++t)/\Ext [] w w':=by
 have hlen:List.length (α:=Pr) (s++t)<=900:=hg.len
 rw [List.length_append] at hlen
 obtain⟨ps1,hs1⟩: ∃l,l=s:=⟨_,rfl⟩
 obtain⟨ps2,hs2⟩: ∃l,l=t:=⟨_,rfl⟩
 obtain⟨rs1,hr1⟩: ∃l:List Rfm,l= []:=⟨_,rfl⟩
 obtain⟨rs2,hr2⟩: ∃l:List Rfm,l= []:=⟨_,rfl⟩
 obtain⟨ks1,hk1⟩: ∃l:List Ky,l= []:=⟨_,rfl⟩
 obtain⟨ks2,hk2⟩: ∃l:List Ky,l= []:=⟨_,rfl⟩
 have h:NodeB w a true ps1 ks1 rs1:=by rw [hs1,hr1,hk1];exact h
 have h':NodeB w b true ps2 ks2 rs2:=by rw [hs2,hr2,hk2];exact h'
 rw [<-hs1,<-hs2] at hlen hg ⊢
 have hx1:rs1.length=0:=by rw [hr1];rfl
 have hx2:rs2.length=0:=by rw [hr2];rfl
 obtain⟨HG,HR1,HR2⟩:=h_3 hg hr1 hr2
 clear hg hs1 hs2 hk1 hk2 hr1 hr2
 obtain⟨pp,cp,pk,ck,pr,cr,c0,c1,c2,c3,hps,hks,hrs, -⟩:=NodeB.cells h
 obtain⟨pp',cp',pk',ck',pr',cr',d0,d1,d2,d3,hps',hks',hrs', -⟩:=NodeB.cells h'
 have H1:=hi_ hps.rd
 have H2:=hi_ hps'.rd
 have H3:=hi_ hrs.rd
 have H4:=hi_ hrs'.rd
 have H5:=hi_ hks.rd
 have H6:=hi_ hks'.rd
 obtain⟨m1,hm1⟩: ∃m,m=ps1.length:=⟨_,rfl⟩
 obtain⟨m2,hm2⟩: ∃m,m=ps2.length:=⟨_,rfl⟩
 obtain⟨m3,hm3⟩: ∃m,m=rs1.length:=⟨_,rfl⟩
 obtain⟨m4,hm4⟩: ∃m,m=rs2.length:=⟨_,rfl⟩
 obtain⟨m5,hm5⟩: ∃m,m=ks1.length:=⟨_,rfl⟩
 obtain⟨m6,hm6⟩: ∃m,m=ks2.length:=⟨_,rfl⟩
 rw [<-hm1] at H1 c1
 rw [<-hm2] at H2 d1
 rw [<-hm3] at H3 c3
 rw [<-hm4] at H4 d3
 rw [<-hm5] at H5 c2
 rw [<-hm6] at H6 d2
 obtain⟨PS,hPS⟩: ∃l,l=ps1++ps2:=⟨_,rfl⟩
 obtain⟨RS,hRS⟩: ∃l,l=rs1++rs2:=⟨_,rfl⟩
 have L1:Hid (PS.length<=1000000):=hi_ (by rw [hPS,List.length_append];omega)
 have L2:Hid (RS.length<=1000000):=hi_ (by rw [hRS,List.length_append];omega)
 have HC1:Hid (∀g W,Ext [] w W->W.heap[g]? =some (.cells #[.slice pp m1 cp,.slice pp' m2 cp'] 22 (0,0))->Calls Tryz.prog 179 #[.slice (some ⟨g,0,none⟩) 2 2] W (af_ EPr 36 PS W)):=hi_ (fun g W hE hg=> by
  have hx:=eq_ g 2 [.slice pp m1 cp,.slice pp' m2 cp'] [ps1,ps2] W hg rfl (fun i v l hv hl=> by
   match i,hv,hl with
   | 0,hv,hl=> simp at hv hl;subst hv;subst hl;exact H1.out.ext0 hE
   | 1,hv,hl=> simp at hv hl;subst hv;subst hl;exact H2.out.ext0 hE
   | i+2,hv,hl=> simp at hv) (by simp;omega) (by simp)
  have e: [ps1,ps2].flatten=PS:=by rw [hPS];simp
  rw [e] at hx
  exact hx)
 have HC2:Hid (∀g W,Ext [] w W->W.heap[g]? =some (.cells #[.slice pr m3 cr,.slice pr' m4 cr'] 123 (0,0))->Calls Tryz.prog 180 #[.slice (some ⟨g,0,none⟩) 2 2] W (af_ ERf 89 RS W)):=hi_ (fun g W hE hg=> by
  have hx:=ep_ g 2 [.slice pr m3 cr,.slice pr' m4 cr'] [rs1,rs2] W hg rfl (fun i v l hv hl=> by
   match i,hv,hl with
   | 0,hv,hl=> simp at hv hl;subst hv;subst hl;exact H3.out.ext0 hE
   | 1,hv,hl=> simp at hv hl;subst hv;subst hl;exact H4.out.ext0 hE
   | i+2,hv,hl=> simp at hv) (by simp;omega) (by simp)
  have e: [rs1,rs2].flatten=RS:=by rw [hRS];simp
  rw [e] at hx
  exact hx)
 obtain⟨HPS,HRS⟩:=h_2 hPS hRS
 clear hps hks hrs hps' hks' hrs' h h' H1 H2 H3 H4 hPS hRS hm1 hm2 hm3 hm4 hm5 hm6
 go_enter Tryz.func133,Tryz.ntmps133
 go_wp2_with fail
 go_big_quiet (fail)
 have hq:Ext [] w (w.drewN nq):=(Ext.refl [] w).drewN nq
 have HQ:=hi_ hq
 have c0:=hq.cell c0 (by simp)
 have c1:=hq.cell c1 (by simp)
 have c2:=hq.cell c2 (by simp)
 have c3:=hq.cell c3 (by simp)
 have d0:=hq.cell d0 (by simp)
 have d1:=hq.cell d1 (by simp)
 have d2:=hq.cell d2 (by simp)
 have d3:=hq.cell d3 (by simp)
 clear hq
 revert c0 c1 c2 c3 d0 d1 d2 d3 HQ
 generalize World.drewN _ _=W0
 intro HQ c0 c1 c2 c3 d0 d1 d2 d3
 go_wp2_with fail
 have hD:=(Ext.refl [] W0).drew
 refine e_ (fun W=> W.cell? ⟨a,0,none⟩=some (.bool true)/\W.cell? ⟨a,1,none⟩=some (.slice pp m1 cp)/\W.cell? ⟨b,1,none⟩=some (.slice pp' m2 cp')/\W.cell? ⟨a,3,none⟩=some (.slice pr m3 cr)/\W.cell? ⟨b,3,none⟩=some (.slice pr' m4 cr')) (fun i=> [3,7,11,17,21,12,13,22,23,24,25,26].contains i) (by kernel_rfl) ⟨hD.cell c0 (by simp),hD.cell c1 (by simp),hD.cell d1 (by simp),hD.cell c3 (by simp),hD.cell d3 (by simp)⟩ (fun hS=> ?_)
 refine PUq 0 ?_;(try go_frame)
 refine PUq 1 ?_;(try go_frame)
 refine PUq 2 ?_;(try go_frame)
 refine PUq 4 ?_;(try go_frame)
 refine PUq 5 ?_;(try go_frame)
 refine PUq 6 ?_;(try go_frame)
 refine PUq 8 ?_;(try go_frame)
 refine PUq 9 ?_;(try go_frame)
 refine PUq 10 ?_;(try go_frame)
 simp only [zA,zB,zC,zD,zE]
 refine PUq 14 ?_;(try go_frame)
 simp only [zA,zB,zC,zD,zE]
 refine PUq 15 ?_;(try go_frame)
 simp only [zA,zB,zC,zD,zE]
 refine PUq 16 ?_;(try go_frame)
 simp only [zA,zB,zC,zD,zE]
 refine PUq 18 ?_;(try go_frame)
 simp only [zA,zB,zC,zD,zE]
 refine PUq 19 ?_;(try go_frame)
 simp only [zA,zB,zC,zD,zE]
 refine PUq 20 ?_;(try go_frame)
 simp only [zA,zB,zC,zD,zE]
 refine ta 3 ?_;(try go_frame)
 refine ta 7 ?_;(try go_frame)
 refine ta 11 ?_;(try go_frame)
 simp only [zA,zB,zC,zD,zE]
 refine ta 17 ?_;(try go_frame)
 simp only [zA,zB,zC,zD,zE]
 refine ta 21 ?_;(try go_frame)
 simp only [zA,zB,zC,zD,zE]
 refine aA_ (A:= ?A1) [(30,12),(31,13),(40,22),(41,23),(42,24),(43,25),(8,26)] jnD (jnR w.heap.size true (.slice pp m1 cp) (.slice pp' m2 cp') (.slice pr m3 cr) (.slice pr' m4 cr') PS RS) (fun W=> W.cell? ⟨a,0,none⟩=some (.bool true)/\W.cell? ⟨a,1,none⟩=some (.slice pp m1 cp)/\W.cell? ⟨b,1,none⟩=some (.slice pp' m2 cp')/\W.cell? ⟨a,3,none⟩=some (.slice pr m3 cr)/\W.cell? ⟨b,3,none⟩=some (.slice pr' m4 cr')) 0 (by rfl) (by kernel_rfl) (fun _ h=> h) (fun _ _ h hE=> ⟨hE.cell h.1 (by simp),hE.cell h.2.1 (by simp),hE.cell h.2.2.1 (by simp),hE.cell h.2.2.2.1 (by simp),hE.cell h.2.2.2.2 (by simp)⟩) hS (fun x _=> jnR_ext _ _ _ _ _ _ _ _ x.2) ?hA1 ?_ ?_
 case hA1=> intro vals;simp only [putG,putT,List.setIfInBounds_toArray,List.set_cons_zero,List.set_cons_succ];exact rfl
 ·intro x hx o2 ho vals W hE hS2 hd K hK
  simp only [List.mem_cons,List.not_mem_nil,or_false] at hx
  rcases hx with rfl | rfl | rfl | rfl | rfl | rfl | rfl
  all_goals (have ho2:some _=some o2:=ho;obtain rfl:=Option.some.inj ho2;clear ho ho2;simp only [Act.put,List.setIfInBounds_toArray,List.set_cons_zero,List.set_cons_succ] at hK)
  ·go_simp
   (try simp only [Act.put,List.setIfInBounds_toArray,List.set_cons_zero,List.set_cons_succ])
   exact hK.out _ _ ((Ext.refl [] W).alloc _) ⟨_,rfl,heap_alloc_new W _⟩
  ·obtain⟨g,hv,hg⟩:=hd 12 (by simp [jnD])
   rw [hv] at hK ⊢
   go_simp
   refine(HC1.out g W ((HQ.out.trans hD).trans hE) hg).mono ?_
   rintro e w' ⟨u,rfl,how,hE', -⟩
   exact hK.out _ _ hE' how
  ·go_simp
   (try simp only [Act.put,List.setIfInBounds_toArray,List.set_cons_zero,List.set_cons_succ])
   exact hK.out _ _ ((Ext.refl [] W).alloc _) ⟨_,rfl,heap_alloc_new W _⟩
  ·obtain⟨g,hv,hg⟩:=hd 22 (by simp [jnD])
   rw [hv] at hK ⊢
   go_simp
   refine(HC2.out g W ((HQ.out.trans hD).trans hE) hg).mono ?_
   rintro e w' ⟨u,rfl,how,hE', -⟩
   exact hK.out _ _ hE' how
  ·have h6:EPr.Ow 36 W (vals 13) _:=hd 13 (by simp [jnD])
   have h7:ERf.Ow 89 W (vals 23) _:=hd 23 (by simp [jnD])
   obtain⟨p6,c6,hv,_⟩:=h6.rd.len_eq
   obtain⟨p7,c7,hv2,_⟩:=h7.rd.len_eq
   rw [hv] at h6 hK ⊢
   rw [hv2] at h7 hK ⊢
   go_simp
   (try simp only [Act.put,List.setIfInBounds_toArray,List.set_cons_zero,List.set_cons_succ])
   exact hK.out _ _ (Ext.refl _ _) ⟨_,_,rfl,h6,h7⟩
  ·obtain⟨u,u2,hu,how,how2⟩:=hd 24 (by simp [jnD])
   obtain⟨p6,c6,rfl,_⟩:=how.rd.len_eq
   obtain⟨p7,c7,rfl,_⟩:=how2.rd.len_eq
   rw [hu] at hK ⊢
   go_simp
   (try simp only [Act.put,List.setIfInBounds_toArray,List.set_cons_zero,List.set_cons_succ])
   exact hK.out _ _ ((Ext.refl [] W).alloc _) ⟨_,rfl,⟨_,_,_,heap_alloc_new W _,how.ext0 ((Ext.refl [] W).alloc _),.inl ⟨rfl,rfl⟩,how2.ext0 ((Ext.refl [] W).alloc _)⟩,((HQ.out.trans hD).trans hE).size⟩
  ·have h8:=hd 25 (by simp [jnD])
   go_simp
   (try simp only [Act.put,List.setIfInBounds_toArray,List.set_cons_zero,List.set_cons_succ])
   exact hK.out _ _ (Ext.refl _ _) h8
 intro vals W1 hE1 _ hall
 obtain⟨c,ec,hnc,hfc⟩:=hall (8,26) (by simp)
 have HFC:=hi_ hfc
 simp only [] at ec
 rw [ec]
 have HNC:=hi_ hnc
 have HE1:=hi_ ((HQ.out.trans hD).trans hE1)
 have c2:=(hD.trans hE1).cell c2 (by simp)
 have d2:=(hD.trans hE1).cell d2 (by simp)
 obtain⟨-, -, -, -, -, -,n0, -⟩:=NodeB.cells hnc
 clear hall hnc hfc hS hD hE1 ec HC1 HC2 c0 c1 c3 d0 d1 d3
 refine c_ (by kernel_rfl) ?_ _
 go_wp2_with fail
 have hrs0:RS= []:=by rw [HRS.out,HR1.out,HR2.out];rfl
 have hnode:NodeR W1 0 c PS:=by rw [hrs0] at HNC;exact HNC.out
 have hg2:GoodT 0 PS:=by rw [HPS.out];exact HG.out
 have HF:=hi_ (ex_ 0 c PS W1 hnode hg2)
 have HN:=hi_ hnode
 clear hrs0 hnode hg2
 refine HF.out.mono ?_
 rintro e W2 ⟨rfl,hE2⟩
 go_wp2
 go_ret2
 exact⟨c,by rw [HPS.out];rfl,by rw [<-HPS.out];exact HN.out.ext0 hE2,HE1.out.trans hE2⟩
def jkR (v1 v2:Value) (key:Ky) (ks:List Ky):Nat->Value->World->Prop
 | 6,v,w=> ∃g,v= .slice (some ⟨g,0,none⟩) 1 1/\w.heap[g]? =some (.cells #[.string ⟨key.toArray⟩] 9 (0,0))
 | 11,v,w=> ∃g g6,v= .slice (some ⟨g,0,none⟩) 3 3/\w.heap[g]? =some (.cells #[v1,.slice (some ⟨g6,0,none⟩) 1 1,v2] 122 (0,0))/\w.heap[g6]? =some (.cells #[.string ⟨key.toArray⟩] 9 (0,0))
 | 12,v,w=> EKy.Ow 9 w v ks
 | _,_,_=> True
theorem jkR_ext (v1 v2:Value) (key:Ky) (ks:List Ky): ∀k v w w',jkR v1 v2 key ks k v w->Ext [] w w'->jkR v1 v2 key ks k v w':=by
 intro k v w w' h he
 unfold jkR at h ⊢
 split at h <;> first | exact Enc.Ow.ext0 h he | (obtain⟨u,u2,h1,h2,h3⟩:=h;exact⟨u,u2,h1,he.blk h2 (by simp),he.blk h3 (by simp)⟩) | (obtain⟨u,h1,h2⟩:=h;exact⟨u,h1,he.blk h2 (by simp)⟩) | trivial
def jkD:Nat->List Nat
 | 11=> [6]
 | 12=> [11]
 | _=> []
theorem one_rdKy' (h:W.heap[g]? =some (.cells #[.string ⟨key.toArray⟩] T (0,0))):EKy.Rd W (.slice (some ⟨g,0,none⟩) 1 1) [key]:=by
 refine .inr ⟨g,0,1,rfl,Nat.le_refl _,g_ h,fun j u hj=> ?_⟩
 rw [cell_of_row _ g _ _ _ _ h,Nat.zero_add,<-hj]
 simp [EKy,Enc.flat]
theorem trjoin1_b (a b:Nat) (ks1 ks2:List Ky) (rs1 rs2:List Rfm) (key:Ky) (w:World) (h:NodeB w a false [] ks1 rs1) (h':NodeB w b false [] ks2 rs2) (hx1:rs1.length<=900) (hx2:rs2.length<=900) (hy1:ks1.length<=900) (hy2:ks2.length<=900)
  (Z:Bool->Nat->World->Prop) (HZ:Hid (∀c W,Ext [] w W->NodeB W c false [] (ks1++ [key]++ks2) (rs1++rs2)->Calls Tryz.prog 97 #[.pointer (some ⟨c,0,none⟩)] W fun e w'=> ∃f,e= .returned (.bool f)/\Ext [] W w'/\Z f c w')):
  Calls Tryz.prog 133 #[.pointer (some ⟨a,0,none⟩),.string ⟨key.toArray⟩,.pointer (some ⟨b,0,none⟩)] w fun e w'=> ∃c f,e= .returned (.tuple #[.pointer (some ⟨c,0,none⟩),.bool f])/\Z f c w'/\Ext [] w w':=by
 obtain⟨ps1,hs1⟩: ∃l:List Pr,l= []:=⟨_,rfl⟩
 obtain⟨ps2,hs2⟩: ∃l:List Pr,l= []:=⟨_,rfl⟩
 rw [<-hs1] at h
 rw [<-hs2] at h'
 have hlen:ps1.length+ps2.length<=0:=by rw [hs1,hs2];simp
 obtain⟨HP1,HP2⟩:=h_2 hs1 hs2
 clear hs1 hs2
 obtain⟨pp,cp,pk,ck,pr,cr,c0,c1,c2,c3,hps,hks,hrs, -⟩:=NodeB.cells h
 obtain⟨pp',cp',pk',ck',pr',cr',d0,d1,d2,d3,hps',hks',hrs', -⟩:=NodeB.cells h'
 have H1:=hi_ hps.rd
 have H2:=hi_ hps'.rd
 have H3:=hi_ hrs.rd
 have H4:=hi_ hrs'.rd
 have H5:=hi_ hks.rd
 have H6:=hi_ hks'.rd
 obtain⟨m1,hm1⟩: ∃m,m=ps1.length:=⟨_,rfl⟩
 obtain⟨m2,hm2⟩: ∃m,m=ps2.length:=⟨_,rfl⟩
 obtain⟨m3,hm3⟩: ∃m,m=rs1.length:=⟨_,rfl⟩
 obtain⟨m4,hm4⟩: ∃m,m=rs2.length:=⟨_,rfl⟩
 obtain⟨m5,hm5⟩: ∃m,m=ks1.length:=⟨_,rfl⟩
 obtain⟨m6,hm6⟩: ∃m,m=ks2.length:=⟨_,rfl⟩
 rw [<-hm1] at H1 c1
 rw [<-hm2] at H2 d1
 rw [<-hm3] at H3 c3
 rw [<-hm4] at H4 d3
 rw [<-hm5] at H5 c2
 rw [<-hm6] at H6 d2
 obtain⟨PS,hPS⟩: ∃l,l=ps1++ps2:=⟨_,rfl⟩
 obtain⟨RS,hRS⟩: ∃l,l=rs1++rs2:=⟨_,rfl⟩
 have L1:Hid (PS.length<=1000000):=hi_ (by rw [hPS,List.length_append];omega)
 have L2:Hid (RS.length<=1000000):=hi_ (by rw [hRS,List.length_append];omega)
 have HC1:Hid (∀g W,Ext [] w W->W.heap[g]? =some (.cells #[.slice pp m1 cp,.slice pp' m2 cp'] 22 (0,0))->Calls Tryz.prog 179 #[.slice (some ⟨g,0,none⟩) 2 2] W (af_ EPr 36 PS W)):=hi_ (fun g W hE hg=> by
  have hx:=eq_ g 2 [.slice pp m1 cp,.slice pp' m2 cp'] [ps1,ps2] W hg rfl (fun i v l hv hl=> by
   match i,hv,hl with
   | 0,hv,hl=> simp at hv hl;subst hv;subst hl;exact H1.out.ext0 hE
   | 1,hv,hl=> simp at hv hl;subst hv;subst hl;exact H2.out.ext0 hE
   | i+2,hv,hl=> simp at hv) (by simp;omega) (by simp)
  have e: [ps1,ps2].flatten=PS:=by rw [hPS];simp
  rw [e] at hx
  exact hx)
 have HC2:Hid (∀g W,Ext [] w W->W.heap[g]? =some (.cells #[.slice pr m3 cr,.slice pr' m4 cr'] 123 (0,0))->Calls Tryz.prog 180 #[.slice (some ⟨g,0,none⟩) 2 2] W (af_ ERf 89 RS W)):=hi_ (fun g W hE hg=> by
  have hx:=ep_ g 2 [.slice pr m3 cr,.slice pr' m4 cr'] [rs1,rs2] W hg rfl (fun i v l hv hl=> by
   match i,hv,hl with
   | 0,hv,hl=> simp at hv hl;subst hv;subst hl;exact H3.out.ext0 hE
   | 1,hv,hl=> simp at hv hl;subst hv;subst hl;exact H4.out.ext0 hE
   | i+2,hv,hl=> simp at hv) (by simp;omega) (by simp)
  have e: [rs1,rs2].flatten=RS:=by rw [hRS];simp
  rw [e] at hx
  exact hx)
 obtain⟨HPS,HRS⟩:=h_2 hPS hRS
 clear hps hks hrs hps' hks' hrs' h h' H1 H2 H3 H4 hPS hRS hm1 hm2 hm3 hm4 hm5 hm6
 go_enter Tryz.func133,Tryz.ntmps133
 go_wp2_with fail
 go_big_quiet (fail)
 have hq:Ext [] w (w.drewN nq):=(Ext.refl [] w).drewN nq
 have HQ:=hi_ hq
 have c0:=hq.cell c0 (by simp)
 have c1:=hq.cell c1 (by simp)
 have c2:=hq.cell c2 (by simp)
 have c3:=hq.cell c3 (by simp)
 have d0:=hq.cell d0 (by simp)
 have d1:=hq.cell d1 (by simp)
 have d2:=hq.cell d2 (by simp)
 have d3:=hq.cell d3 (by simp)
 clear hq
 revert c0 c1 c2 c3 d0 d1 d2 d3 HQ
 generalize World.drewN _ _=W0
 intro HQ c0 c1 c2 c3 d0 d1 d2 d3
 go_wp2_with fail
 have hD:=(Ext.refl [] W0).drew
 refine e_ (fun W=> W.cell? ⟨a,0,none⟩=some (.bool false)/\W.cell? ⟨a,1,none⟩=some (.slice pp m1 cp)/\W.cell? ⟨b,1,none⟩=some (.slice pp' m2 cp')/\W.cell? ⟨a,3,none⟩=some (.slice pr m3 cr)/\W.cell? ⟨b,3,none⟩=some (.slice pr' m4 cr')) (fun i=> [3,7,11,17,21,12,13,22,23,24,25,26].contains i) (by kernel_rfl) ⟨hD.cell c0 (by simp),hD.cell c1 (by simp),hD.cell d1 (by simp),hD.cell c3 (by simp),hD.cell d3 (by simp)⟩ (fun hS=> ?_)
 refine PUq 0 ?_;(try go_frame)
 refine PUq 1 ?_;(try go_frame)
 refine PUq 2 ?_;(try go_frame)
 refine PUq 4 ?_;(try go_frame)
 refine PUq 5 ?_;(try go_frame)
 refine PUq 6 ?_;(try go_frame)
 refine PUq 8 ?_;(try go_frame)
 refine PUq 9 ?_;(try go_frame)
 refine PUq 10 ?_;(try go_frame)
 simp only [zA,zB,zC,zD,zE]
 refine PUq 14 ?_;(try go_frame)
 simp only [zA,zB,zC,zD,zE]
 refine PUq 15 ?_;(try go_frame)
 simp only [zA,zB,zC,zD,zE]
 refine PUq 16 ?_;(try go_frame)
 simp only [zA,zB,zC,zD,zE]
 refine PUq 18 ?_;(try go_frame)
 simp only [zA,zB,zC,zD,zE]
 refine PUq 19 ?_;(try go_frame)
 simp only [zA,zB,zC,zD,zE]
 refine PUq 20 ?_;(try go_frame)
 simp only [zA,zB,zC,zD,zE]
 refine ta 3 ?_;(try go_frame)
 refine ta 7 ?_;(try go_frame)
 refine ta 11 ?_;(try go_frame)
 simp only [zA,zB,zC,zD,zE]
 refine ta 17 ?_;(try go_frame)
 simp only [zA,zB,zC,zD,zE]
 refine ta 21 ?_;(try go_frame)
 simp only [zA,zB,zC,zD,zE]
 refine aA_ (A:= ?A1) [(30,12),(31,13),(40,22),(41,23),(42,24),(43,25),(8,26)] jnD (jnR w.heap.size false (.slice pp m1 cp) (.slice pp' m2 cp') (.slice pr m3 cr) (.slice pr' m4 cr') PS RS) (fun W=> W.cell? ⟨a,0,none⟩=some (.bool false)/\W.cell? ⟨a,1,none⟩=some (.slice pp m1 cp)/\W.cell? ⟨b,1,none⟩=some (.slice pp' m2 cp')/\W.cell? ⟨a,3,none⟩=some (.slice pr m3 cr)/\W.cell? ⟨b,3,none⟩=some (.slice pr' m4 cr')) 0 (by rfl) (by kernel_rfl) (fun _ h=> h) (fun _ _ h hE=> ⟨hE.cell h.1 (by simp),hE.cell h.2.1 (by simp),hE.cell h.2.2.1 (by simp),hE.cell h.2.2.2.1 (by simp),hE.cell h.2.2.2.2 (by simp)⟩) hS (fun x _=> jnR_ext _ _ _ _ _ _ _ _ x.2) ?hA1 ?_ ?_
 case hA1=> intro vals;simp only [putG,putT,List.setIfInBounds_toArray,List.set_cons_zero,List.set_cons_succ];exact rfl
 ·intro x hx o2 ho vals W hE hS2 hd K hK
  simp only [List.mem_cons,List.not_mem_nil,or_false] at hx
  rcases hx with rfl | rfl | rfl | rfl | rfl | rfl | rfl
  all_goals (have ho2:some _=some o2:=ho;obtain rfl:=Option.some.inj ho2;clear ho ho2;simp only [Act.put,List.setIfInBounds_toArray,List.set_cons_zero,List.set_cons_succ] at hK)
  ·go_simp
   (try simp only [Act.put,List.setIfInBounds_toArray,List.set_cons_zero,List.set_cons_succ])
   exact hK.out _ _ ((Ext.refl [] W).alloc _) ⟨_,rfl,heap_alloc_new W _⟩
  ·obtain⟨g,hv,hg⟩:=hd 12 (by simp [jnD])
   rw [hv] at hK ⊢
   go_simp
   refine(HC1.out g W ((HQ.out.trans hD).trans hE) hg).mono ?_
   rintro e w' ⟨u,rfl,how,hE', -⟩
   exact hK.out _ _ hE' how
  ·go_simp
   (try simp only [Act.put,List.setIfInBounds_toArray,List.set_cons_zero,List.set_cons_succ])
   exact hK.out _ _ ((Ext.refl [] W).alloc _) ⟨_,rfl,heap_alloc_new W _⟩
  ·obtain⟨g,hv,hg⟩:=hd 22 (by simp [jnD])
   rw [hv] at hK ⊢
   go_simp
   refine(HC2.out g W ((HQ.out.trans hD).trans hE) hg).mono ?_
   rintro e w' ⟨u,rfl,how,hE', -⟩
   exact hK.out _ _ hE' how
  ·have h6:EPr.Ow 36 W (vals 13) _:=hd 13 (by simp [jnD])
   have h7:ERf.Ow 89 W (vals 23) _:=hd 23 (by simp [jnD])
   obtain⟨p6,c6,hv,_⟩:=h6.rd.len_eq
   obtain⟨p7,c7,hv2,_⟩:=h7.rd.len_eq
   rw [hv] at h6 hK ⊢
   rw [hv2] at h7 hK ⊢
   go_simp
   (try simp only [Act.put,List.setIfInBounds_toArray,List.set_cons_zero,List.set_cons_succ])
   exact hK.out _ _ (Ext.refl _ _) ⟨_,_,rfl,h6,h7⟩
  ·obtain⟨u,u2,hu,how,how2⟩:=hd 24 (by simp [jnD])
   obtain⟨p6,c6,rfl,_⟩:=how.rd.len_eq
   obtain⟨p7,c7,rfl,_⟩:=how2.rd.len_eq
   rw [hu] at hK ⊢
   go_simp
   (try simp only [Act.put,List.setIfInBounds_toArray,List.set_cons_zero,List.set_cons_succ])
   exact hK.out _ _ ((Ext.refl [] W).alloc _) ⟨_,rfl,⟨_,_,_,heap_alloc_new W _,how.ext0 ((Ext.refl [] W).alloc _),.inl ⟨rfl,rfl⟩,how2.ext0 ((Ext.refl [] W).alloc _)⟩,((HQ.out.trans hD).trans hE).size⟩
  ·have h8:=hd 25 (by simp [jnD])
   go_simp
   (try simp only [Act.put,List.setIfInBounds_toArray,List.set_cons_zero,List.set_cons_succ])
   exact hK.out _ _ (Ext.refl _ _) h8
 intro vals W1 hE1 _ hall
 obtain⟨c,ec,hnc,hfc⟩:=hall (8,26) (by simp)
 have HFC:=hi_ hfc
 simp only [] at ec
 rw [ec]
 have HNC:=hi_ hnc
 have HE1:=hi_ ((HQ.out.trans hD).trans hE1)
 have c2:=(hD.trans hE1).cell c2 (by simp)
 have d2:=(hD.trans hE1).cell d2 (by simp)
 obtain⟨-, -, -, -, -, -,n0, -⟩:=NodeB.cells hnc
 clear hall hnc hfc hS hD hE1 ec HC1 HC2 c0 c1 c3 d0 d1 d3
 refine c_ (by kernel_rfl) ?_ _
 go_wp2_with fail
 have hp0:PS= []:=by rw [HPS.out,HP1.out,HP2.out];rfl
 rw [hp0,HRS.out] at HNC
 have H5':=hi_ (H5.out.ext0 HE1.out)
 have H6':=hi_ (H6.out.ext0 HE1.out)
 have HC3:Hid (∀g g6 W,Ext [] W1 W->W.heap[g]? =some (.cells #[.slice pk m5 ck,.slice (some ⟨g6,0,none⟩) 1 1,.slice pk' m6 ck'] 122 (0,0))->W.heap[g6]? =some (.cells #[.string ⟨key.toArray⟩] 9 (0,0))->Calls Tryz.prog 181 #[.slice (some ⟨g,0,none⟩) 3 3] W (af_ EKy 9 (ks1++ [key]++ks2) W)):=hi_ (fun g g6 W hE hg hg6=> by
  have hx:=iH_ g 3 [.slice pk m5 ck,.slice (some ⟨g6,0,none⟩) 1 1,.slice pk' m6 ck'] [ks1,[key],ks2] W hg rfl (fun i v l hv hl=> by
   match i,hv,hl with
   | 0,hv,hl=> simp at hv hl;subst hv;subst hl;exact H5'.out.ext0 hE
   | 1,hv,hl=> simp at hv hl;subst hv;subst hl;exact one_rdKy' hg6
   | 2,hv,hl=> simp at hv hl;subst hv;subst hl;exact H6'.out.ext0 hE
   | i+3,hv,hl=> simp at hv) (by simp;omega) (by simp)
  have e: [ks1,[key],ks2].flatten=ks1++ [key]++ks2:=by simp
  rw [e] at hx
  exact hx)
 obtain⟨KS,hKS⟩: ∃l,l=ks1++ [key]++ks2:=⟨_,rfl⟩
 rw [<-hKS] at HC3 HZ
 clear hKS H5 H6 H5' H6' hp0 HPS HP1 HP2 HRS n0
 have hD:=(Ext.refl [] W1).drew
 refine e_ (fun W=> W.cell? ⟨a,2,none⟩=some (.slice pk m5 ck)/\W.cell? ⟨b,2,none⟩=some (.slice pk' m6 ck')) (fun i=> [4,10,6,11,12].contains i) (by kernel_rfl) ⟨hD.cell c2 (by simp),hD.cell d2 (by simp)⟩ (fun hS=> ?_)
 refine PUq 0 ?_;(try go_frame)
 refine PUq 1 ?_;(try go_frame)
 refine PUq 2 ?_;(try go_frame)
 refine PUq 3 ?_;(try go_frame)
 refine PUq 5 ?_;(try go_frame)
 refine PUq 7 ?_;(try go_frame)
 refine PUq 8 ?_;(try go_frame)
 refine PUq 9 ?_;(try go_frame)
 refine ta 4 ?_;(try go_frame)
 refine ta 10 ?_;(try go_frame)
 simp only [zA,zB,zC,zD,zE]
 refine aA_ (A:= ?A2) [(55,6),(60,11),(61,12)] jkD (jkR (.slice pk m5 ck) (.slice pk' m6 ck') key KS) (fun W=> W.cell? ⟨a,2,none⟩=some (.slice pk m5 ck)/\W.cell? ⟨b,2,none⟩=some (.slice pk' m6 ck')) 3 (by rfl) (by kernel_rfl) (fun _ h=> h) (fun _ _ h hE=> ⟨hE.cell h.1 (by simp),hE.cell h.2 (by simp)⟩) hS (fun x _=> jkR_ext _ _ _ _ x.2) ?hA2 ?_ ?_
 case hA2=> intro vals;simp only [putG,putT,List.setIfInBounds_toArray,List.set_cons_zero,List.set_cons_succ];exact rfl
 ·intro x hx o2 ho vals W hE hS2 hd K hK
  simp only [List.mem_cons,List.not_mem_nil,or_false] at hx
  rcases hx with rfl | rfl | rfl
  all_goals (have ho2:some _=some o2:=ho;obtain rfl:=Option.some.inj ho2;clear ho ho2;simp only [Act.put,List.setIfInBounds_toArray,List.set_cons_zero,List.set_cons_succ] at hK)
  ·go_simp
   (try simp only [Act.put,List.setIfInBounds_toArray,List.set_cons_zero,List.set_cons_succ])
   exact hK.out _ _ ((Ext.refl [] W).alloc _) ⟨_,rfl,heap_alloc_new W _⟩
  ·obtain⟨g6,hv,hg6⟩:=hd 6 (by simp [jkD])
   rw [hv] at hK ⊢
   go_simp
   (try simp only [Act.put,List.setIfInBounds_toArray,List.set_cons_zero,List.set_cons_succ])
   exact hK.out _ _ ((Ext.refl [] W).alloc _) ⟨_,_,rfl,heap_alloc_new W _,((Ext.refl [] W).alloc _).blk hg6 (by simp)⟩
  ·obtain⟨g,g6,hv,hg,hg6⟩:=hd 11 (by simp [jkD])
   rw [hv] at hK ⊢
   go_simp
   refine(HC3.out g g6 W (hD.trans hE) hg hg6).mono ?_
   rintro e w' ⟨u,rfl,how,hE', -⟩
   exact hK.out _ _ hE' how
 intro vals W2 hE2 _ hall
 have hky:EKy.Ow 9 W2 (vals 12) KS:=hall (61,12) (by simp)
 obtain⟨pq,cq,hv,_⟩:=hky.rd.len_eq
 rw [hv] at hky ⊢
 have hE12:=hD.trans hE2
 have hnc2:=HNC.out.ext0 hE12
 obtain⟨pv,kv,cv,hb,u1,u2,u3⟩:=hnc2
 have hfz: ∀q,W2.frozen? ⟨c,q,none⟩=false:=fun q=> frozen_of_row _ _ _ _ _ hb
 have hcell:W2.cell? ⟨c,2,none⟩=some kv:=by rw [cell_of_row W2 c 2 _ _ _ hb];rfl
 have hE3:Ext [c] W2 (W2.setCell ⟨c,2,none⟩ (.slice pq KS.length cq)):=(Ext.refl _ _).setCell (.inl (by simp)) _
 have hb3:=heap_setCell_same _ c 2 _ _ (.slice pq KS.length cq) hb
 have hky3:=hky.ext hE3 (by simpa using hky.ne hb (by decide))
 have hn3:NodeB (W2.setCell ⟨c,2,none⟩ (.slice pq KS.length cq)) c false [] KS (rs1++rs2):=⟨_,_,_,hb3,u1.ext hE3 (by simpa using u1.ne hb (by decide)),hky3,u3.ext hE3 (by simpa using u3.ne hb (by decide))⟩
 have hE4:Ext [] w (W2.setCell ⟨c,2,none⟩ (.slice pq KS.length cq)):=(HE1.out.trans hE12).setCell (.inr HFC.out) _
 obtain⟨HN3,HE4⟩:=h_2 hn3 hE4
 have HF:=hi_ (HZ.out c _ hE4 hn3)
 have hb0:(W2.setCell ⟨c,2,none⟩ (.slice pq KS.length cq)).cell? ⟨c,0,none⟩=some (.bool false):=by rw [cell_of_row _ c 0 _ _ _ hb3];rfl
 clear hE3 hb3 hky3 hn3 hE4 hky hv hall u1 u2 u3 hb hE2 hE12 HNC HE1 HC3 HZ hS hD c2 d2
 refine PUq 13 ?_;(try go_frame)
 simp only [zA,zB,zC,zD,zE]
 refine PUq 14 ?_;(try go_frame)
 simp only [zA,zB,zC,zD,zE]
 refine a_ (i:=15) (by kernel_rfl) rfl (fun K hK=> ?_)
 refine iw rfl ?_
 go_simp
 refine nk hK ?_
 refine c_ (by kernel_rfl) ?_ _
 clear hK hfz hcell
 revert HN3 HE4 HF hb0
 generalize World.setCell _ _ _=W3
 intro HN3 HE4 HF hb0
 go_wp2_with fail
 refine HF.out.mono ?_
 rintro e W4 ⟨f,rfl,hE5,hz⟩
 go_wp2
 go_ret2
 exact⟨c,f,rfl,hz,HE4.out.trans hE5⟩
theorem gN_ (s t:List (Pc n)) (key:Ky) (hs:s≠ []) (ht:t≠ []):o_ (s++j_ key t)=o_ s++ [key]++o_ t:=by
 cases s with
 | nil=> exact absurd rfl hs
 | cons a s=>
  cases t with
  | nil=> exact absurd rfl ht
  | cons b t=> simp [o_,j_]
theorem KidsR.append {N:Nat->List (El n)->Prop} {rs rs':List Rfm} {l m:List (Pc n)} (h:KidsR N rs l) (k:KidsR N rs' m):KidsR N (rs++rs') (l++m):=by
 refine⟨by simp [h.1,k.1],fun i y x hy hx=> ?_⟩
 by_cases hi:i < rs.length
 ·rw [List.getElem?_append_left hi] at hy
  rw [List.getElem?_append_left (by rw [<-h.1];exact hi)] at hx
  exact h.2 i y x hy hx
 ·rw [List.getElem?_append_right (by omega)] at hy
  rw [List.getElem?_append_right (by rw [<-h.1];omega),<-h.1] at hx
  exact k.2 _ y x hy hx
theorem KidsR.withKey {N:Nat->List (El n)->Prop} {l:List (Pc n)} (h:KidsR N rs l) (key:Ky):KidsR N rs (j_ key l):=by
 cases l with
 | nil=> exact h
 | cons a l=>
  refine⟨h.1,fun i y x hy hx=> ?_⟩
  cases i with
  | zero=>
   simp [j_] at hx
   subst hx
   exact h.2 0 y a hy rfl
  | succ i=> exact h.2 (i+1) y x hy hx
theorem Q_ (key:Ky) (l:List (Pc n)):(j_ key l).length=l.length:=by cases l <;> rfl
def hV_ (n:Nat) (t:List (El n)) (w:World) (e:Ending) (w':World):Prop:=
 ∃c,e= .returned (.tuple #[.pointer (some ⟨c,0,none⟩),.bool (fitF n t)])/\NodeR w' n c t/\Ext [] w w'
theorem trjoin1_c (a b:Nat) (s t:List (Pc n)) (key:Ky) (w:World) (h:NodeR w (n+1) a s) (h':NodeR w (n+1) b t) (hg:GoodT (n+1) (s++j_ key t)) (hs:s≠ []) (ht:t≠ []):
  Calls Tryz.prog 133 #[.pointer (some ⟨a,0,none⟩),.string ⟨key.toArray⟩,.pointer (some ⟨b,0,none⟩)] w (hV_ (n+1) (s++j_ key t) w):=by
 obtain⟨rs1,h1,hk1⟩:=h
 obtain⟨rs2,h2,hk2⟩:=h'
 have hlen:(s++j_ key t).length<=900:=hg.1
 rw [List.length_append,Q_] at hlen
 refine(trjoin1_b a b _ _ rs1 rs2 key w h1 h2 (by rw [hk1.1];omega) (by rw [hk2.1];omega) (by rw [t_];omega) (by rw [t_];omega) (fun f c W=> f=fitF (n+1) (s++j_ key t)/\NodeR W (n+1) c (s++j_ key t)) (hi_ (fun c W hE hn=> ?_))).mono ?_
 ·have hnode:NodeR W (n+1) c (s++j_ key t):=by
   refine⟨rs1++rs2, ?_, ?_⟩
   ·rw [gN_ s t key hs ht];exact hn
   ·exact(hk1.append (hk2.withKey key)).mono (fun b t h=> h.ext0 hE)
  refine(ex_ (n+1) c _ W hnode hg).mono ?_
  rintro e w' ⟨rfl,hE'⟩
  exact⟨_,rfl,hE',rfl,hnode.ext0 hE'⟩
 ·rintro e w' ⟨c,f,rfl,⟨rfl,hn⟩,hE⟩
  exact⟨c,rfl,hn,hE⟩
theorem hh_ (n a b:Nat) (s t:List (El n)) (key:Ky) (w:World) (h:NodeR w n a s) (h':NodeR w n b t) (hg:GoodT n (s_ n s key t)) (hs:s≠ []) (ht:t≠ []):
  Calls Tryz.prog 133 #[.pointer (some ⟨a,0,none⟩),.string ⟨key.toArray⟩,.pointer (some ⟨b,0,none⟩)] w (hV_ n (s_ n s key t) w):=by
 cases n with
 | zero=> exact trjoin0_c a b s t key w h h' hg
 | succ n=>
  have e:s_ (n+1) s key t=HAppend.hAppend (α:=List (Pc n)) (β:=List (Pc n)) (γ:=List (Pc n)) s (j_ key t):=by
   show (HAppend.hAppend (α:=List (Pc n)) (β:=List (Pc n)) (γ:=List (Pc n)) s (cz_ (n+1) key t))=_
   rw [cM_ (n:=n) key t]
  rw [e] at hg ⊢
  exact trjoin1_c (n:=n) a b s t key w h h' hg hs ht
end Go.Proofs.YtkpgjkekmdecbaaGreat
