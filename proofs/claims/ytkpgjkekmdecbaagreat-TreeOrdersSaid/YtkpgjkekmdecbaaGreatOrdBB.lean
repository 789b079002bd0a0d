/- Lemmas for the claim. No conditions beside those that each states. -/
import Derived.Test.YtkpgjkekmdecbaaGreatOrdBA
import Derived.Test.YtkpgjkekmdecbaaGreatOrdAY
set_option maxRecDepth 100000
set_option maxHeartbeats 8000000
set_option linter.all false

namespace Go.Proofs.YtkpgjkekmdecbaaGreat
open Go.RowKit
variable {w w' W W':World} {gv:Value} {i tb:Nat} {bs:List Nat} {l:List Pr} {yv:Rfm} {y:Sy} {v v':Sv} {L:List Blk} {s:TS}
def putL (l:List Pr) (key val:Ky):List Pr:=l.take (atF l key)++ [(key,val)]++l.drop (atF l key+(if U_ l key then 1 else 0))
theorem tput_bad (hs:SyR w y v) (hd:DkS y v L) (ht:TreeR w y tb yv gv s) (hr:RtOk L s.root) {key val:Ky} (hb:bI_ key val):
  Calls Tryz.prog 14 #[.pointer (some ⟨tb,0,none⟩),.string ⟨key.toArray⟩,.string ⟨val.toArray⟩] w (fun e w'=> e= .returned (.int .i64 2)/\TrTo y v L tb s (p_ s.root) w w'):=
 (trput_bad key val tb w hb).mono (fun e w' ⟨h1,h2⟩=> ⟨h1,⟨⟨v,yv,gv,s,hs.ext0 h2,SameV.refl v,hd,ht.ext0 h2,hr,rfl,List.Perm.refl _,fun m hm _=> hm.mono (Nat.le_succ m),.inl ⟨_,_,ht.blk⟩⟩,DF.of0 h2⟩⟩)
theorem tput_ok (hs:SyR w y v) (hd:DkS y v L) (ht:TreeR w y tb yv gv s) (hr:RtOk L s.root) (sm:SmallT s) {key val:Ky} (hb: ¬bI_ key val):
  Calls Tryz.prog 14 #[.pointer (some ⟨tb,0,none⟩),.string ⟨key.toArray⟩,.string ⟨val.toArray⟩] w (fun e w'=> e= .returned (.int .i64 0)/\TrTo y v L tb s (putL (p_ s.root) key val) w w'):=by
 have h1:key.length<=24:=Nat.le_of_not_lt fun e=> hb (.inr (.inl e))
 have h2:val.length<=300:=Nat.le_of_not_lt fun e=> hb (.inr (.inr e))
 have hf:EdF key (putF key val):=ht_ (fun e=> hb (.inl e)) h1 h2
 exact(gy_ key val y v tb yv gv s w hb hs hd.dsk ht hr sm.bks sm.gone).mono (fun e w' hp=> (do_to hf (put_w h1 h2) hd hr ht hp).1 _ rfl)
structure SyncR (y:Sy) (v:Sv) (L:List Blk) (tb:Nat) (s:TS) (gv:Value) (w w':World) (p:Ptr4) (r':Root) (ms:List Ptr4) (v':Sv) (L':List Blk):Prop where
 pr:PutsR y v v' L L' ms
 wr:WroteR L' s.root r' p ms
 cost:F_ y.k ms<=unwR y.k s.root
 sy:SyR w' y v'
 tr:TreeR w' y tb (p,none) (.slice none 0 0) ⟨r',[],false⟩
 gone:EP.Ow 34 w' gv s.gone
 fr:DF y tb w w'
theorem tsync_c (hs:SyR w y v) (hd:DkS y v L) (ht:TreeR w y tb yv gv s) (hr:RtOk L s.root) (hb:WrB v []) {q C:Int} (hf:v.spc.free= [(q,C)]) (hq:0<=q) (hC:C<=40000) (hbk:v.spc.back=0) (hU:q+unwR y.k s.root < C):
  Calls Tryz.prog 15 #[.pointer (some ⟨tb,0,none⟩)] w fun e w'=> ∃p r' ms v' L',e= .returned (.tuple #[bB_ p,gv,.int .i64 0])/\SyncR y v L tb s gv w w' p r' ms v' L'/\v'.spc.free= [(q+F_ y.k ms,C)]:=by
 refine(hd_ y v L tb yv gv s w hs hd ht hr hb).mono ?_
 rintro e w' ⟨v',L',⟨p,r',ms,hpr,hwr,hle,rfl,hs',ht',hg',hdf⟩ | ⟨rfl, -,⟨vx,Lx,ms,hp,z,hz,hno⟩, -⟩⟩
 ·exact⟨p,r',ms,v',L',rfl,⟨hpr,hwr,hle,hs',ht',hg',hdf⟩,hpr.one q C hf hq hC (by omega)⟩
 ·exact absurd hno (hp.room hf hq hC hbk hz hU)
theorem BF.fresh (h:BF y bs W W') (he:Ext [] w W) (hl: ∀b∈ [y.b,y.r,y.sp],w.heap.size<=b) (hb: ∀k∈bs,w.heap.size<=k):Ext [] w W':=by
 obtain⟨S,h1,h2⟩:=h
 refine he.trans' h1 (by simp) (fun x hx=> .inr ?_)
 rcases h2 x hx with h | h
 ·rcases h with h | ⟨_,_,_,b,hb,hle⟩
  ·exact hl x h
  ·exact Nat.le_trans (hl b hb) hle
 ·exact hb x h
theorem dks_new (hn:NewSy y v) (hw:v.ws= []):DkS y v []:=
 ⟨⟨by simp,by rw [hn.st];simp [sto0],by simp,by rw [hw];simp⟩,by simp,by simp⟩
theorem wrb_new {C:Int} (hn:NewSy y v) (hw:v.ws= []) (hc:v.spc.cells=C) (h0:0<=C) (h1:C<=40000):WrB v []:=by
 have hf:cntL v.spc.free=C:=by rw [hn.free,hc];simp [cntL]
 refine⟨by rw [hf,hw];simp;omega,by rw [hf];simp;omega,by rw [hn.st];simp [sto0],by rw [hn.st];simp [sto0]⟩
theorem WrB.same {ps:List Ptr4} (h:WrB v ps) (s:SameV v v'):WrB v' ps:=⟨by rw [s.ws,s.spc];exact h.ws,by rw [s.spc];exact h.ps,by rw [s.txg];exact h.t0,by rw [s.txg];exact h.t1⟩
theorem hC_ (r r':Root) (key:Ky) (f:List Pr->Except Int (List Pr)) (l':List Pr) (hf:EdF key f) (h:RtOk [] r) (hl:f (p_ r)= .ok l') (hd:doF r key f= .ok (r',[])):RtOk [] r':=by
 obtain⟨r2,g,h1,h2⟩:=(do_ok hf r h).2 l' hl
 rw [hd] at h1
 cases h1
 exact h2.ok
theorem two_rdPr (W:World) (a b:Pr):EPr.Rd (W.alloc (.cells #[.string ⟨a.1.toArray⟩,.string ⟨a.2.toArray⟩,.string ⟨b.1.toArray⟩,.string ⟨b.2.toArray⟩] 36)) (.slice (some ⟨W.heap.size,0,none⟩) 2 2) [a,b]:=by
 refine .inr ⟨W.heap.size,0,2,rfl,Nat.le_refl _,by simp,fun j u hj=> ?_⟩
 rw [cell_of_row _ W.heap.size _ _ _ _ (heap_alloc_new _ _),Nat.zero_add,<-hj]
 simp [EPr,Enc.flat]
theorem sync_new {v0 v:Sv} (hk:y.k=1) (hn:NewSy y v0) (hc:v0.spc.cells=295) (hw:v0.ws= []) (hv:SameV v0 v) (h:SyR w y v) (hd:DkS y v []) (ht:TreeR w y tb yv gv ⟨some ⟨0,(none,kT2)⟩,[],true⟩) (ho:RtOk [] (some ⟨0,(none,kT2)⟩)):
  Calls Tryz.prog 15 #[.pointer (some ⟨tb,0,none⟩)] w fun e w'=> ∃q v' L' r' p c,e= .returned (.tuple #[bB_ q,.slice p 0 c,.int .i64 0])/\0 < (q.2.1:Int)/\SyR w' y v'/\Dsk y v' L'/\RtOk L' r'/\p_ r'=kT2/\TreeR w' y tb (q,none) (.slice none 0 0) ⟨r',[],false⟩/\DF y tb w w':=by
 have hfr:v.spc.free= [(0,295)]:=by rw [hv.spc,hn.free,hc]
 refine(hd_ y v [] tb yv gv _ w h hd ht ho ((wrb_new hn hw hc (by decide) (by decide)).same hv)).mono ?_
 rintro e w' ⟨v',L',⟨q,r',ms,hp,hwr,hle,rfl,hs,htr,hg,hdf⟩ | ⟨rfl,_,⟨vx,Lx,ms,hp,z,hlt,hno⟩,_⟩⟩
 ·have hat:=hwr.at_
  have hok:=hwr.ok
  obtain⟨p,c,hgv,_⟩:=hg.rd.len_eq
  refine⟨q,v',L',r',p,c,by rw [hgv];rfl, ?_,hs,hp.dk.dsk,hok,hwr.pr,htr,hdf⟩
  have hpr:p_ r'=kT2:=hwr.pr
  cases r' with
  | none=> cases hpr
  | some x=>
   obtain⟨n,x⟩:=x
   have hat:x.1=some q:=hat
   have h1:=hok.1 q hat
   have h2:1<=(bb_ n x.2).length:=(hp.dk.dsk.std _ h1.1).1
   have h3:q.2.1=(bb_ n x.2).length:=h1.2.1.1
   show (0:Int) < (q.2.1:Int)
   omega
 ·exfalso
  have hu:=known_unw y.k
  have hlt:F_ y.k ms+z<=unwR y.k (some ⟨0,(none,kT2)⟩):=hlt
  have h1:=hp.one 0 295 hfr (by decide) (by decide) (by omega)
  have h2:vx.spc.back=0:=by rw [hp.back,hv.spc,hn.back]
  exact hno.not h1 h2 (by omega)
theorem known_c (w:World):Calls Tryz.prog 11 #[] w fun e w'=> e= .returned (.bool true)/\Ext [] w w':=by
 have HNEW:=hi_ (gf_ 60 w (by omega) (by omega))
 go_enter Tryz.func11,Tryz.ntmps11
 go_wp2_with fail
 refine HNEW.out.mono ?_
 rintro e W1 ⟨y,v,rfl,hs,hk,hS,hF,hws,hnew,hlow,hE1⟩
 have hcl:v.spc.cells=295:=by rw [hs.cells,hk,hS,hF];rfl
 have HOP:=hi_ (hf_ y P0 W1)
 simp only [bB_,P0] at HOP
 obtain⟨HS,HK,HCL,HWS,HN,HLOW,HE1⟩:=h_7 hs hk hcl hws hnew hlow hE1
 clear hs hk hS hF hws hnew hlow hE1 hcl HNEW
 go_wp2_with fail
 refine HOP.out.mono ?_
 rintro e W2 ⟨tb,rfl,ht,hE2,hlt⟩
 have htr2:TreeR W2 y tb (P0,none) (.slice none 0 0) ⟨none,[],false⟩:=⟨ht,rfl,.inl ⟨rfl,rfl⟩⟩
 have hdk:=dks_new HN.out HWS.out
 have hp1:=gy_ (L:= []) [98] [50] y v tb (P0,none) (.slice none 0 0) ⟨none,[],false⟩ W2 (by simp [bI_]) (HS.out.ext0 hE2) hdk.dsk htr2 trivial (by simp [au_]) (by simp)
 obtain⟨HP1,HDK⟩:=h_2 hp1 hdk
 have HF2:=hi_ (HE1.out.trans hE2)
 have HLT:Hid (w.heap.size<=tb):=hi_ (by have:=HE1.out.size;omega)
 clear ht htr2 hdk hp1 hE2 hlt HOP
 go_wp2_with fail
 refine HP1.out.mono ?_
 rintro e W3 hp
 have hp:DoPost y v [] tb (P0,none) (.slice none 0 0) ⟨none,[],false⟩ (.ok (some ⟨0,(none,kT1)⟩,[])) W2 e W3:=by rw [<-known1];exact hp
 obtain⟨yv3,gv3,v3,rfl,hs3,hv3,hd3,ht3,hdf3, -⟩:=hp
 have hr3:RtOk [] (some ⟨0,(none,kT1)⟩):=hC_ none _ [98] (putF [98] [50]) kT1 (ht_ (by simp) (by simp) (by simp)) trivial ei_ known1
 have hp2:=gy_ (L:= []) [97] [49] y v3 tb yv3 gv3 _ W3 (by simp [bI_]) hs3 hd3 ht3 hr3 (by simp [au_,bkR,bkT]) (by simp)
 obtain⟨HP2,HV3,HR3⟩:=h_3 hp2 hv3 hr3
 have HF3:=hi_ ((BF.df (bs:= [tb]) hdf3 (by simp)).fresh HF2.out HLOW.out (by simpa using HLT.out))
 clear hs3 hv3 hd3 ht3 hdf3 hr3 hp2 HP1
 go_wp2_with fail
 refine HP2.out.mono ?_
 rintro e W4 hp
 have hp:DoPost y v3 [] tb yv3 gv3 ⟨some ⟨0,(none,kT1)⟩,[],true⟩ (.ok (some ⟨0,(none,kT2)⟩,[])) W3 e W4:=by rw [<-known2];exact hp
 obtain⟨yv4,gv4,v4,rfl,hs4,hv4,hd4,ht4,hdf4, -⟩:=hp
 have hr4:RtOk [] (some ⟨0,(none,kT2)⟩):=hC_ (some ⟨0,(none,kT1)⟩) _ [97] (putF [97] [49]) kT2 (ht_ (by simp) (by simp) (by simp)) HR3.out eh_ known2
 have hv04:=HV3.out.trans hv4
 have hsy:=sync_new HK.out HN.out HCL.out HWS.out hv04 hs4 (HDK.out.same hv04 hd4) ht4 hr4
 have HSY:=hi_ hsy
 have HF4:=hi_ ((BF.df (bs:= [tb]) hdf4 (by simp)).fresh HF3.out HLOW.out (by simpa using HLT.out))
 clear hs4 hv4 hd4 ht4 hdf4 hr4 hv04 hsy HP2
 go_wp2_with fail
 refine HSY.out.mono ?_
 rintro e W5 ⟨q,v5,L5,r5,p5,c5,rfl,hq5,hs5,hd5,hr5,hpr5,ht5,hdf5⟩
 obtain⟨HS5,HD5,HR5,HPR5,HT5⟩:=h_5 hs5 hd5 hr5 hpr5 ht5
 have HF5:=hi_ ((BF.df (bs:= [tb]) hdf5 (by simp)).fresh HF4.out HLOW.out (by simpa using HLT.out))
 clear hs5 hd5 hr5 hpr5 ht5 hdf5 HSY
 simp only [bB_]
 have hE6:=(Ext.refl [] W5).alloc (.cells #[.int .i64 q.1,.int .i64 q.2.1,.int .i64 q.2.2.1,.string ⟨q.2.2.2.toArray⟩] 34)
 have hb6:=heap_alloc_new W5 (.cells #[.int .i64 q.1,.int .i64 q.2.1,.int .i64 q.2.2.1,.string ⟨q.2.2.2.toArray⟩] 34)
 have hrg:=dl_ y v5 L5 tb (q,none) (.slice none 0 0) ⟨r5,[],false⟩ [] [] 9 _ (HS5.out.ext0 hE6) HD5.out (HT5.out.ext0 hE6) HR5.out.good (by decide) (by show (p_ r5).length<=_;rw [HPR5.out];decide)
 have e9:(selR [] [] (p_ r5)).take 9=([([97],[49]),([98],[50])]:List Pr):=by rw [eC_,HPR5.out];rfl
 change Calls _ _ _ _ (fj_ y v5 L5 ((selR [] [] (p_ r5)).take 9) _) at hrg
 rw [e9] at hrg
 have HRG:=hi_ hrg
 clear e9
 have HB6:=hi_ hb6
 have HS6:=hi_ (HS5.out.ext0 hE6)
 have HE6:=hi_ (HF5.out.trans hE6)
 clear hE6 hb6 hrg
 go_wp2_with fail
 refine HRG.out.mono ?_
 rintro e W7 ⟨u,v7,rfl,how,hfr,hs7,hv7,hd7,hf7⟩
 obtain⟨-,x1, -, -⟩:=cells4' (hf7.blk HS6.out HB6.out (by decide))
 have hsm:=fJ_ u _ _ _ _ (how.rd.ext0 ((Ext.refl [] W7).alloc _)) (two_rdPr W7 ([97],[49]) ([98],[50])) (by decide) (by decide)
 simp only [decide_true] at hsm
 have HE7:=hi_ ((BF.of (bs:= []) hf7).fresh HE6.out HLOW.out (by simp))
 have HSM:=hi_ hsm
 clear how hfr hs7 hv7 hd7 hf7 hsm HRG
 go_wp2_with fail
 refine HSM.out.mono ?_
 rintro e W8 ⟨rfl,hE8⟩
 have HE8:=hi_ ((HE7.out.alloc _).trans hE8)
 clear hE8 HSM x1
 go_wp2_with fail
 go_ret
 exact⟨rfl,HE8.out⟩
theorem srt_ext: ∀{l m:List Pr},SrtK l->SrtK m->(∀p,p∈l↔p∈m)->l=m
 | [],m,_,_,h=> by
  cases m with
  | nil=> rfl
  | cons z m=> exact absurd ((h z).2 (by simp)) (by simp)
 | x::l,m,hl,hm,h=> by
  cases m with
  | nil=> exact absurd ((h x).1 (by simp)) (by simp)
  | cons z m=>
   obtain⟨l1,l2⟩:=List.pairwise_cons.1 hl
   obtain⟨m1,m2⟩:=List.pairwise_cons.1 hm
   have e:x=z:=by
    rcases List.mem_cons.1 ((h x).1 (by simp)) with e | e
    ·exact e
    ·rcases List.mem_cons.1 ((h z).2 (by simp)) with e2 | e2
     ·exact e2.symm
     ·exact absurd (T_ (m1 x e) (l1 z e2)) (al_ _)
   subst e
   rw [srt_ext l2 m2 (fun p=> ⟨fun hp=> ?_,fun hp=> ?_⟩)]
   ·rcases List.mem_cons.1 ((h p).1 (List.mem_cons_of_mem _ hp)) with e | e
    ·subst e;exact absurd (l1 p hp) (al_ _)
    ·exact e
   ·rcases List.mem_cons.1 ((h p).2 (List.mem_cons_of_mem _ hp)) with e | e
    ·subst e;exact absurd (m1 p hp) (al_ _)
    ·exact e
theorem mem_putL {t:List Pr} {key val:Ky} (h: ∀p∈t,p.1≠key) (p:Pr):p∈putL t key val↔p=(key,val)\/p∈t:=by
 have h1:U_ t key=false:=by
  rw [U_,decide_eq_false_iff_not]
  intro e
  cases hg:t[atF t key]? with
  | none=> rw [hg] at e;cases e
  | some z=>
   rw [hg] at e
   simp only [Option.map_some,Option.some.injEq] at e
   exact h z (List.mem_of_getElem? hg) e
 rw [putL,h1]
 have h2:p∈t↔p∈t.take (atF t key)\/p∈t.drop (atF t key):=by
  conv=> lhs;rw [<-List.take_append_drop (atF t key) t]
  exact List.mem_append
 simp only [List.mem_append,List.mem_singleton,Bool.false_eq_true,if_false,Nat.add_zero]
 rw [h2]
 constructor
 ·rintro((h | h) | h)
  ·exact .inr (.inl h)
  ·exact .inl h
  ·exact .inr (.inr h)
 ·rintro(h | h | h)
  ·exact .inl (.inr h)
  ·exact .inl (.inl h)
  ·exact .inr h
def PutOf (xs:List Pr) (f:Nat->Nat) (i:Nat) (t:List Pr):Prop:= ∀p,p∈t↔ ∃j,j < i/\xs[f j]? =some p/\ ¬bI_ p.1 p.2
theorem PutOf.start (xs:List Pr) (f:Nat->Nat):PutOf xs f 0 []:=fun p=> ⟨fun h=> (by cases h),fun⟨j,h,_⟩=> (by omega)⟩
def DistK (xs:List Pr) (n:Nat):Prop:= ∀i k,i < n->k < i->(xs.getD i ([],[])).1≠(xs.getD k ([],[])).1
theorem PutOf.bad {xs:List Pr} {f:Nat->Nat} {t:List Pr} (h:PutOf xs f i t) {x:Pr} (hx:xs[f i]? =some x) (hb:bI_ x.1 x.2):PutOf xs f (i+1) t:=fun p=> by
 rw [h p]
 constructor
 ·rintro⟨j,h1,h2⟩;exact⟨j,by omega,h2⟩
 ·rintro⟨j,h1,h2,h3⟩
  rcases Nat.lt_or_ge j i with h4 | h4
  ·exact⟨j,h4,h2,h3⟩
  ·obtain rfl:j=i:=by omega
   rw [hx] at h2;cases h2
   exact absurd hb h3
theorem PutOf.put {xs:List Pr} {f:Nat->Nat} {t:List Pr} (h:PutOf xs f i t) {x:Pr} (hx:xs[f i]? =some x) (hb: ¬bI_ x.1 x.2) (hd: ∀j,j < i-> ∀p,xs[f j]? =some p->p.1≠x.1):PutOf xs f (i+1) (putL t x.1 x.2):=fun p=> by
 rw [mem_putL (fun z hz=> by obtain⟨j,h1,h2,_⟩:=(h z).1 hz;exact hd j h1 z h2)]
 constructor
 ·rintro(rfl | hp)
  ·exact⟨i,by omega,hx,hb⟩
  ·obtain⟨j,h1,h2⟩:=(h p).1 hp
   exact⟨j,by omega,h2⟩
 ·rintro⟨j,h1,h2,h3⟩
  rcases Nat.lt_or_ge j i with h4 | h4
  ·exact .inr ((h p).2 ⟨j,h4,h2,h3⟩)
  ·obtain rfl:j=i:=by omega
   rw [hx] at h2
   exact .inl (Option.some.inj h2).symm
def bud:Nat->Nat
 | 0=> 0
 | i+1=> bud i+(if i % 7=3 then (12+4*((2*(i+1)+5) / 12))*(i+1) else 0)
theorem fd_ {i j:Nat} (h:i<=j):bud i<=bud j:=by
 induction j with
 | zero=> rw [Nat.le_zero.1 h];exact Nat.le_refl _
 | succ j ih=>
  rcases Nat.lt_or_ge i (j+1) with h1 | h1
  ·exact Nat.le_trans (ih (by omega)) (by rw [bud];exact Nat.le_add_right _ _)
  ·rw [show i=j+1 by omega];exact Nat.le_refl _
theorem bud50:bud 50=5868:=by decide
structure OrdR (w:World) (y:Sy) (v:Sv) (L:List Blk) (tA:Nat) (yva:Rfm) (gva:Value) (sa:TS) (tb:Nat) (yvb:Rfm) (gvb:Value) (sb:TS) (xs:List Pr) (n i k c:Nat):Prop where
 sy:SyR w y v
 dk:DkS y v L
 tra:TreeR w y tA yva gva sa
 oka:RtOk L sa.root
 trb:TreeR w y tb yvb gvb sb
 okb:RtOk L sb.root
 ne:tA≠tb
 ht:HtOk i sa.root
 lena:(p_ sa.root).length<=i
 lenb:(p_ sb.root).length<=k
 bka:(au_ sa.root).length+sa.gone.length<=c
 bkb:au_ sb.root= []/\sb.gone= []
 pa:PutOf xs (fun j=> j) i (p_ sa.root)
 pb:PutOf xs (fun j=> n - 1 - j) k (p_ sb.root)
 free:v.spc.free= [((c:Int),5995)]
 back:v.spc.back=0
 cb:c<=5868
 wrb:WrB v []
theorem OrdR.small {tA:Nat} {yva:Rfm} {gva:Value} {sa:TS} {yvb:Rfm} {gvb:Value} {sb:TS} {xs:List Pr} {n i k c:Nat} (h:OrdR w y v L tA yva gva sa tb yvb gvb sb xs n i k c) (hi:i<=50) (hk:k<=50):SmallT sa/\SmallT sb:=by
 have h1:=h.cb
 have h3:=h.bka
 refine⟨⟨by have:=h.lena;omega,by omega,by omega⟩,⟨by have:=h.lenb;omega,by rw [h.bkb.1];simp,by rw [h.bkb.2];simp⟩⟩
theorem cB_ {tA tb:Nat} (h:TreeR w y tb yv gv s) (hy:SyR w y v) (hne:tA≠tb) (ht:r_ w tA=some 91) (hf:DF y tA w w'):TreeR w' y tb yv gv s:=
 h.bf hy (BF.df (bs:= [tA]) hf (by simp)) (by simp only [List.mem_singleton];exact fun e=> hne e.symm) (by simp only [List.mem_singleton,forall_eq,ht];decide)
theorem putL_len (t:List Pr) (key val:Ky):(putL t key val).length<=t.length+1:=by
 simp only [putL,List.length_append,List.length_take,List.length_drop,List.length_singleton]
 omega
open Classical in
noncomputable def putE (x:Pr):Int:=if bI_ x.1 x.2 then 2 else 0
theorem put_of (hs:SyR w y v) (hd:DkS y v L) (ht:TreeR w y tb yv gv s) (hr:RtOk L s.root) (sm:SmallT s) {xs:List Pr} {f:Nat->Nat} (h:PutOf xs f i (p_ s.root)) {x:Pr} (hx:xs[f i]? =some x) (hdk: ∀j,j < i-> ∀p,xs[f j]? =some p->p.1≠x.1):
  ∃(l':List Pr),PutOf xs f (i+1) l'/\l'.length<=(p_ s.root).length+1/\Calls Tryz.prog 14 #[.pointer (some ⟨tb,0,none⟩),.string ⟨x.1.toArray⟩,.string ⟨x.2.toArray⟩] w (fun e w'=> e= .returned (.int .i64 (putE x))/\TrTo y v L tb s l' w w'):=by
 by_cases hb:bI_ x.1 x.2
 ·exact⟨_,h.bad hx hb,Nat.le_succ _,by rw [putE,if_pos hb];exact tput_bad hs hd ht hr hb⟩
 ·exact⟨_,h.put hx hb hdk,putL_len _ _ _,by rw [putE,if_neg hb];exact tput_ok hs hd ht hr sm hb⟩
theorem eU_ {xs:List Pr} {p:Pr} (h:xs[i]? =some p):xs.getD i ([],[])=p:=by rw [List.getD,h];rfl
theorem OrdR.putA {tA:Nat} {yva:Rfm} {gva:Value} {sa:TS} {yvb:Rfm} {gvb:Value} {sb:TS} {xs:List Pr} {n i k c:Nat} (h:OrdR w y v L tA yva gva sa tb yvb gvb sb xs n i k c) (hin:i < n) (hk:k<=50) (hn:n<=50) (hD:DistK xs n) {x:Pr} (hx:xs[i]? =some x):
  Calls Tryz.prog 14 #[.pointer (some ⟨tA,0,none⟩),.string ⟨x.1.toArray⟩,.string ⟨x.2.toArray⟩] w (fun e w'=> e= .returned (.int .i64 (putE x))/\DF y tA w w'/\ ∃v' yva' gva' sa',OrdR w' y v' L tA yva' gva' sa' tb yvb gvb sb xs n (i+1) k c):=by
 obtain⟨l',h1,h2,h4⟩:=put_of h.sy h.dk h.tra h.oka (h.small (by omega) hk).1 h.pa hx (fun j hj p hp e=> by
  have:=hD i j hin hj
  rw [eU_ hp,eU_ hx] at this
  exact this e.symm)
 refine h4.mono ?_
 rintro e w' ⟨rfl,hto⟩
 refine⟨rfl,hto.fr, ?_⟩
 obtain⟨v',yv',gv',s',hs',hv',hd',ht',hr',hp',hm',hh', -⟩:=hto.ex
 have hl:=hm'.length_eq
 simp only [List.length_append] at hl
 exact⟨v',yv',gv',s',hs',hd',ht',hr',cB_ h.trb h.sy h.ne h.tra.tag hto.fr,h.okb,h.ne,hh' i h.ht h.lena,by rw [hp'];have:=h.lena;omega,h.lenb,by have:=h.bka;omega,h.bkb,by rw [hp'];exact h1,h.pb,by rw [hv'.spc];exact h.free,by rw [hv'.spc];exact h.back,h.cb,h.wrb.same hv'⟩
theorem OrdR.putB {tA:Nat} {yva:Rfm} {gva:Value} {sa:TS} {yvb:Rfm} {gvb:Value} {sb:TS} {xs:List Pr} {n i k c:Nat} (h:OrdR w y v L tA yva gva sa tb yvb gvb sb xs n i k c) (hkn:k < n) (hi:i<=50) (hn:n<=50) (hD:DistK xs n) {x:Pr} (hx:xs[n - 1 - k]? =some x):
  Calls Tryz.prog 14 #[.pointer (some ⟨tb,0,none⟩),.string ⟨x.1.toArray⟩,.string ⟨x.2.toArray⟩] w (fun e w'=> e= .returned (.int .i64 (putE x))/\DF y tb w w'/\ ∃v' yvb' gvb' sb',OrdR w' y v' L tA yva gva sa tb yvb' gvb' sb' xs n i (k+1) c):=by
 obtain⟨l',h1,h2,h4⟩:=put_of h.sy h.dk h.trb h.okb (h.small hi (by omega)).2 h.pb hx (fun j hj p hp e=> by
  have:=hD (n - 1 - j) (n - 1 - k) (by omega) (by omega)
  rw [eU_ hp,eU_ hx] at this
  exact this e)
 refine h4.mono ?_
 rintro e w' ⟨rfl,hto⟩
 refine⟨rfl,hto.fr, ?_⟩
 obtain⟨v',yv',gv',s',hs',hv',hd',ht',hr',hp',hm', -, -⟩:=hto.ex
 have hl:=hm'.length_eq
 rw [h.bkb.1,h.bkb.2] at hl
 simp only [List.length_append,List.length_nil] at hl
 exact⟨v',yv',gv',s',hs',hd',cB_ h.tra h.sy h.ne.symm h.trb.tag hto.fr,h.oka,ht',hr',h.ne,h.ht,h.lena,by rw [hp'];have:=h.lenb;omega,h.bka,⟨List.eq_nil_of_length_eq_zero (by omega),List.eq_nil_of_length_eq_zero (by omega)⟩,h.pa,by rw [hp'];exact h1,by rw [hv'.spc];exact h.free,by rw [hv'.spc];exact h.back,h.cb,h.wrb.same hv'⟩
theorem OrdR.sync {tA:Nat} {yva:Rfm} {gva:Value} {sa:TS} {yvb:Rfm} {gvb:Value} {sb:TS} {xs:List Pr} {n i k c:Nat} (h:OrdR w y v L tA yva gva sa tb yvb gvb sb xs n (i+1) k c) (hk:y.k=1) (hc:c<=bud i) (hm:i % 7=3) (hi:i < 50):
  Calls Tryz.prog 15 #[.pointer (some ⟨tA,0,none⟩)] w (fun e w'=> ∃p:Ptr4,e= .returned (.tuple #[bB_ p,gva,.int .i64 0])/\DF y tA w w'/\ ∃v' L' sa' c',c'<=bud (i+1)/\OrdR w' y v' L' tA (p,none) (.slice none 0 0) sa' tb yvb gvb sb xs n (i+1) k c'):=by
 have hu:=unwR_le h.oka h.ht h.lena
 have hl:=Nat.mul_le_mul_left (12+4*((2*(i+1)+5) / 12)) h.lena
 have hb:bud (i+1)=bud i+(12+4*((2*(i+1)+5) / 12))*(i+1):=by rw [bud,if_pos hm]
 have hb2:=fd_ (show i+1<=50 by omega)
 rw [bud50] at hb2
 have hr:c+unwR y.k sa.root<=bud (i+1):=by rw [hk,hb];omega
 refine(tsync_c h.sy h.dk h.tra h.oka h.wrb h.free (by omega) (by decide) h.back (by omega)).mono ?_
 rintro e w' ⟨p,r',ms,v',L',rfl,hsy,hf⟩
 have hms:=df_ rfl hsy.pr.new hsy.pr.dk
 have hco:=hsy.cost
 have hbl:=hsy.wr.bk.length_eq
 rw [List.length_append] at hbl
 refine⟨p,rfl,hsy.fr,v',L',⟨r',[],false⟩,c+F_ y.k ms,by omega,hsy.sy,hsy.pr.dk,hsy.tr,hsy.wr.ok,cB_ h.trb h.sy h.ne h.tra.tag hsy.fr,h.okb.mono hsy.pr.sub,h.ne, ?_,by rw [hsy.wr.pr];exact h.lena,h.lenb,by have:=h.bka;simp only [List.length_nil];omega,h.bkb,by rw [hsy.wr.pr];exact h.pa,h.pb,by rw [hf];push_cast;rfl,by rw [hsy.pr.back];exact h.back,by omega, ?_⟩
 ·rcases hsy.wr.sh with ⟨n,x,x',e1,e2,e3⟩ | ⟨e1,e2⟩
  ·have h1:=h.ht
   rw [e1] at h1
   obtain⟨H,h2,h3,h4⟩:=h1
   show HtOk (i+1) r'
   rw [e2]
   exact⟨H,h2,h3,by rw [e3.len];exact h4⟩
  ·show HtOk (i+1) r'
   rw [e2];trivial
 ·have h1:=h.wrb.step hsy.pr
  exact⟨h1.ws,by have:=h1.ps;simp only [List.nil_append,List.length_nil] at this ⊢;omega,h1.t0,h1.t1⟩
theorem OrdR.same {tA:Nat} {yva:Rfm} {gva:Value} {sa:TS} {yvb:Rfm} {gvb:Value} {sb:TS} {xs:List Pr} {n c:Nat} (h:OrdR w y v L tA yva gva sa tb yvb gvb sb xs n n n c):p_ sb.root=p_ sa.root:=
 srt_ext h.okb.srt.1 h.oka.srt.1 (fun p=> by
  rw [h.pa p,h.pb p]
  constructor
  ·rintro⟨j,h1,h2,h3⟩
   exact⟨n - 1 - j,by omega,h2,h3⟩
  ·rintro⟨j,h1,h2,h3⟩
   exact⟨n - 1 - j,by omega,by show xs[n - 1 - (n - 1 - j)]? =some p;rw [show n - 1 - (n - 1 - j)=j by omega];exact h2,h3⟩)
theorem sel_cut (hs:SrtK l) {cut:Ky} (hc:cut≠ []):selR [] cut l++selR cut [] l=l:=by
 obtain⟨h0,h1,h2⟩:=hs.atF_spec cut
 rw [sel_drop hs]
 have e:selR [] cut l=l.take (atF l cut):=by
  conv=> lhs;rw [<-List.take_append_drop (atF l cut) l]
  rw [ac_,ds_ (l:=l.drop (atF l cut)) hc (fun p hp=> ?_),List.append_nil,selR,List.filter_eq_self]
  ·intro p hp
   obtain⟨j,hj⟩:=List.getElem?_of_mem hp
   rw [List.getElem?_take] at hj
   split at hj
   ·have:=h1 j p (by assumption) hj
    simp [inR,this]
   ·cases hj
  ·obtain⟨j,hj⟩:=List.getElem?_of_mem hp
   rw [List.getElem?_drop] at hj
   exact h2 _ p (by omega) hj
 rw [e,List.take_append_drop]
theorem eB_ (a b:Ky) (l:List Pr):(selR a b l).length<=l.length:=List.length_filter_le _ _
theorem OrdR.read {tA:Nat} {yva:Rfm} {gva:Value} {sa:TS} {yvb:Rfm} {gvb:Value} {sb:TS} {xs:List Pr} {n i k c:Nat} (h:OrdR w y v L tA yva gva sa tb yvb gvb sb xs n i k c) (hs:SyR w' y v') (hv:SameV v v') (hd:Dsk y v' L) (hf:BF y [] w w'):OrdR w' y v' L tA yva gva sa tb yvb gvb sb xs n i k c:=
 ⟨hs,h.dk.same hv hd,h.tra.bf h.sy hf (by simp) (by simp),h.oka,h.trb.bf h.sy hf (by simp) (by simp),h.okb,h.ne,h.ht,h.lena,h.lenb,h.bka,h.bkb,h.pa,h.pb,by rw [hv.spc];exact h.free,by rw [hv.spc];exact h.back,h.cb,h.wrb.same hv⟩
theorem OrdR.ext0 {tA:Nat} {yva:Rfm} {gva:Value} {sa:TS} {yvb:Rfm} {gvb:Value} {sb:TS} {xs:List Pr} {n i k c:Nat} (h:OrdR w y v L tA yva gva sa tb yvb gvb sb xs n i k c) (he:Ext [] w w'):OrdR w' y v L tA yva gva sa tb yvb gvb sb xs n i k c:=
 h.read (h.sy.ext0 he) (SameV.refl v) h.dk.dsk (BF.of0 he)
theorem bh_ {u:Value} {zs:List Pr} (h:EPr.Ow 36 w u zs) (hy:SyR w y v) (hf:SyF y w w'):EPr.Ow 36 w' u zs:=by
 obtain⟨S,hSa,hSb⟩:=hf.tags hy
 exact h.ext hSa (fun g hg hm=> hSb g hm _ (by decide) (h.tagOf g hg))
theorem orders_c (v0:Value) (xs:List Pr) (cut:Ky) (w:World) (hv:AR EPr w v0 xs):Calls Tryz.prog 3 #[v0,.string ⟨cut.toArray⟩] w fun e w'=> e= .returned (.bool true)/\Ext [] w w':=by
 obtain⟨p,cap,rfl,hrd⟩:=hv
 have HV:=hi_ hrd
 obtain⟨N,hN⟩: ∃n,n=xs.length:=⟨_,rfl⟩
 have HN:=hi_ hN
 rw [<-hN] at HV ⊢
 obtain⟨n,hn⟩: ∃n:Nat,(n:Int)=min (N:Int) 50:=⟨min N 50,by omega⟩
 have hn1:n<=N/\n<=50:=by omega
 have HNM:=hi_ hn
 clear hrd hN hn
 go_enter Tryz.func3,Tryz.ntmps3
 go_wp2_with fail
 refine(known_c _).mono ?_
 rintro e W0 ⟨rfl,hE0⟩
 have HNEW:=hi_ (gf_ 1200 W0 (by omega) (by omega))
 go_wp2_with fail
 refine HNEW.out.mono ?_
 rintro e W1 ⟨y,v,rfl,hs,hk,hS,hF,hws,hnew,hlow,hE1⟩
 have hcl:v.spc.cells=5995:=by rw [hs.cells,hk,hS,hF];rfl
 have HOP:=hi_ (fun W=> hf_ y P0 W)
 simp only [bB_,P0] at HOP
 obtain⟨HS,HK,HCL,HWS,HN1⟩:=h_5 hs hk hcl hws hnew
 have HYL:Hid (∀b∈ [y.b,y.r,y.sp],w.heap.size<=b):=hi_ (fun b hb=> Nat.le_trans hE0.size (hlow b hb))
 have HE1:=hi_ (hE0.trans hE1)
 clear hs hk hS hF hws hnew hlow hE1 hE0 hcl HNEW
 go_wp2_with fail
 refine(HOP.out _).mono ?_
 rintro e W2 ⟨tA,rfl,hta,hE2,hlt⟩
 obtain⟨HTA,HE2⟩:=h_2 hta hE2
 have HLA:Hid (w.heap.size<=tA):=hi_ (by have:=HE1.out.size;omega)
 have HLA2:Hid (tA < W2.heap.size):=hi_ (g_ hta)
 clear hta hE2 hlt
 go_wp2_with fail
 refine(HOP.out _).mono ?_
 rintro e W3 ⟨tb,rfl,htb,hE3,hlt⟩
 have HLB:Hid (w.heap.size<=tb):=hi_ (by have:=HE1.out.size;have:=HE2.out.size;omega)
 have hne:tA≠tb:=by have:=HLA2.out;omega
 have hf0:OrdR W3 y v [] tA (P0,none) (.slice none 0 0) ⟨none,[],false⟩ tb (P0,none) (.slice none 0 0) ⟨none,[],false⟩ xs n 0 0 0:=
  ⟨(HS.out.ext0 HE2.out).ext0 hE3,dks_new HN1.out HWS.out,TreeR.ext0 ⟨HTA.out,rfl,.inl ⟨rfl,rfl⟩⟩ hE3,trivial,⟨htb,rfl,.inl ⟨rfl,rfl⟩⟩,trivial,hne,trivial,by simp [p_],by simp [p_],by simp [au_],⟨rfl,rfl⟩,PutOf.start _ _,PutOf.start _ _,by rw [HN1.out.free,HCL.out];rfl,HN1.out.back,by omega,wrb_new HN1.out HWS.out HCL.out (by decide) (by decide)⟩
 have HF0:=hi_ hf0
 have HX0:=hi_ ((HE1.out.trans HE2.out).trans hE3)
 clear htb hE3 hlt hne hf0 HOP HS HTA HE1 HE2 HLA2 HCL HWS HN1
 go_wp2_with fail
 rw [<-HNM.out]
 have hne0:0 < n->xs≠ []:=fun h1 h=> by have:=HN.out;rw [h] at this;simp at this;omega
 have HCE:Hid (∀(W:World) (i:Nat),Ext [] w W->i < n-> ∀g o,p=some ⟨g,o,none⟩->W.cell? ⟨g,o+i*2,none⟩=some (.string ⟨(xs.getD i ([],[])).1.toArray⟩)/\W.cell? ⟨g,o+i*2+1,none⟩=some (.string ⟨(xs.getD i ([],[])).2.toArray⟩)):=hi_ (fun W i hE hi g o hp=> by
  have h1:=HV.out (hne0 (by omega))
  rw [hp] at h1
  exact aJ_ (h1.ext0 hE) i (by rw [<-HN.out];omega))
 have HPA:Hid (0 < n-> ∃g o,p=some ⟨g,o,none⟩):=hi_ (fun h1=> by
  rcases HV.out (hne0 h1) with ⟨h,_⟩ | ⟨g,o,c,h,_⟩
  ·simp only [Value.slice.injEq] at h;omega
  ·simp only [Value.slice.injEq] at h;exact⟨g,o,h.1⟩)
 clear hne0
 go_loopw [14] (fun iv wr=> ∃i:Nat,iv= .int .i64 i/\i<=n/\Hid (DistK xs i)/\Hid (Ext [] W3 wr)) (fun iv _=> n - (intOf iv).toNat)
 case atStart=> exact⟨0,rfl,Nat.zero_le _,hi_ (fun i k h=> by omega),hi_ (Ext.refl _ _)⟩
 case round=>
  obtain⟨i,rfl,hi,HDK,HE⟩:=hrel
  by_cases hlt:i < n
  ·have z1:(i:Int) < (n:Int):=by omega
   obtain⟨ga,o,rfl⟩:=HPA.out (by omega)
   go_wp2_with fail
   go_loopw [15] (fun kv wr=> ∃k:Nat,kv= .int .i64 k/\k<=i/\Hid (∀j,j < k->(xs.getD i ([],[])).1≠(xs.getD j ([],[])).1)/\Hid (Ext [] W3 wr)) (fun kv _=> i - (intOf kv).toNat)
   case atStart=> exact⟨0,rfl,Nat.zero_le _,hi_ (fun j h=> by omega),HE⟩
   case round=>
    clear HE
    obtain⟨k,rfl,hki,HJ,HE⟩:=hrel
    by_cases hlk:k < i
    ·have z2:(k:Int) < (i:Int):=by omega
     have z3:(i:Int) < (N:Int):=by omega
     have z4:(k:Int) < (N:Int):=by omega
     have zi:((i:Int)).toNat=i:=by omega
     have zk:((k:Int)).toNat=k:=by omega
     obtain⟨m1, -⟩:=HCE.out _ i (HX0.out.trans HE.out) hlt ga o rfl
     obtain⟨m2, -⟩:=HCE.out _ k (HX0.out.trans HE.out) (by omega) ga o rfl
     obtain⟨x,hx⟩: ∃x,x=(xs.getD i ([],[])).1:=⟨_,rfl⟩
     obtain⟨z,hz⟩: ∃z,z=(xs.getD k ([],[])).1:=⟨_,rfl⟩
     rw [<-hx] at m1
     rw [<-hz] at m2
     by_cases he:x=z
     ·clear hx hz
      subst he
      go_wp2_with fail
      go_big_quiet (fail)
      go_wp2_with fail
      go_ret
      exact⟨rfl,(HX0.out.trans HE.out).drewN nq⟩
     ·have hb:(x==z)=false:=by simpa using he
      have HJ2:Hid (∀j,j < k+1->(xs.getD i ([],[])).1≠(xs.getD j ([],[])).1):=hi_ (fun j hj=> by
       rcases Nat.lt_or_ge j k with h | h
       ·exact HJ.out j h
       ·obtain rfl:j=k:=by omega
        rw [<-hx,<-hz];exact he)
      clear hx hz he HJ
      go_wp2_with fail
      go_big_quiet (fail)
      go_wp2_with fail
      go_roundw
      case rel=> exact⟨k+1,by go_num,by omega,HJ2,hi_ (HE.out.drewN nq)⟩
      case measure=> simp [intOf];omega
    ·have z2: ¬(k:Int) < (i:Int):=by omega
     have HDK2:Hid (DistK xs (i+1)):=hi_ (fun a b h1 h2=> by
      rcases Nat.lt_or_ge a i with h | h
      ·exact HDK.out a b h h2
      ·obtain rfl:a=i:=by omega
       exact HJ.out b (by omega))
     clear HJ HDK
     go_wp2_with fail
     go_roundw
     case rel=> exact⟨i+1,by go_num,by omega,HDK2,HE⟩
     case measure=> simp [intOf];omega
  ·have z1: ¬(i:Int) < (n:Int):=by omega
   obtain rfl:i=n:=by omega
   have hf1:OrdR wr y v [] tA (P0,none) (.slice none 0 0) ⟨none,[],false⟩ tb (P0,none) (.slice none 0 0) ⟨none,[],false⟩ xs i 0 0 0:=
    {HF0.out with sy:=HF0.out.sy.ext0 HE.out,tra:=HF0.out.tra.ext0 HE.out,trb:=HF0.out.trb.ext0 HE.out}
   have HF1:=hi_ hf1
   have HX1:=hi_ (HX0.out.trans HE.out)
   clear hf1 HF0 HX0 HE
   go_wp2_with fail
   go_loopw [16] (fun iv wr=> ∃(j c:Nat) (v2:Sv) (L2:List Blk) (yva:Rfm) (gva:Value) (sa:TS) (yvb:Rfm) (gvb:Value) (sb:TS),iv= .int .i64 j/\j<=i/\c<=bud j/\Hid (OrdR wr y v2 L2 tA yva gva sa tb yvb gvb sb xs i j j c)/\Hid (Ext [] w wr)) (fun iv _=> i - (intOf iv).toNat)
   case atStart=> exact⟨0,0,v,[],_,_,_,_,_,_,rfl,Nat.zero_le _,Nat.zero_le _,HF1,HX1⟩
   case round=>
    clear HF1 HX1
    obtain⟨j,c,v2,L2,yva,gva,sa,yvb,gvb,sb,rfl,hj,hcb,HF,HE⟩:=hrel
    by_cases hlj:j < i
    ·have z2:(j:Int) < (i:Int):=by omega
     have hxl: ∀m,m < i->xs[m]? =some (xs.getD m ([],[])):=fun m hm=> by
      have h1:m < xs.length:=by rw [<-HN.out];omega
      rw [List.getD,List.getElem?_eq_getElem h1];rfl
     obtain⟨j2,hj2⟩: ∃z:Nat,z=i - 1 - j:=⟨_,rfl⟩
     obtain⟨i1,hi1⟩: ∃z:Nat,z=i - 1:=⟨_,rfl⟩
     have hj2i:j2 < i:=by omega
     have zw1:IntKind.i64.wrap ((i:Int) - 1)=(i1:Int):=by rw [IntKind.wrap_i64];omega
     have zw2:IntKind.i64.wrap ((i1:Int) - (j:Int))=(j2:Int):=by rw [IntKind.wrap_i64];omega
     have z3:(j:Int) < (N:Int):=by omega
     have z4:(j2:Int) < (N:Int):=by omega
     have zj:((j:Int)).toNat=j:=by omega
     have zj2:((j2:Int)).toNat=j2:=by omega
     obtain⟨x,hx⟩: ∃x,x=xs.getD j ([],[]):=⟨_,rfl⟩
     obtain⟨z,hz⟩: ∃z,z=xs.getD j2 ([],[]):=⟨_,rfl⟩
     have HXJ:Hid (xs[j]? =some x):=hi_ (by rw [hx];exact hxl j hlj)
     have HZJ:Hid (xs[i - 1 - j]? =some z):=hi_ (by rw [hz,<-hj2];exact hxl j2 hj2i)
     have HNE:Hid (putE x≠putE z->x.1≠z.1):=hi_ (fun h e=> by
      have hjj:j≠j2:=fun e2=> h (by rw [hx,hz,e2])
      rw [hx,hz] at e
      rcases Nat.lt_or_ge j j2 with h1 | h1
      ·exact HDK.out j2 j hj2i h1 e.symm
      ·exact HDK.out j j2 hlj (by omega) e)
     obtain⟨ga,o,rfl⟩:=HPA.out (by omega)
     have HCX:Hid (∀W,Ext [] w W->W.cell? ⟨ga,o+j*2,none⟩=some (.string ⟨x.1.toArray⟩)/\W.cell? ⟨ga,o+j*2+1,none⟩=some (.string ⟨x.2.toArray⟩)/\W.cell? ⟨ga,o+j2*2,none⟩=some (.string ⟨z.1.toArray⟩)/\W.cell? ⟨ga,o+j2*2+1,none⟩=some (.string ⟨z.2.toArray⟩)):=hi_ (fun W hW=> by
      obtain⟨a1,a2⟩:=HCE.out W j hW hlj ga o rfl
      obtain⟨b1,b2⟩:=HCE.out W j2 hW hj2i ga o rfl
      rw [<-hx] at a1 a2
      rw [<-hz] at b1 b2
      exact⟨a1,a2,b1,b2⟩)
     have HED:=hi_ (HE.out.trans (Ext.refl [] wr).drew)
     have HPU:=hi_ ((HF.out.ext0 (Ext.refl [] wr).drew).putA hlj (by omega) hn1.2 HDK.out HXJ.out)
     obtain⟨ea,hea⟩: ∃e,e=putE x:=⟨_,rfl⟩
     obtain⟨eb,heb⟩: ∃e,e=putE z:=⟨_,rfl⟩
     have HPZ:Hid (∀(W:World) (v5:Sv) (yva5:Rfm) (gva5:Value) (sa5:TS),OrdR W y v5 L2 tA yva5 gva5 sa5 tb yvb gvb sb xs i (j+1) j c->_):=hi_ (fun W v5 yva5 gva5 sa5 h=> h.putB hlj (by omega) hn1.2 HDK.out HZJ.out)
     rw [<-hea] at HPU HNE
     rw [<-heb] at HPZ HNE
     clear hx hz hxl hea heb hi1 hj2 hj2i HXJ HZJ HF HE
     go_wp2_with fail
     refine e_ (fun W=> W.cell? ⟨ga,o+j*2,none⟩=some (.string ⟨x.1.toArray⟩)/\W.cell? ⟨ga,o+j*2+1,none⟩=some (.string ⟨x.2.toArray⟩)/\W.cell? ⟨ga,o+j2*2,none⟩=some (.string ⟨z.1.toArray⟩)/\W.cell? ⟨ga,o+j2*2+1,none⟩=some (.string ⟨z.2.toArray⟩)) (fun i=> i==5 || i==10 || i==20 || i==28 || i==11 || i==36 || i==44) (by kernel_rfl) (HCX.out _ HED.out) (fun hS=> ?_)
     refine PUq 0 ?_;(try go_frame);refine PUq 1 ?_;(try go_frame);refine PUq 2 ?_;(try go_frame);refine PUq 6 ?_;(try go_frame);(try simp only [zA,zB,zC,zD,zE]);refine PUq 7 ?_;(try go_frame);(try simp only [zA,zB,zC,zD,zE]);refine PUq 12 ?_;(try go_frame);(try simp only [zA,zB,zC,zD,zE]);refine PUq 13 ?_;(try go_frame);(try simp only [zA,zB,zC,zD,zE]);refine PUq 14 ?_;(try go_frame);(try simp only [zA,zB,zC,zD,zE]);refine PUq 16 ?_;(try go_frame);(try simp only [zA,zB,zC,zD,zE]);refine PUq 21 ?_;(try go_frame);(try simp only [zA,zB,zC,zD,zE]);refine PUq 22 ?_;(try go_frame);(try simp only [zA,zB,zC,zD,zE]);refine PUq 24 ?_;(try go_frame);(try simp only [zA,zB,zC,zD,zE])
     refine PUq 3 ?_;(try go_frame);refine PUq 8 ?_;(try go_frame);(try simp only [zA,zB,zC,zD,zE]);refine PUq 15 ?_;(try go_frame);(try simp only [zA,zB,zC,zD,zE]);refine PUq 23 ?_;(try go_frame);(try simp only [zA,zB,zC,zD,zE])
     refine PUq 4 ?_;(try go_frame);refine PUq 9 ?_;(try go_frame);(try simp only [zA,zB,zC,zD,zE]);refine PUq 17 ?_;(try go_frame);(try simp only [zA,zB,zC,zD,zE]);refine PUq 25 ?_;(try go_frame);(try simp only [zA,zB,zC,zD,zE])
     refine PUq 18 ?_;(try go_frame);(try simp only [zA,zB,zC,zD,zE]);refine PUq 26 ?_;(try go_frame);(try simp only [zA,zB,zC,zD,zE])
     refine PUq 19 ?_;(try go_frame);(try simp only [zA,zB,zC,zD,zE]);refine PUq 27 ?_;(try go_frame);(try simp only [zA,zB,zC,zD,zE])
     refine ta 5 ?_;(try go_frame);refine ta 10 ?_;(try go_frame);(try simp only [zA,zB,zC,zD,zE]);refine ta 20 ?_;(try go_frame);(try simp only [zA,zB,zC,zD,zE]);refine ta 28 ?_;(try go_frame);(try simp only [zA,zB,zC,zD,zE])
     refine a_ (i:=11) (by kernel_rfl) rfl (fun K hK=> ?_)
     (try simp only [Act.put,zA,zB,zC,List.setIfInBounds_toArray,zD,zE]);refine iw rfl ?_
     go_simp
     refine HPU.out.mono ?_
     rintro e W5 ⟨rfl,hdf5,v5,yva5,gva5,sa5,hf5⟩
     have hX5:=(BF.df (bs:= [tA]) hdf5 (by simp)).fresh HED.out HYL.out (by simpa using HLA.out)
     refine hK.out _ _ (fun _=> HCX.out _ hX5) (fun _=> ?_)
     have HX5:=hi_ hX5
     have HQ:=hi_ (HPZ.out W5 v5 yva5 gva5 sa5 hf5)
     clear hK hS hdf5 hf5 hX5 HPZ HPU HED
     refine a_ (i:=29) (by kernel_rfl) rfl (fun K hK=> ?_)
     (try simp only [Act.put,zA,zB,zC,List.setIfInBounds_toArray,zD,zE]);refine iw rfl ?_
     go_simp
     refine HQ.out.mono ?_
     rintro e W6 ⟨rfl,hdf6,v6,yvb6,gvb6,sb6,hf6⟩
     have hX6:=(BF.df (bs:= [tb]) hdf6 (by simp)).fresh HX5.out HYL.out (by simpa using HLB.out)
     refine nk hK ?_
     have hS:=HCX.out _ hX6
     obtain⟨HX6,HF6⟩:=h_2 hX6 hf6
     clear hK hdf6 hf6 hX6 HQ HX5 HCX
     by_cases he:ea=eb
     ·subst he
      refine PUq 30 ?_;(try go_frame);(try simp only [zA,zB,zC,zD,zE]);refine PUq 31 ?_;(try go_frame);(try simp only [zA,zB,zC,zD,zE])
      (refine D_ (i:=32) (v:=undef) rfl (by kernel_rfl) (by kernel_rfl) (by kernel_rfl) (by rfl) (by exact fun _ _ _ h=> h) (Or.inr ⟨by rfl,rfl⟩) ?_);(try go_frame);(try simp only [zA,zB,zC,zD,zE]);(refine D_ (i:=33) (v:=undef) rfl (by kernel_rfl) (by kernel_rfl) (by kernel_rfl) (by rfl) (by exact fun _ _ _ h=> h) (Or.inr ⟨by rfl,rfl⟩) ?_);(try go_frame);(try simp only [zA,zB,zC,zD,zE]);(refine D_ (i:=34) (v:=undef) rfl (by kernel_rfl) (by kernel_rfl) (by kernel_rfl) (by rfl) (by exact fun _ _ _ h=> h) (Or.inr ⟨by rfl,rfl⟩) ?_);(try go_frame);(try simp only [zA,zB,zC,zD,zE]);(refine D_ (i:=35) (v:=undef) rfl (by kernel_rfl) (by kernel_rfl) (by kernel_rfl) (by rfl) (by exact fun _ _ _ h=> h) (Or.inr ⟨by rfl,rfl⟩) ?_);(try go_frame);(try simp only [zA,zB,zC,zD,zE]);(refine D_ (i:=37) (v:=undef) rfl (by kernel_rfl) (by kernel_rfl) (by kernel_rfl) (by rfl) (by exact fun _ _ _ h=> h) (Or.inr ⟨by rfl,rfl⟩) ?_);(try go_frame);(try simp only [zA,zB,zC,zD,zE]);(refine D_ (i:=38) (v:=undef) rfl (by kernel_rfl) (by kernel_rfl) (by kernel_rfl) (by rfl) (by exact fun _ _ _ h=> h) (Or.inr ⟨by rfl,rfl⟩) ?_);(try go_frame);(try simp only [zA,zB,zC,zD,zE]);(refine D_ (i:=39) (v:=undef) rfl (by kernel_rfl) (by kernel_rfl) (by kernel_rfl) (by rfl) (by exact fun _ _ _ h=> h) (Or.inr ⟨by rfl,rfl⟩) ?_);(try go_frame);(try simp only [zA,zB,zC,zD,zE]);(refine D_ (i:=40) (v:=undef) rfl (by kernel_rfl) (by kernel_rfl) (by kernel_rfl) (by rfl) (by exact fun _ _ _ h=> h) (Or.inr ⟨by rfl,rfl⟩) ?_);(try go_frame);(try simp only [zA,zB,zC,zD,zE]);(refine D_ (i:=41) (v:=undef) rfl (by kernel_rfl) (by kernel_rfl) (by kernel_rfl) (by rfl) (by exact fun _ _ _ h=> h) (Or.inr ⟨by rfl,rfl⟩) ?_);(try go_frame);(try simp only [zA,zB,zC,zD,zE]);(refine D_ (i:=42) (v:=undef) rfl (by kernel_rfl) (by kernel_rfl) (by kernel_rfl) (by rfl) (by exact fun _ _ _ h=> h) (Or.inr ⟨by rfl,rfl⟩) ?_);(try go_frame);(try simp only [zA,zB,zC,zD,zE]);(refine D_ (i:=43) (v:=undef) rfl (by kernel_rfl) (by kernel_rfl) (by kernel_rfl) (by rfl) (by exact fun _ _ _ h=> h) (Or.inr ⟨by rfl,rfl⟩) ?_);(try go_frame);(try simp only [zA,zB,zC,zD,zE])
      (refine bZ_ (i:=36) (v:=undef) rfl (by kernel_rfl) (by kernel_rfl) (by kernel_rfl) (by kernel_rfl) (by exact fun _ _ _ h=> h) (by assumption) (Or.inr ⟨by rfl,rfl⟩) ?_);(try go_frame);(try simp only [zA,zB,zC,zD,zE]);(refine bZ_ (i:=44) (v:=undef) rfl (by kernel_rfl) (by kernel_rfl) (by kernel_rfl) (by kernel_rfl) (by exact fun _ _ _ h=> h) (by assumption) (Or.inr ⟨by rfl,rfl⟩) ?_);(try go_frame);(try simp only [zA,zB,zC,zD,zE])
      (refine D_ (i:=45) (v:=undef) rfl (by kernel_rfl) (by kernel_rfl) (by kernel_rfl) (by rfl) (by exact fun _ _ _ h=> h) (Or.inr ⟨by rfl,rfl⟩) ?_);(try go_frame);(try simp only [zA,zB,zC,zD,zE])
      refine PUq 46 ?_;(try go_frame);(try simp only [zA,zB,zC,zD,zE])
      refine c_ (by kernel_rfl) ?_ _
      clear hS
      by_cases hm:j % 7=3
      ·have z5:((j:Int)).tmod 7=3:=by rw [Int.tmod_eq_emod_of_nonneg (by omega)];omega
       have HSY:=hi_ (HF6.out.sync HK.out hcb hm (by omega))
       go_wp2_with fail
       refine HSY.out.mono ?_
       rintro e W7 ⟨p7,rfl,hdf7,v7,L7,sa7,c7,hc7,hf7⟩
       have hX7:=(BF.df (bs:= [tA]) hdf7 (by simp)).fresh HX6.out HYL.out (by simpa using HLA.out)
       have hEp:Ext [] W7 (W7.alloc (.cells #[.int .i64 p7.1,.int .i64 p7.2.1,.int .i64 p7.2.2.1,.string ⟨p7.2.2.2.toArray⟩] 34)):=(Ext.refl [] W7).alloc _
       have HF7:=hi_ (hf7.ext0 hEp)
       have HX7:=hi_ (hX7.trans hEp)
       clear hdf7 hf7 hX7 hEp HSY HF6 HX6
       simp only [bB_]
       go_wp2_with fail
       go_roundw
       case rel=> exact⟨j+1,c7,v7,L7,_,_,_,_,_,_,by go_num,by omega,hc7,HF7,HX7⟩
       case measure=> simp [intOf];omega
      ·have z5:(((j:Int)).tmod 7==3)=false:=by rw [Int.tmod_eq_emod_of_nonneg (by omega)];simp;omega
       have hcb':c<=bud (j+1):=Nat.le_trans hcb (fd_ (by omega))
       go_wp2_with fail
       go_roundw
       case rel=> exact⟨j+1,c,v6,L2,_,_,_,_,_,_,by go_num,by omega,hcb',HF6,HX6⟩
       case measure=> simp [intOf];omega
     ·have hb:(ea !=eb)=true:=by simpa using he
      have hkb:(x.1==z.1)=false:=by simpa using HNE.out he
      refine PUq 30 ?_;(try go_frame);(try simp only [zA,zB,zC,zD,zE]);refine PUq 31 ?_;(try go_frame);(try simp only [zA,zB,zC,zD,zE])
      refine PUq 32 ?_;(try go_frame);(try simp only [zA,zB,zC,zD,zE]);refine PUq 33 ?_;(try go_frame);(try simp only [zA,zB,zC,zD,zE]);refine PUq 37 ?_;(try go_frame);(try simp only [zA,zB,zC,zD,zE]);refine PUq 38 ?_;(try go_frame);(try simp only [zA,zB,zC,zD,zE]);refine PUq 40 ?_;(try go_frame);(try simp only [zA,zB,zC,zD,zE])
      refine PUq 34 ?_;(try go_frame);(try simp only [zA,zB,zC,zD,zE]);refine PUq 39 ?_;(try go_frame);(try simp only [zA,zB,zC,zD,zE])
      refine PUq 35 ?_;(try go_frame);(try simp only [zA,zB,zC,zD,zE]);refine PUq 41 ?_;(try go_frame);(try simp only [zA,zB,zC,zD,zE])
      refine PUq 42 ?_;(try go_frame);(try simp only [zA,zB,zC,zD,zE])
      refine PUq 43 ?_;(try go_frame);(try simp only [zA,zB,zC,zD,zE])
      refine ta 36 ?_;(try go_frame);(try simp only [zA,zB,zC,zD,zE]);refine ta 44 ?_;(try go_frame);(try simp only [zA,zB,zC,zD,zE])
      refine PUq 45 ?_;(try go_frame);(try simp only [zA,zB,zC,zD,zE]);refine PUq 46 ?_;(try go_frame);(try simp only [zA,zB,zC,zD,zE])
      refine c_ (by kernel_rfl) ?_ _
      clear hS hb hkb
      by_cases hm:j % 7=3
      ·have z5:((j:Int)).tmod 7=3:=by rw [Int.tmod_eq_emod_of_nonneg (by omega)];omega
       have HSY:=hi_ (HF6.out.sync HK.out hcb hm (by omega))
       go_wp2_with fail
       refine HSY.out.mono ?_
       rintro e W7 ⟨p7,rfl,hdf7,v7,L7,sa7,c7,hc7,hf7⟩
       have hX7:=(BF.df (bs:= [tA]) hdf7 (by simp)).fresh HX6.out HYL.out (by simpa using HLA.out)
       have hEp:Ext [] W7 (W7.alloc (.cells #[.int .i64 p7.1,.int .i64 p7.2.1,.int .i64 p7.2.2.1,.string ⟨p7.2.2.2.toArray⟩] 34)):=(Ext.refl [] W7).alloc _
       have HF7:=hi_ (hf7.ext0 hEp)
       have HX7:=hi_ (hX7.trans hEp)
       clear hdf7 hf7 hX7 hEp HSY HF6 HX6
       simp only [bB_]
       go_wp2_with fail
       go_roundw
       case rel=> exact⟨j+1,c7,v7,L7,_,_,_,_,_,_,by go_num,by omega,hc7,HF7,HX7⟩
       case measure=> simp [intOf];omega
      ·have z5:(((j:Int)).tmod 7==3)=false:=by rw [Int.tmod_eq_emod_of_nonneg (by omega)];simp;omega
       have hcb':c<=bud (j+1):=Nat.le_trans hcb (fd_ (by omega))
       go_wp2_with fail
       go_roundw
       case rel=> exact⟨j+1,c,v6,L2,_,_,_,_,_,_,by go_num,by omega,hcb',HF6,HX6⟩
       case measure=> simp [intOf];omega
    ·have z2: ¬(j:Int) < (i:Int):=by omega
     obtain rfl:j=i:=by omega
     have hsame:=HF.out.same
     obtain⟨X,hX⟩: ∃X,X=p_ sa.root:=⟨_,rfl⟩
     rw [<-hX] at hsame
     have hXl:X.length<=50:=by rw [hX];have:=HF.out.lena;omega
     have HXS:Hid (SrtK X):=hi_ (by rw [hX];exact HF.out.oka.srt.1)
     have HRA:Hid (∀(fr up:Ky) (W:World) (v':Sv),OrdR W y v' L2 tA yva gva sa tb yvb gvb sb xs j j j c->Calls Tryz.prog 16 #[.pointer (some ⟨tA,0,none⟩),.string ⟨fr.toArray⟩,.string ⟨up.toArray⟩,.int .i64 1000] W (fj_ y v' L2 (selR fr up X) W)):=hi_ (fun fr up W v' h=> by
      have h1:=dl_ y v' L2 tA yva gva sa fr up 1000 W h.sy h.dk.dsk h.tra h.oka.good (by decide) (by have:=h.lena;omega)
      rw [<-hX,List.take_of_length_le (Nat.le_trans (eB_ _ _ _) (by omega))] at h1
      exact h1)
     have HRB:Hid (∀(fr up:Ky) (W:World) (v':Sv),OrdR W y v' L2 tA yva gva sa tb yvb gvb sb xs j j j c->Calls Tryz.prog 16 #[.pointer (some ⟨tb,0,none⟩),.string ⟨fr.toArray⟩,.string ⟨up.toArray⟩,.int .i64 1000] W (fj_ y v' L2 (selR fr up X) W)):=hi_ (fun fr up W v' h=> by
      have h1:=dl_ y v' L2 tb yvb gvb sb fr up 1000 W h.sy h.dk.dsk h.trb h.okb.good (by decide) (by have:=h.lenb;omega)
      rw [hsame,List.take_of_length_le (Nat.le_trans (eB_ _ _ _) (by omega))] at h1
      exact h1)
     obtain⟨P,hP⟩: ∃P,P=selR [] cut X:=⟨_,rfl⟩
     obtain⟨Q,hQ⟩: ∃Q,Q=selR cut [] X:=⟨_,rfl⟩
     have hPl:P.length<=50:=by rw [hP];exact Nat.le_trans (eB_ _ _ _) hXl
     have hQl:Q.length<=50:=by rw [hQ];exact Nat.le_trans (eB_ _ _ _) hXl
     have HR1:=hi_ (HRA.out [] [])
     have HR3:=hi_ (HRA.out [] cut)
     have HR4:=hi_ (HRA.out cut [])
     rw [<-hP] at HR3
     rw [<-hQ] at HR4
     have HP0:Hid (cut= []->P=X/\Q=X):=hi_ (fun e=> by rw [hP,hQ,e,eC_];exact⟨rfl,rfl⟩)
     have HP1:Hid (cut≠ []->P++Q=X):=hi_ (fun e=> by rw [hP,hQ];exact sel_cut HXS.out e)
     clear hX hsame hP hQ HRA HXS
     go_wp2_with fail
     refine(HR1.out _ _ HF.out).mono ?_
     rintro e WA ⟨u1,va,rfl,how1, -,hs1,hv1,hd1,hf1⟩
     simp only [eC_] at how1
     have HA:=hi_ (HF.out.read hs1 hv1 hd1 (BF.of hf1))
     have HXA:=hi_ ((BF.of (bs:= []) hf1).fresh HE.out HYL.out (by simp))
     obtain⟨p1,c1,rfl, -⟩:=how1.rd.len_eq
     have HO1:=hi_ how1
     clear how1 hs1 hv1 hd1 hf1 HF HE
     go_wp2_with fail
     refine(HRB.out [] [] _ _ HA.out).mono ?_
     rintro e WB ⟨u2,vb,rfl,how2, -,hs1,hv1,hd1,hf1⟩
     simp only [eC_] at how2
     have HB:=hi_ (HA.out.read hs1 hv1 hd1 (BF.of hf1))
     have HXB:=hi_ ((BF.of (bs:= []) hf1).fresh HXA.out HYL.out (by simp))
     obtain⟨p2,c2,rfl, -⟩:=how2.rd.len_eq
     have HO2:=hi_ (And.intro (bh_ HO1.out HA.out.sy hf1) how2)
     clear how2 hs1 hv1 hd1 hf1 HA HXA HO1
     go_wp2_with fail
     refine(HR3.out _ _ HB.out).mono ?_
     rintro e WC ⟨u3,vc,rfl,how3, -,hs1,hv1,hd1,hf1⟩
     have HC:=hi_ (HB.out.read hs1 hv1 hd1 (BF.of hf1))
     have HXC:=hi_ ((BF.of (bs:= []) hf1).fresh HXB.out HYL.out (by simp))
     obtain⟨p3,c3,rfl, -⟩:=how3.rd.len_eq
     have HO3:=hi_ (And.intro (bh_ HO2.out.1 HB.out.sy hf1) (And.intro (bh_ HO2.out.2 HB.out.sy hf1) how3))
     clear how3 hs1 hv1 hd1 hf1 HB HXB HO2
     go_wp2_with fail
     refine(HR4.out _ _ HC.out).mono ?_
     rintro e WD ⟨u4,vd,rfl,how4, -,hs1,hv1,hd1,hf1⟩
     have HXD:=hi_ ((BF.of (bs:= []) hf1).fresh HXC.out HYL.out (by simp))
     obtain⟨p4,c4,rfl, -⟩:=how4.rd.len_eq
     have HO4:=hi_ (And.intro (bh_ HO3.out.1 HC.out.sy hf1) (And.intro (bh_ HO3.out.2.1 HC.out.sy hf1) (And.intro (bh_ HO3.out.2.2 HC.out.sy hf1) how4)))
     clear how4 hs1 hv1 hd1 hf1 HC HXC HO3 HR1 HR3 HR4 HRB
     have hsm:=fJ_ _ _ _ _ WD HO4.out.1.rd HO4.out.2.1.rd (by omega) (by omega)
     simp only [decide_true] at hsm
     have HSM:=hi_ hsm
     clear hsm
     go_wp2_with fail
     refine HSM.out.mono ?_
     rintro e WE ⟨rfl,hEE⟩
     have HXE:=hi_ (HXD.out.trans hEE)
     have HO5:=hi_ (And.intro (HO4.out.1.ext0 hEE) (And.intro (HO4.out.2.2.1.ext0 hEE) (HO4.out.2.2.2.ext0 hEE)))
     clear hEE HSM HXD HO4
     by_cases hc:cut= []
     ·obtain⟨e1,e2⟩:=HP0.out hc
      subst hc
      have HS1:=hi_ (fun W (hE:Ext [] WE W)=> by
       have h1:=fJ_ _ _ _ _ W (HO5.out.2.1.ext0 hE).rd (HO5.out.1.ext0 hE).rd (by omega) (by omega)
       rw [decide_eq_true e1] at h1
       exact h1)
      have HS2:=hi_ (fun W (hE:Ext [] WE W)=> by
       have h1:=fJ_ _ _ _ _ W (HO5.out.2.2.ext0 hE).rd (HO5.out.1.ext0 hE).rd (by omega) (by omega)
       rw [decide_eq_true e2] at h1
       exact h1)
      clear e1 e2
      go_wp2_with fail
      refine(HS1.out _ (Ext.refl [] WE)).mono ?_
      rintro e W6 ⟨rfl,hE6⟩
      have HE6:=hi_ hE6
      clear hE6
      go_wp2_with fail
      refine(HS2.out _ HE6.out).mono ?_
      rintro e W7 ⟨rfl,hE7⟩
      have HX7:=hi_ ((HXE.out.trans HE6.out).trans hE7)
      clear hE7
      go_wp2_with fail
      go_ret
      exact⟨rfl,HX7.out⟩
     ·have hPQ:=HP1.out hc
      have hcb:(cut== [])=false:=by simpa using hc
      go_wp2_with (with_reducible refine f_ (d:=197) ?_)
      have hEa:=(Ext.refl [] WE).alloc (.cells #[] 36)
      refine k_ rfl fun K hK=> b_ (s:= .tmp 195) (x:= .tmp 196) (E:=EPr) (T:=36) (zero:=([],[])) (bytes:=32) (v:= .slice (some ⟨WE.heap.size,0,none⟩) 0 0) (u:= .slice p3 P.length c3) (xs:= []) (ys:=P) tiPr Tryz.underlying22 Tryz.underlying22 rfl rfl rfl (iB_ WE rfl) (HO5.out.2.1.ext0 hEa).rd (by simp;omega) (by simp;omega) ?_
      intro v6 W6 how6 hext6 hnear6 _
      obtain⟨hE6,hf6⟩:=C_ hEa (by simp [blkL]) hext6 hnear6
      simp only [List.nil_append] at how6
      obtain⟨p6,c6,rfl, -⟩:=how6.rd.len_eq
      obtain⟨HO6,HE6,HF6⟩:=h_3 how6 hE6 hf6
      refine hK _ _ ?_
      clear hK how6 hext6 hnear6 hE6 hf6 hEa
      go_wp2_with (with_reducible refine f_ (d:=199) ?_)
      refine k_ rfl fun K hK=> b_ (s:= .tmp 197) (x:= .tmp 198) (E:=EPr) (T:=36) (zero:=([],[])) (bytes:=32) (v:= .slice p6 P.length c6) (u:= .slice p4 Q.length c4) (xs:=P) (ys:=Q) tiPr Tryz.underlying22 Tryz.underlying22 rfl rfl rfl HO6.out (HO5.out.2.2.ext0 HE6.out).rd (by omega) (by omega) ?_
      intro v7 W7 how7 hext7 hnear7 _
      obtain⟨hE7, -⟩:=C_ HE6.out HF6.out hext7 hnear7
      rw [hPQ] at how7
      obtain⟨p7,c7,rfl, -⟩:=how7.rd.len_eq
      have hsm:=fJ_ _ _ _ _ W7 how7.rd (HO5.out.1.ext0 hE7).rd (by omega) (by omega)
      simp only [decide_true] at hsm
      have HSM:=hi_ hsm
      have HX7:=hi_ (HXE.out.trans hE7)
      refine hK _ _ ?_
      clear hK how7 hext7 hnear7 hE7 hsm
      go_wp2_with fail
      refine HSM.out.mono ?_
      rintro e W8 ⟨rfl,hE8⟩
      have HX8:=hi_ (HX7.out.trans hE8)
      clear hE8
      go_wp2_with fail
      go_ret
      exact⟨rfl,HX8.out⟩
end Go.Proofs.YtkpgjkekmdecbaaGreat
