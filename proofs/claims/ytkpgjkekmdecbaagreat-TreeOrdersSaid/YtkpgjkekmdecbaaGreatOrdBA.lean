/- Lemmas for the claim. No conditions beside those that each states. -/
import Derived.Test.YtkpgjkekmdecbaaGreatOrdAZ
import Derived.Test.YtkpgjkekmdecbaaGreatOrdAH
import Derived.Test.YtkpgjkekmdecbaaGreatOrdAY
set_option maxRecDepth 100000
set_option maxHeartbeats 8000000
set_option linter.all false

namespace Go.Proofs.YtkpgjkekmdecbaaGreat
open Go.RowKit
variable {w w' W:World} {T:TypeId} {gv:Value} {n g tb cb:Nat} {bs:List Nat} {key:Ky} {l:List Pr} {yv:Rfm} {f:List Pr -> Except Int (List Pr)} {y:Sy} {v:Sv} {L:List Blk} {s:TS}
theorem CF.low (hy:SyR w y v) (h:CF y cb w w') {c:Array Value} {fr:Nat×Nat} (hg:w.heap[g]? =some (.cells c T fr)) (hlt:g < cb) (hT:T∉ [117,143,168,339,175]):w'.heap[g]? =some (.cells c T fr):=by
 obtain⟨S,h1,h2⟩:=h
 refine h1.blk hg (fun hm=> ?_)
 have htg:=d_ hg
 simp only [List.mem_cons,List.not_mem_nil,or_false,not_or] at hT
 rcases h2 g hm with h | h
 ·rcases h with h | ⟨T',h3,h4,_⟩
  ·simp only [List.mem_cons,List.not_mem_nil,or_false] at h
   rcases h with rfl | rfl | rfl
   ·rw [hy.st.tag] at htg;cases htg;exact hT.1 rfl
   ·rw [hy.rk.tag.1] at htg;cases htg;exact hT.2.1 rfl
   ·rw [hy.sp.tag] at htg;cases htg;exact hT.2.2.1 rfl
  ·rw [h4] at htg
   cases htg
   simp only [List.mem_cons,List.not_mem_nil,or_false] at h3
   rcases h3 with rfl | rfl
   ·exact hT.2.2.2.1 rfl
   ·exact hT.2.2.2.2 rfl
 ·omega
theorem DF.tree2 {tb z:Nat} {a b c:World} (h:SyF y a b) (k:Ext [tb,z] b c) (hz:a.heap.size<=z):DF y tb a c:=by
 obtain⟨S,h1,h2⟩:=h
 refine⟨tb::S,h1.trans' k (fun x hx=> .inl (List.mem_cons_of_mem _ hx)) (fun x hx=> ?_),fun x hx=> ?_⟩
 ·simp at hx
  rcases hx with rfl | rfl
  ·exact .inl (by simp)
  ·exact .inr hz
 ·rcases List.mem_cons.1 hx with rfl | hx
  ·exact .inr rfl
  ·exact .inl (h2 x hx)
theorem TreeR.res {z:Rfm} (h:TreeR w y tb yv gv s) (ho:RtOk L s.root) (hb:w.heap[g]? =some (.cells #[.int .i64 0,.int .i64 0,.int .i64 0,.string ⟨#[]⟩,.pointer none] 89 (0,0))) (hb':w'.heap[g]? =some (.cells (ERf.flat [z]).toArray 89 (0,0))) (he:Ext [g] w w'):TreeR w' y tb yv gv s:=by
 have ht:=d_ hb
 refine⟨he.blk h.blk (fun hm=> ?_), ?_,h.gone.ext he (fun x hx hm=> ?_)⟩
 ·simp at hm;subst hm;rw [d_ h.blk] at ht;cases ht
 ·have hr:=h.root
  cases hs:s.root with
  | none=> rw [hs] at hr;exact hr
  | some x=>
   obtain⟨n,x⟩:=x
   rw [hs] at hr ho
   exact KidR.mono hr (fun b hn=> NodeR.res hb hb' he n b _ ho.2.okQ hn)
 ·simp at hm;subst hm;rw [h.gone.tagOf _ hx] at ht;cases ht
def SyncPost (y:Sy) (v:Sv) (L:List Blk) (tb:Nat) (yv:Rfm) (gv:Value) (s:TS) (w:World) (e:Ending) (w':World):Prop:=
 ∃v' L',(∃q r' ms,PutsR y v v' L L' ms/\WroteR L' s.root r' q ms/\F_ y.k ms<=unwR y.k s.root/\e= .returned (.tuple #[bB_ q,gv,.int .i64 0])/\SyR w' y v'/\TreeR w' y tb (q,none) (.slice none 0 0) ⟨r',[],false⟩/\EP.Ow 34 w' gv s.gone/\DF y tb w w')\/
  (e= .returned (.tuple #[bB_ P0,.slice none 0 0,.int .i64 5])/\FailR y v v' L L'/\(∃vx Lx ms,PutsR y v vx L Lx ms/\ ∃z,F_ y.k ms+z<=unwR y.k s.root/\NoRoomZ y.k vx z)/\SyR w' y v'/\TreeR w' y tb yv gv s/\DF y tb w w')
theorem hd_ (y:Sy) (v:Sv) (L:List Blk) (tb:Nat) (yv:Rfm) (gv:Value) (s:TS) (w:World) (h:SyR w y v) (hd:DkS y v L) (ht:TreeR w y tb yv gv s) (hr:RtOk L s.root) (hb:WrB v []):
  Calls Tryz.prog 15 #[.pointer (some ⟨tb,0,none⟩)] w (SyncPost y v L tb yv gv s w):=by
 have hE0:Ext [] w ((w.alloc (.cells #[.int .i64 0,.int .i64 0,.int .i64 0,.string ⟨#[]⟩] 34)).alloc (.cells #[.slice none 0 0] 38)):=((Ext.refl [] w).alloc _).alloc _
 have hrb:((w.alloc (.cells #[.int .i64 0,.int .i64 0,.int .i64 0,.string ⟨#[]⟩] 34)).alloc (.cells #[.slice none 0 0] 38)).heap[w.heap.size]? =some (.cells #[.int .i64 0,.int .i64 0,.int .i64 0,.string ⟨#[]⟩] 34 (0,0)):=((Ext.refl [] _).alloc _).blk (heap_alloc_new w _) (by simp)
 have hpb:((w.alloc (.cells #[.int .i64 0,.int .i64 0,.int .i64 0,.string ⟨#[]⟩] 34)).alloc (.cells #[.slice none 0 0] 38)).heap[w.heap.size+1]? =some (.cells #[.slice none 0 0] 38 (0,0)):=am_ (by simp)
 have ht0:=ht.ext0 hE0
 have hglt: ∀g∈blkL gv,g < w.heap.size:=ht.gone.lt
 obtain⟨pg,cg,hgv,_⟩:=ht.gone.rd.len_eq
 obtain⟨G,hG⟩: ∃G,G=s.gone.length:=⟨_,rfl⟩
 rw [<-hG] at hgv
 subst hgv
 obtain⟨pv,hpv⟩: ∃q,q=Option.map (fun b=> (⟨b,0,none⟩:Addr)) yv.2:=⟨_,rfl⟩
 obtain⟨c0,c1,c2,c3,c4,c5, -, -⟩:=ht0.cells
 simp only [ptV] at c5
 rw [<-hpv] at c5
 obtain⟨HRB,HPB,HT,HGLT,HPV⟩:=h_5 hrb hpb ht0 hglt hpv
 have HSY:=hi_ (h.ext0 hE0)
 obtain⟨HDK,HRT,HWB,HE0⟩:=h_4 hd hr hb hE0
 clear h hd ht hr hb hE0 hrb hpb ht0 hglt hpv hG
 obtain⟨rb,hrbe⟩: ∃z,z=w.heap.size:=⟨_,rfl⟩
 obtain⟨pb,hpbe⟩: ∃z,z=w.heap.size+1:=⟨_,rfl⟩
 obtain⟨HRBE,HPBE⟩:=h_2 hrbe hpbe
 rw [<-hrbe] at HRB
 rw [<-hpbe] at HPB
 go_enter Tryz.func15,Tryz.ntmps15
 go_wp2_with fail
 try simp only [<-hpbe]
 try simp only [<-hrbe]
 clear hrbe hpbe
 revert HRB HPB HT HSY HE0 c0 c1 c2 c3 c4 c5
 generalize World.alloc _ _=W0
 intro c0 c1 c2 c3 c4 c5 HT HSY HE0 HRB HPB
 have hSS: ∀W,TreeR W y tb yv (.slice pg G cg) s->W.cell? ⟨tb,0,none⟩=some (.pointer (some ⟨y.b,0,none⟩))/\W.cell? ⟨tb,1,none⟩=some (.int .i64 yv.1.1)/\W.cell? ⟨tb,2,none⟩=some (.int .i64 yv.1.2.1)/\W.cell? ⟨tb,3,none⟩=some (.int .i64 yv.1.2.2.1)/\W.cell? ⟨tb,4,none⟩=some (.string ⟨yv.1.2.2.2.toArray⟩)/\W.cell? ⟨tb,5,none⟩=some (.pointer pv):=fun W h=> by
  obtain⟨d0,d1,d2,d3,d4,d5, -, -⟩:=h.cells
  rw [ptV,<-HPV.out] at d5
  exact⟨d0,d1,d2,d3,d4,d5⟩
 have HSS:=hi_ hSS
 have hwr: ∀W,Ext [] W0 W->Calls Tryz.prog 46 #[.pointer (some ⟨y.b,0,none⟩),refV yv,.pointer (some ⟨pb,0,none⟩)] W (RootWP y v L pb s.root W):=fun W hE=> fx_ ⟨HSY.out.ext0 hE,HDK.out,_,hE.blk HPB.out (by simp),.inl ⟨rfl,rfl⟩,by simp [blkL]⟩ (HT.out.ext0 hE).root HRT.out HWB.out
 simp only [refV,ptV] at hwr
 rw [<-HPV.out] at hwr
 have HWR:=hi_ hwr
 have HC8:Hid (∀W W8 v8 L8 ms,Ext [] W0 W->WrRes y v L pb [] W v8 L8 ms W8->SyR W8 y v8/\PutC W8 pb ms/\TreeR W8 y tb yv (.slice pg G cg) s/\W8.heap[rb]? =some (.cells #[.int .i64 0,.int .i64 0,.int .i64 0,.string ⟨#[]⟩] 34 (0,0))/\SyF y w W8):=hi_ (fun W W8 v8 L8 ms hE hr=> by
  refine⟨hr.ws.sy,hr.ws.put,(HT.out.ext0 hE).cf (HSY.out.ext0 hE) hr.cf (fun g hg=> by rw [HPBE.out];have:=HGLT.out g hg;omega),CF.low (HSY.out.ext0 hE) hr.cf (hE.blk HRB.out (by simp)) (by rw [HRBE.out,HPBE.out];omega) (by decide), ?_⟩
  exact((CF.of0 (HE0.out.trans hE)).trans hr.cf).syf (by rw [HPBE.out];omega))
 have hD:=(Ext.refl [] W0).drew
 clear hSS hwr
 refine e_ (fun W=> W.cell? ⟨tb,0,none⟩=some (.pointer (some ⟨y.b,0,none⟩))/\W.cell? ⟨tb,1,none⟩=some (.int .i64 yv.1.1)/\W.cell? ⟨tb,2,none⟩=some (.int .i64 yv.1.2.1)/\W.cell? ⟨tb,3,none⟩=some (.int .i64 yv.1.2.2.1)/\W.cell? ⟨tb,4,none⟩=some (.string ⟨yv.1.2.2.2.toArray⟩)/\W.cell? ⟨tb,5,none⟩=some (.pointer pv)) (fun i=> i==3 || i==7 || i==12) (by kernel_rfl) ⟨hD.cell c0 (by simp),hD.cell c1 (by simp),hD.cell c2 (by simp),hD.cell c3 (by simp),hD.cell c4 (by simp),hD.cell c5 (by simp)⟩ (fun hS=> ?_)
 refine PUq 0 ?_;(try go_frame);refine PUq 4 ?_;(try go_frame);refine PUq 1 ?_;(try go_frame);refine PUq 5 ?_;(try go_frame);refine PUq 2 ?_;(try go_frame);refine PUq 6 ?_;(try go_frame);(try simp only [zA,zB,zC,zD,zE])
 refine ta 3 ?_;(try go_frame);refine ta 7 ?_;(try go_frame);(try simp only [zA,zB,zC,zD,zE])
 refine an_ (i:=8) (j:=12) (by kernel_rfl) rfl rfl (fun K hK=> ?_) (fun K hK=> ?_)
 ·(try simp only [Act.put,zA,zB,zC,List.setIfInBounds_toArray,zD,zE]);refine iw rfl ?_
  go_simp
  refine(HWR.out _ hD).mono ?_
  rintro e W8 ⟨v8,L8,ms,hres8,hc8⟩
  have h8:=HC8.out _ _ _ _ _ hD hres8
  have HPR:=hi_ hres8.pr
  have H8:=hi_ h8
  clear hres8 h8 c0 c1 c2 c3 c4 c5
  rcases hc8 with ⟨q,r',rfl,hwr,hle⟩ | ⟨rfl,hno⟩
  ·have HWO:=hi_ hwr
   have HLE:=hi_ hle
   clear hwr hle
   simp only [refV,ptV,Option.map_none]
   refine nk hK ?_
   clear hK hS hD
   refine PUq 9 ?_;(try go_frame);(try simp only [zA,zB,zC,zD,zE]);refine PUq 10 ?_;(try go_frame);(try simp only [zA,zB,zC,zD,zE]);refine PUq 11 ?_;(try go_frame);(try simp only [zA,zB,zC,zD,zE])
   refine a_ (i:=12) (by kernel_rfl) rfl (fun K hK=> ?_)
   (try simp only [Act.put,zA,zB,zC,List.setIfInBounds_toArray,zD,zE]);refine iw rfl ?_
   go_simp
   have hEb:=(Ext.refl [] W8).alloc (.cells #[.int .i64 0,.int .i64 0,.int .i64 0,.string ⟨#[]⟩,.pointer none] 89)
   have hbb:=heap_alloc_new W8 (.cells #[.int .i64 0,.int .i64 0,.int .i64 0,.string ⟨#[]⟩,.pointer none] 89)
   refine hK.out _ _ (fun _=> HSS.out _ (H8.out.2.2.1.ext0 hEb)) (fun _=> ?_)
   obtain⟨bx,hbx⟩: ∃z,z=W8.heap.size:=⟨_,rfl⟩
   rw [<-hbx] at hbb
   try simp only [<-hbx]
   have hbge:w.heap.size<=bx:=by rw [hbx];exact ExtT.size H8.out.2.2.2.2
   have H9:Hid (SyR (W8.alloc (.cells #[.int .i64 0,.int .i64 0,.int .i64 0,.string ⟨#[]⟩,.pointer none] 89)) y v8/\PutC (W8.alloc (.cells #[.int .i64 0,.int .i64 0,.int .i64 0,.string ⟨#[]⟩,.pointer none] 89)) pb ms/\TreeR (W8.alloc (.cells #[.int .i64 0,.int .i64 0,.int .i64 0,.string ⟨#[]⟩,.pointer none] 89)) y tb yv (.slice pg G cg) s/\(W8.alloc (.cells #[.int .i64 0,.int .i64 0,.int .i64 0,.string ⟨#[]⟩,.pointer none] 89)).heap[rb]? =some (.cells #[.int .i64 0,.int .i64 0,.int .i64 0,.string ⟨#[]⟩] 34 (0,0))/\SyF y w (W8.alloc (.cells #[.int .i64 0,.int .i64 0,.int .i64 0,.string ⟨#[]⟩,.pointer none] 89))):=hi_ ⟨H8.out.1.ext0 hEb,H8.out.2.1.ext hEb (by simp),H8.out.2.2.1.ext0 hEb,hEb.blk H8.out.2.2.2.1 (by simp),H8.out.2.2.2.2.trans (SyF.of0 hEb)⟩
   obtain⟨HBB,HBG⟩:=h_2 hbb hbge
   clear hK hEb hbb hbx H8 hbge
   revert H9 HBB
   generalize World.alloc _ _=W9
   intro H9 HBB
   refine a_ (i:=13) (by kernel_rfl) rfl (fun K hK=> ?_)
   rw [if_pos (show Region.wanted _ _=true from rfl)]
   have hq5:=aj_ HBB.out
   obtain⟨q0,q1,q2,q3,q4,hfz⟩:=hq5
   obtain⟨hs,hE10⟩:=set5 HBB.out (.int .i64 (q).1) (.int .i64 (q).2.1) (.int .i64 (q).2.2.1) (.string ⟨(q).2.2.2.toArray⟩) (.pointer none)
   have htg:=d_ HBB.out
   have hT9:=H9.out.2.2.1
   have hne: ∀k∈ [bx],∀T∈(38::34::91::aH_),r_ W9 k≠some T:=by simp only [List.mem_singleton,forall_eq,htg];decide
   have HBB10:=hi_ hs
   have H10:=hi_ (⟨H9.out.1.otherT hE10 (fun k hk T hT=> hne k hk T (by revert T;decide)),H9.out.2.1.ext hE10 (fun k hk T hT=> hne k hk T (by revert T;decide)),hT9.res HRT.out HBB.out (z:=(q,none)) hs hE10,hE10.blk H9.out.2.2.2.1 (by simp;intro e;rw [<-e] at htg;rw [d_ H9.out.2.2.2.1] at htg;cases htg),H9.out.2.2.2.2.new hE10 HBG.out⟩:SyR _ y v8/\PutC _ pb ms/\TreeR _ y tb yv (.slice pg G cg) s/\_/\SyF y w _)
   clear hT9 hne hs hE10 htg H9 HBB
   go_simp
   refine nk hK ?_
   clear hK hfz q0 q1 q2 q3 q4
   refine PUq 14 ?_;(try go_frame);(try simp only [zA,zB,zC,zD,zE])
   refine c_ (by kernel_rfl) ?_ _
   revert H10 HBB10
   generalize World.setCell _ _ _=W10
   intro HBB10 H10
   have hT:=H10.out.2.2.1
   have hrb10:=H10.out.2.2.2.1
   have hblk:=hT.blk
   simp only [br_,ptV] at hblk
   obtain⟨q0,q1,q2,q3,q4,q5,q6,q7⟩:=hT.cells
   simp only [ptV] at q5
   have hfz: ∀j,W10.frozen? ⟨tb,j,none⟩=false:=fun j=> frozen_of_row _ _ _ _ _ hblk
   obtain⟨x0,x1,x2,x3,x4, -⟩:=aj_ HBB10.out
   obtain⟨p0,p1,p2,p3,hfr⟩:=M_ hrb10
   have htt:=d_ hblk
   have htr:=d_ hrb10
   have htb:=d_ HBB10.out
   have hn1: ¬bx=tb:=fun e=> by rw [e,htt] at htb;cases htb
   have hn2: ¬rb=tb:=fun e=> by rw [e,htt] at htr;cases htr
   have hn3: ¬tb=rb:=fun e=> hn2 e.symm
   have hn4: ¬tb=bx:=fun e=> hn1 e.symm
   obtain⟨HTT,HTR,HBK,HRB10,HT10⟩:=h_5 htt htr hblk hrb10 hT
   clear htt htr htb hblk hrb10 hT
   go_wp2_with fail
   obtain⟨hs,hE11⟩:=set8 HBK.out (.int .i64 q.1) (.int .i64 q.2.1) (.int .i64 q.2.2.1) (.string ⟨q.2.2.2.toArray⟩) (.pointer none) (.slice none 0 0) (.bool false)
   have hrb11:=hE11.blk HRB10.out (by simpa using hn2)
   obtain⟨hs2,hE12⟩:=set4 hrb11 (.int .i64 q.1) (.int .i64 q.2.1) (.int .i64 q.2.2.1) (.string ⟨q.2.2.2.toArray⟩)
   obtain⟨r0,r1,r2,r3,_⟩:=M_ hs2
   refine bodyPost_ret (v:= .tuple #[bB_ q,.slice pg G cg,.int .i64 0]) (by simp [results,Tryz.results15,go_sem,r0,r1,r2,r3]) rfl ?_
   have htr11:=d_ hrb11
   refine⟨v8,L8,.inl ⟨q,r',ms,HPR.out,HWO.out,HLE.out,rfl,(H10.out.1.otherT hE11 (by simp only [List.mem_singleton,forall_eq,HTT.out];decide)).otherT hE12 (by simp only [List.mem_singleton,forall_eq,htr11];decide),⟨hE12.blk hs (by simpa using hn3), ?_,.inl ⟨rfl,rfl⟩⟩, ?_,DF.tree2 H10.out.2.2.2.2 ((hE11.mono (S':= [tb,rb]) (by simp)).trans (hE12.mono (S':= [tb,rb]) (by simp))) (by rw [HRBE.out];exact Nat.le_refl _)⟩⟩
   ·have hat:=HWO.out.at_
    cases r' with
    | none=> rw [show q=P0 from hat];rfl
    | some x=>
     obtain⟨n,x⟩:=x
     have hat:x.1=some q:=hat
     show KidR _ (q,none) x
     unfold KidR
     simp only [hat]
   ·refine(HT10.out.gone.ext hE11 (fun g hg hm=> ?_)).ext hE12 (fun g hg hm=> ?_)
    ·simp at hm
     rw [hm] at hg
     have h1:=HT10.out.gone.tagOf tb hg
     rw [HTT.out] at h1
     cases h1
    ·simp at hm
     have h1:=HGLT.out g hg
     rw [hm,HRBE.out] at h1
     omega
  ·have HNO:Hid (∃vx Lx ms,PutsR y v vx L Lx ms/\ ∃z,F_ y.k ms+z<=unwR y.k s.root/\NoRoomZ y.k vx z):=hi_ ⟨v8,L8,ms,HPR.out,hno⟩
   clear hno
   simp only [refV,ptV,Option.map_none]
   refine nk hK ?_
   clear hK hS hD
   refine PUq 9 ?_;(try go_frame);(try simp only [zA,zB,zC,zD,zE]);refine PUq 10 ?_;(try go_frame);(try simp only [zA,zB,zC,zD,zE]);refine PUq 11 ?_;(try go_frame);(try simp only [zA,zB,zC,zD,zE])
   refine a_ (i:=12) (by kernel_rfl) rfl (fun K hK=> ?_)
   (try simp only [Act.put,zA,zB,zC,List.setIfInBounds_toArray,zD,zE]);refine iw rfl ?_
   go_simp
   have hEb:=(Ext.refl [] W8).alloc (.cells #[.int .i64 0,.int .i64 0,.int .i64 0,.string ⟨#[]⟩,.pointer none] 89)
   have hbb:=heap_alloc_new W8 (.cells #[.int .i64 0,.int .i64 0,.int .i64 0,.string ⟨#[]⟩,.pointer none] 89)
   refine hK.out _ _ (fun _=> HSS.out _ (H8.out.2.2.1.ext0 hEb)) (fun _=> ?_)
   obtain⟨bx,hbx⟩: ∃z,z=W8.heap.size:=⟨_,rfl⟩
   rw [<-hbx] at hbb
   try simp only [<-hbx]
   have hbge:w.heap.size<=bx:=by rw [hbx];exact ExtT.size H8.out.2.2.2.2
   have H9:Hid (SyR (W8.alloc (.cells #[.int .i64 0,.int .i64 0,.int .i64 0,.string ⟨#[]⟩,.pointer none] 89)) y v8/\PutC (W8.alloc (.cells #[.int .i64 0,.int .i64 0,.int .i64 0,.string ⟨#[]⟩,.pointer none] 89)) pb ms/\TreeR (W8.alloc (.cells #[.int .i64 0,.int .i64 0,.int .i64 0,.string ⟨#[]⟩,.pointer none] 89)) y tb yv (.slice pg G cg) s/\(W8.alloc (.cells #[.int .i64 0,.int .i64 0,.int .i64 0,.string ⟨#[]⟩,.pointer none] 89)).heap[rb]? =some (.cells #[.int .i64 0,.int .i64 0,.int .i64 0,.string ⟨#[]⟩] 34 (0,0))/\SyF y w (W8.alloc (.cells #[.int .i64 0,.int .i64 0,.int .i64 0,.string ⟨#[]⟩,.pointer none] 89))):=hi_ ⟨H8.out.1.ext0 hEb,H8.out.2.1.ext hEb (by simp),H8.out.2.2.1.ext0 hEb,hEb.blk H8.out.2.2.2.1 (by simp),H8.out.2.2.2.2.trans (SyF.of0 hEb)⟩
   obtain⟨HBB,HBG⟩:=h_2 hbb hbge
   clear hK hEb hbb hbx H8 hbge
   revert H9 HBB
   generalize World.alloc _ _=W9
   intro H9 HBB
   refine a_ (i:=13) (by kernel_rfl) rfl (fun K hK=> ?_)
   rw [if_pos (show Region.wanted _ _=true from rfl)]
   have hq5:=aj_ HBB.out
   obtain⟨q0,q1,q2,q3,q4,hfz⟩:=hq5
   obtain⟨hs,hE10⟩:=set5 HBB.out (.int .i64 (P0).1) (.int .i64 (P0).2.1) (.int .i64 (P0).2.2.1) (.string ⟨(P0).2.2.2.toArray⟩) (.pointer none)
   have htg:=d_ HBB.out
   have hT9:=H9.out.2.2.1
   have hne: ∀k∈ [bx],∀T∈(38::34::91::aH_),r_ W9 k≠some T:=by simp only [List.mem_singleton,forall_eq,htg];decide
   have HBB10:=hi_ hs
   have H10:=hi_ (⟨H9.out.1.otherT hE10 (fun k hk T hT=> hne k hk T (by revert T;decide)),H9.out.2.1.ext hE10 (fun k hk T hT=> hne k hk T (by revert T;decide)),hT9.res HRT.out HBB.out (z:=(P0,none)) hs hE10,hE10.blk H9.out.2.2.2.1 (by simp;intro e;rw [<-e] at htg;rw [d_ H9.out.2.2.2.1] at htg;cases htg),H9.out.2.2.2.2.new hE10 HBG.out⟩:SyR _ y v8/\PutC _ pb ms/\TreeR _ y tb yv (.slice pg G cg) s/\_/\SyF y w _)
   clear hT9 hne hs hE10 htg H9 HBB
   go_simp
   refine nk hK ?_
   clear hK hfz q0 q1 q2 q3 q4
   refine PUq 14 ?_;(try go_frame);(try simp only [zA,zB,zC,zD,zE])
   refine c_ (by kernel_rfl) ?_ _
   revert H10 HBB10
   generalize World.setCell _ _ _=W10
   intro HBB10 H10
   obtain⟨gvp,g1,g2,g3⟩:=H10.out.2.1
   obtain⟨pm,cm,rfl,hcm⟩:=g2.rd.len_eq
   obtain⟨LN,hK9⟩: ∃z,z=ms.length:=⟨_,rfl⟩
   rw [<-hK9] at g1 g2 g3 hcm
   have hLN:LN<=500000:=by
    have h1:=df_ rfl HPR.out.new HPR.out.dk
    have h2:=HPR.out.cnt
    have h3:=HWB.out.ps
    have h4:=aX_ H10.out.1.spi.okF
    simp only [List.length_nil] at h3
    omega
   have gc:W10.cell? ⟨pb,0,none⟩=some (.slice pm LN cm):=by rw [cell_of_row _ pb 0 _ _ _ g1];rfl
   have HK9:=hi_ hK9
   have HI0:Hid (GivI y v v8 L ms 0 v8 L8):=hi_ (GivI.start HPR.out)
   have HM0:Hid (SyR W10 y v8/\EP.Ow 34 W10 (.slice pm LN cm) ms/\TreeR W10 y tb yv (.slice pg G cg) s/\W10.heap[rb]? =some (.cells #[.int .i64 0,.int .i64 0,.int .i64 0,.string ⟨#[]⟩] 34 (0,0))/\SyF y w W10):=hi_ ⟨H10.out.1,g2,H10.out.2.2.1,H10.out.2.2.2.1,H10.out.2.2.2.2⟩
   clear hK9 g1 g2 g3
   go_wp2_with fail
   clear gc
   go_loopw [30] (fun iv wr=> ∃(i:Nat) (vi:Sv) (Li:List Blk),iv= .int .i64 i/\i<=LN/\Hid (GivI y v v8 L ms i vi Li)/\Hid (SyR wr y vi/\EP.Ow 34 wr (.slice pm LN cm) ms/\TreeR wr y tb yv (.slice pg G cg) s/\wr.heap[rb]? =some (.cells #[.int .i64 0,.int .i64 0,.int .i64 0,.string ⟨#[]⟩] 34 (0,0))/\SyF y w wr)) (fun iv _=> LN - (intOf iv).toNat)
   case atStart=> exact⟨0,v8,L8,rfl,Nat.zero_le _,HI0,HM0⟩
   case round=>
    clear HI0 HM0 H10 HBB10
    obtain⟨i,vi,Li,rfl,hi,HI,HM⟩:=hrel
    by_cases hlt:i < LN
    ·have z1:(i:Int) < (LN:Int):=by omega
     have him:i < ms.length:=by rw [<-HK9.out];exact hlt
     obtain⟨q,hq⟩: ∃q,ms[i]? =some q:=⟨_,List.getElem?_eq_getElem him⟩
     have hqd:ms.getD i P0=q:=by simp [List.getD,hq]
     obtain⟨g5,o5,rfl⟩: ∃g o,pm=some ⟨g,o,none⟩:=by
      rcases HM.out.2.1 with ⟨h,_⟩ | ⟨g,o,c,_,h,_⟩
      ·simp only [Value.slice.injEq] at h;omega
      ·simp only [Value.slice.injEq] at h;exact⟨g,_,h.1⟩
     obtain⟨m0,m1,m2,m3⟩:=hX_ HM.out.2.1.rd i him
     rw [hqd] at m0 m1 m2 m3
     obtain⟨bs,hbs1,hbs2⟩:=HI.out.rest q (by
      obtain⟨h1,h2⟩:=List.getElem?_eq_some_iff.1 hq
      rw [List.drop_eq_getElem_cons h1,h2];simp)
     have hstd:=HI.out.dk.dsk.std _ hbs1
     have hq1:1<=q.2.1:=by rw [hbs2.1];exact hstd.1
     have hq2:q.2.1<=1024:=by rw [hbs2.1];exact hstd.2.1
     have hq3:q.1<=1000000:=by
      have h1:=hstd.2.2.1
      have h2:=HM.out.1.spi.c2
      have h3:=HM.out.1.cells
      simp only at h1
      omega
     have hbx:=heap_alloc_new wr (.cells #[.int .i64 q.1,.int .i64 q.2.1,.int .i64 q.2.2.1,.string ⟨q.2.2.2.toArray⟩] 34)
     have hEx:Ext [] wr (wr.alloc (.cells #[.int .i64 q.1,.int .i64 q.2.1,.int .i64 q.2.2.1,.string ⟨q.2.2.2.toArray⟩] 34)):=(Ext.refl [] wr).alloc _
     have HM1:Hid (SyR (wr.alloc (.cells #[.int .i64 q.1,.int .i64 q.2.1,.int .i64 q.2.2.1,.string ⟨q.2.2.2.toArray⟩] 34)) y vi/\EP.Ow 34 (wr.alloc (.cells #[.int .i64 q.1,.int .i64 q.2.1,.int .i64 q.2.2.1,.string ⟨q.2.2.2.toArray⟩] 34)) (.slice (some ⟨g5,o5,none⟩) LN cm) ms/\TreeR (wr.alloc (.cells #[.int .i64 q.1,.int .i64 q.2.1,.int .i64 q.2.2.1,.string ⟨q.2.2.2.toArray⟩] 34)) y tb yv (.slice pg G cg) s/\(wr.alloc (.cells #[.int .i64 q.1,.int .i64 q.2.1,.int .i64 q.2.2.1,.string ⟨q.2.2.2.toArray⟩] 34)).heap[rb]? =some (.cells #[.int .i64 0,.int .i64 0,.int .i64 0,.string ⟨#[]⟩] 34 (0,0))/\SyF y w (wr.alloc (.cells #[.int .i64 q.1,.int .i64 q.2.1,.int .i64 q.2.2.1,.string ⟨q.2.2.2.toArray⟩] 34))):=hi_ ⟨HM.out.1.ext0 hEx,HM.out.2.1.ext0 hEx,HM.out.2.2.1.ext0 hEx,hEx.blk HM.out.2.2.2.1 (by simp),HM.out.2.2.2.2.trans (SyF.of0 hEx)⟩
     obtain⟨HBX,HQ⟩:=h_2 hbx hq
     obtain⟨bx5,hbxe⟩: ∃b,b=wr.heap.size:=⟨_,rfl⟩
     clear hbs1 hbs2 hstd hbx hEx hqd him hq HM
     go_wp2_with fail
     rw [<-hbxe] at HBX
     try simp only [<-hbxe]
     clear hbxe
     revert HM1 HBX
     generalize World.alloc _ _=W4
     intro HM1 HBX
     obtain⟨x0,x1,x2,x3, -⟩:=M_ HBX.out
     obtain⟨t0, -⟩:=HM1.out.2.2.1.cells
     have hD:=(Ext.refl [] W4).drew
     have hgive:=hm_ y vi q.1 q.2.1 q.2.2.1 q.2.2.2 W4.drew (HM1.out.1.ext0 hD) hq1 hq2 hq3
     simp only [pagg] at hgive
     have HGV:=hi_ hgive
     clear hgive
     refine e_ (fun W=> W.cell? ⟨tb,0,none⟩=some (.pointer (some ⟨y.b,0,none⟩))/\W.cell? ⟨bx5,0,none⟩=some (.int .i64 q.1)/\W.cell? ⟨bx5,1,none⟩=some (.int .i64 q.2.1)/\W.cell? ⟨bx5,2,none⟩=some (.int .i64 q.2.2.1)/\W.cell? ⟨bx5,3,none⟩=some (.string ⟨q.2.2.2.toArray⟩)) (fun i=> i==3 || i==4) (by kernel_rfl) ⟨hD.cell t0 (by simp),hD.cell x0 (by simp),hD.cell x1 (by simp),hD.cell x2 (by simp),hD.cell x3 (by simp)⟩ (fun hS=> ?_)
     refine PUq 0 ?_;(try go_frame);refine PUq 1 ?_;(try go_frame);refine PUq 2 ?_;(try go_frame)
     refine ta 3 ?_;(try go_frame);refine ta 4 ?_;(try go_frame)
     refine a_ (i:=5) (by kernel_rfl) rfl (fun K hK=> ?_)
     (try simp only [Act.put,zA,zB,zC,List.setIfInBounds_toArray,zD,zE]);refine iw rfl ?_
     go_simp
     refine HGV.out.mono ?_
     rintro e W5 ⟨err,v2,rfl,hsy2,hF2,hws2,hrel2,hst2⟩
     have hsyD:=HM1.out.1.ext0 hD
     have hFD:SyF y W4 W5:=(SyF.of0 hD).trans hF2
     obtain⟨S5,hS5a,hS5b⟩:=hF2.tags hsyD
     have HI5:Hid (GivI y v v8 L ms (i+1) v2 (offL Li q.1)):=hi_ (GivI.step HPR.out HI.out HQ.out hsyD.spi hsyD.cells hrel2 hws2 hst2)
     have HM5:Hid (SyR W5 y v2/\EP.Ow 34 W5 (.slice (some ⟨g5,o5,none⟩) LN cm) ms/\TreeR W5 y tb yv (.slice pg G cg) s/\W5.heap[rb]? =some (.cells #[.int .i64 0,.int .i64 0,.int .i64 0,.string ⟨#[]⟩] 34 (0,0))/\SyF y w W5):=hi_ ⟨hsy2,(HM1.out.2.1.ext0 hD).ext hS5a (fun g hg hm=> hS5b g hm _ (by decide) ((HM1.out.2.1.ext0 hD).tagOf g hg)),(HM1.out.2.2.1.ext0 hD).syf hsyD hF2,hF2.blk hsyD (hD.blk HM1.out.2.2.2.1 (by simp)) (by decide),HM1.out.2.2.2.2.trans hFD⟩
     refine nk hK ?_
     refine c_ (by kernel_rfl) ?_ _
     clear hK hS hsy2 hF2 hws2 hrel2 hst2 hsyD hFD hS5a hS5b HM1 HI HBX HGV hD x0 x1 x2 x3 t0 m0 m1 m2 m3
     go_wp2_with fail
     go_roundw
     case rel=> exact⟨i+1,v2,offL Li q.1,by go_num,by omega,HI5,HM5⟩
     case measure=> simp [intOf];omega
    ·have z1: ¬((i:Int) < (LN:Int)):=by omega
     have hrb9:=HM.out.2.2.2.1
     obtain⟨p0,p1,p2,p3,hfr⟩:=M_ hrb9
     go_wp2_with fail
     obtain⟨hs,hE9⟩:=set4 hrb9 (.int .i64 0) (.int .i64 0) (.int .i64 0) (.string ⟨#[]⟩)
     obtain⟨r0,r1,r2,r3,_⟩:=M_ hs
     refine bodyPost_ret (v:= .tuple #[.agg #[.int .i64 0,.int .i64 0,.int .i64 0,.string ⟨#[]⟩],.slice none 0 0,.int .i64 5]) (by simp [results,Tryz.results15,go_sem,r0,r1,r2,r3]) rfl ?_
     have htg:=d_ hrb9
     refine⟨vi,Li,.inr ⟨rfl,HI.out.done HPR.out (by rw [<-HK9.out];omega),HNO.out,HM.out.1.otherT hE9 (by simp only [List.mem_singleton,forall_eq,htg];decide), ?_,DF.of (HM.out.2.2.2.2.new hE9 (by rw [HRBE.out];exact Nat.le_refl _))⟩⟩
     have hT:=HM.out.2.2.1
     refine⟨hE9.blk hT.blk (fun hm=> by simp at hm;subst hm;rw [d_ hT.blk] at htg;cases htg),hT.root.ext hE9 (by simp only [List.mem_singleton,forall_eq,htg];decide),hT.gone.ext hE9 (fun g hg hm=> ?_)⟩
     simp at hm
     have h1:=HGLT.out g hg
     rw [hm,HRBE.out] at h1
     omega
 ·(try simp only [Act.put,zA,zB,zC,List.setIfInBounds_toArray,zD,zE]);refine iw rfl ?_
  go_simp
  have hEb:Ext [] W0 (W0.alloc (.cells #[.int .i64 0,.int .i64 0,.int .i64 0,.string ⟨#[]⟩,.pointer none] 89)).drew:=((Ext.refl [] W0).alloc _).drew
  have hbb:(W0.alloc (.cells #[.int .i64 0,.int .i64 0,.int .i64 0,.string ⟨#[]⟩,.pointer none] 89)).drew.heap[W0.heap.size]? =some (.cells #[.int .i64 0,.int .i64 0,.int .i64 0,.string ⟨#[]⟩,.pointer none] 89 (0,0)):=heap_alloc_new W0 _
  refine hK.out _ _ (fun _=> ⟨hEb.cell c0 (by simp),hEb.cell c1 (by simp),hEb.cell c2 (by simp),hEb.cell c3 (by simp),hEb.cell c4 (by simp),hEb.cell c5 (by simp)⟩) (fun _=> ?_)
  have hbge:w.heap.size<=W0.heap.size:=HE0.out.size
  obtain⟨bx,hbx⟩: ∃z,z=W0.heap.size:=⟨_,rfl⟩
  rw [<-hbx] at hbb hbge
  try simp only [<-hbx]
  clear hK hbx
  refine a_ (i:=8) (by kernel_rfl) rfl (fun K hK=> ?_)
  (try simp only [Act.put,zA,zB,zC,List.setIfInBounds_toArray,zD,zE]);refine iw rfl ?_
  go_simp
  refine(HWR.out _ hEb).mono ?_
  rintro e W9 ⟨v8,L8,ms,hres8,hc8⟩
  have h8:=HC8.out _ _ _ _ _ hEb hres8
  have HPR:=hi_ hres8.pr
  have HBB:=hi_ (CF.blk (HSY.out.ext0 hEb) hres8.cf hbb (by decide))
  obtain⟨H9,HBG⟩:=h_2 h8 hbge
  clear hres8 h8 c0 c1 c2 c3 c4 c5 hbb hbge hEb
  rcases hc8 with ⟨q,r',rfl,hwr,hle⟩ | ⟨rfl,hno⟩
  ·have HWO:=hi_ hwr
   have HLE:=hi_ hle
   clear hwr hle
   simp only [refV,ptV,Option.map_none]
   refine nk hK ?_
   clear hK hS hD
   refine PUq 9 ?_;(try go_frame);(try simp only [zA,zB,zC,zD,zE]);refine PUq 10 ?_;(try go_frame);(try simp only [zA,zB,zC,zD,zE]);refine PUq 11 ?_;(try go_frame);(try simp only [zA,zB,zC,zD,zE])
   refine a_ (i:=13) (by kernel_rfl) rfl (fun K hK=> ?_)
   rw [if_pos (show Region.wanted _ _=true from rfl)]
   have hq5:=aj_ HBB.out
   obtain⟨q0,q1,q2,q3,q4,hfz⟩:=hq5
   obtain⟨hs,hE10⟩:=set5 HBB.out (.int .i64 (q).1) (.int .i64 (q).2.1) (.int .i64 (q).2.2.1) (.string ⟨(q).2.2.2.toArray⟩) (.pointer none)
   have htg:=d_ HBB.out
   have hT9:=H9.out.2.2.1
   have hne: ∀k∈ [bx],∀T∈(38::34::91::aH_),r_ W9 k≠some T:=by simp only [List.mem_singleton,forall_eq,htg];decide
   have HBB10:=hi_ hs
   have H10:=hi_ (⟨H9.out.1.otherT hE10 (fun k hk T hT=> hne k hk T (by revert T;decide)),H9.out.2.1.ext hE10 (fun k hk T hT=> hne k hk T (by revert T;decide)),hT9.res HRT.out HBB.out (z:=(q,none)) hs hE10,hE10.blk H9.out.2.2.2.1 (by simp;intro e;rw [<-e] at htg;rw [d_ H9.out.2.2.2.1] at htg;cases htg),H9.out.2.2.2.2.new hE10 HBG.out⟩:SyR _ y v8/\PutC _ pb ms/\TreeR _ y tb yv (.slice pg G cg) s/\_/\SyF y w _)
   clear hT9 hne hs hE10 htg H9 HBB
   go_simp
   refine nk hK ?_
   clear hK hfz q0 q1 q2 q3 q4
   refine PUq 14 ?_;(try go_frame);(try simp only [zA,zB,zC,zD,zE])
   refine c_ (by kernel_rfl) ?_ _
   revert H10 HBB10
   generalize World.setCell _ _ _=W10
   intro HBB10 H10
   have hT:=H10.out.2.2.1
   have hrb10:=H10.out.2.2.2.1
   have hblk:=hT.blk
   simp only [br_,ptV] at hblk
   obtain⟨q0,q1,q2,q3,q4,q5,q6,q7⟩:=hT.cells
   simp only [ptV] at q5
   have hfz: ∀j,W10.frozen? ⟨tb,j,none⟩=false:=fun j=> frozen_of_row _ _ _ _ _ hblk
   obtain⟨x0,x1,x2,x3,x4, -⟩:=aj_ HBB10.out
   obtain⟨p0,p1,p2,p3,hfr⟩:=M_ hrb10
   have htt:=d_ hblk
   have htr:=d_ hrb10
   have htb:=d_ HBB10.out
   have hn1: ¬bx=tb:=fun e=> by rw [e,htt] at htb;cases htb
   have hn2: ¬rb=tb:=fun e=> by rw [e,htt] at htr;cases htr
   have hn3: ¬tb=rb:=fun e=> hn2 e.symm
   have hn4: ¬tb=bx:=fun e=> hn1 e.symm
   obtain⟨HTT,HTR,HBK,HRB10,HT10⟩:=h_5 htt htr hblk hrb10 hT
   clear htt htr htb hblk hrb10 hT
   go_wp2_with fail
   obtain⟨hs,hE11⟩:=set8 HBK.out (.int .i64 q.1) (.int .i64 q.2.1) (.int .i64 q.2.2.1) (.string ⟨q.2.2.2.toArray⟩) (.pointer none) (.slice none 0 0) (.bool false)
   have hrb11:=hE11.blk HRB10.out (by simpa using hn2)
   obtain⟨hs2,hE12⟩:=set4 hrb11 (.int .i64 q.1) (.int .i64 q.2.1) (.int .i64 q.2.2.1) (.string ⟨q.2.2.2.toArray⟩)
   obtain⟨r0,r1,r2,r3,_⟩:=M_ hs2
   refine bodyPost_ret (v:= .tuple #[bB_ q,.slice pg G cg,.int .i64 0]) (by simp [results,Tryz.results15,go_sem,r0,r1,r2,r3]) rfl ?_
   have htr11:=d_ hrb11
   refine⟨v8,L8,.inl ⟨q,r',ms,HPR.out,HWO.out,HLE.out,rfl,(H10.out.1.otherT hE11 (by simp only [List.mem_singleton,forall_eq,HTT.out];decide)).otherT hE12 (by simp only [List.mem_singleton,forall_eq,htr11];decide),⟨hE12.blk hs (by simpa using hn3), ?_,.inl ⟨rfl,rfl⟩⟩, ?_,DF.tree2 H10.out.2.2.2.2 ((hE11.mono (S':= [tb,rb]) (by simp)).trans (hE12.mono (S':= [tb,rb]) (by simp))) (by rw [HRBE.out];exact Nat.le_refl _)⟩⟩
   ·have hat:=HWO.out.at_
    cases r' with
    | none=> rw [show q=P0 from hat];rfl
    | some x=>
     obtain⟨n,x⟩:=x
     have hat:x.1=some q:=hat
     show KidR _ (q,none) x
     unfold KidR
     simp only [hat]
   ·refine(HT10.out.gone.ext hE11 (fun g hg hm=> ?_)).ext hE12 (fun g hg hm=> ?_)
    ·simp at hm
     rw [hm] at hg
     have h1:=HT10.out.gone.tagOf tb hg
     rw [HTT.out] at h1
     cases h1
    ·simp at hm
     have h1:=HGLT.out g hg
     rw [hm,HRBE.out] at h1
     omega
  ·have HNO:Hid (∃vx Lx ms,PutsR y v vx L Lx ms/\ ∃z,F_ y.k ms+z<=unwR y.k s.root/\NoRoomZ y.k vx z):=hi_ ⟨v8,L8,ms,HPR.out,hno⟩
   clear hno
   simp only [refV,ptV,Option.map_none]
   refine nk hK ?_
   clear hK hS hD
   refine PUq 9 ?_;(try go_frame);(try simp only [zA,zB,zC,zD,zE]);refine PUq 10 ?_;(try go_frame);(try simp only [zA,zB,zC,zD,zE]);refine PUq 11 ?_;(try go_frame);(try simp only [zA,zB,zC,zD,zE])
   refine a_ (i:=13) (by kernel_rfl) rfl (fun K hK=> ?_)
   rw [if_pos (show Region.wanted _ _=true from rfl)]
   have hq5:=aj_ HBB.out
   obtain⟨q0,q1,q2,q3,q4,hfz⟩:=hq5
   obtain⟨hs,hE10⟩:=set5 HBB.out (.int .i64 (P0).1) (.int .i64 (P0).2.1) (.int .i64 (P0).2.2.1) (.string ⟨(P0).2.2.2.toArray⟩) (.pointer none)
   have htg:=d_ HBB.out
   have hT9:=H9.out.2.2.1
   have hne: ∀k∈ [bx],∀T∈(38::34::91::aH_),r_ W9 k≠some T:=by simp only [List.mem_singleton,forall_eq,htg];decide
   have HBB10:=hi_ hs
   have H10:=hi_ (⟨H9.out.1.otherT hE10 (fun k hk T hT=> hne k hk T (by revert T;decide)),H9.out.2.1.ext hE10 (fun k hk T hT=> hne k hk T (by revert T;decide)),hT9.res HRT.out HBB.out (z:=(P0,none)) hs hE10,hE10.blk H9.out.2.2.2.1 (by simp;intro e;rw [<-e] at htg;rw [d_ H9.out.2.2.2.1] at htg;cases htg),H9.out.2.2.2.2.new hE10 HBG.out⟩:SyR _ y v8/\PutC _ pb ms/\TreeR _ y tb yv (.slice pg G cg) s/\_/\SyF y w _)
   clear hT9 hne hs hE10 htg H9 HBB
   go_simp
   refine nk hK ?_
   clear hK hfz q0 q1 q2 q3 q4
   refine PUq 14 ?_;(try go_frame);(try simp only [zA,zB,zC,zD,zE])
   refine c_ (by kernel_rfl) ?_ _
   revert H10 HBB10
   generalize World.setCell _ _ _=W10
   intro HBB10 H10
   obtain⟨gvp,g1,g2,g3⟩:=H10.out.2.1
   obtain⟨pm,cm,rfl,hcm⟩:=g2.rd.len_eq
   obtain⟨LN,hK9⟩: ∃z,z=ms.length:=⟨_,rfl⟩
   rw [<-hK9] at g1 g2 g3 hcm
   have hLN:LN<=500000:=by
    have h1:=df_ rfl HPR.out.new HPR.out.dk
    have h2:=HPR.out.cnt
    have h3:=HWB.out.ps
    have h4:=aX_ H10.out.1.spi.okF
    simp only [List.length_nil] at h3
    omega
   have gc:W10.cell? ⟨pb,0,none⟩=some (.slice pm LN cm):=by rw [cell_of_row _ pb 0 _ _ _ g1];rfl
   have HK9:=hi_ hK9
   have HI0:Hid (GivI y v v8 L ms 0 v8 L8):=hi_ (GivI.start HPR.out)
   have HM0:Hid (SyR W10 y v8/\EP.Ow 34 W10 (.slice pm LN cm) ms/\TreeR W10 y tb yv (.slice pg G cg) s/\W10.heap[rb]? =some (.cells #[.int .i64 0,.int .i64 0,.int .i64 0,.string ⟨#[]⟩] 34 (0,0))/\SyF y w W10):=hi_ ⟨H10.out.1,g2,H10.out.2.2.1,H10.out.2.2.2.1,H10.out.2.2.2.2⟩
   clear hK9 g1 g2 g3
   go_wp2_with fail
   clear gc
   go_loopw [30] (fun iv wr=> ∃(i:Nat) (vi:Sv) (Li:List Blk),iv= .int .i64 i/\i<=LN/\Hid (GivI y v v8 L ms i vi Li)/\Hid (SyR wr y vi/\EP.Ow 34 wr (.slice pm LN cm) ms/\TreeR wr y tb yv (.slice pg G cg) s/\wr.heap[rb]? =some (.cells #[.int .i64 0,.int .i64 0,.int .i64 0,.string ⟨#[]⟩] 34 (0,0))/\SyF y w wr)) (fun iv _=> LN - (intOf iv).toNat)
   case atStart=> exact⟨0,v8,L8,rfl,Nat.zero_le _,HI0,HM0⟩
   case round=>
    clear HI0 HM0 H10 HBB10
    obtain⟨i,vi,Li,rfl,hi,HI,HM⟩:=hrel
    by_cases hlt:i < LN
    ·have z1:(i:Int) < (LN:Int):=by omega
     have him:i < ms.length:=by rw [<-HK9.out];exact hlt
     obtain⟨q,hq⟩: ∃q,ms[i]? =some q:=⟨_,List.getElem?_eq_getElem him⟩
     have hqd:ms.getD i P0=q:=by simp [List.getD,hq]
     obtain⟨g5,o5,rfl⟩: ∃g o,pm=some ⟨g,o,none⟩:=by
      rcases HM.out.2.1 with ⟨h,_⟩ | ⟨g,o,c,_,h,_⟩
      ·simp only [Value.slice.injEq] at h;omega
      ·simp only [Value.slice.injEq] at h;exact⟨g,_,h.1⟩
     obtain⟨m0,m1,m2,m3⟩:=hX_ HM.out.2.1.rd i him
     rw [hqd] at m0 m1 m2 m3
     obtain⟨bs,hbs1,hbs2⟩:=HI.out.rest q (by
      obtain⟨h1,h2⟩:=List.getElem?_eq_some_iff.1 hq
      rw [List.drop_eq_getElem_cons h1,h2];simp)
     have hstd:=HI.out.dk.dsk.std _ hbs1
     have hq1:1<=q.2.1:=by rw [hbs2.1];exact hstd.1
     have hq2:q.2.1<=1024:=by rw [hbs2.1];exact hstd.2.1
     have hq3:q.1<=1000000:=by
      have h1:=hstd.2.2.1
      have h2:=HM.out.1.spi.c2
      have h3:=HM.out.1.cells
      simp only at h1
      omega
     have hbx:=heap_alloc_new wr (.cells #[.int .i64 q.1,.int .i64 q.2.1,.int .i64 q.2.2.1,.string ⟨q.2.2.2.toArray⟩] 34)
     have hEx:Ext [] wr (wr.alloc (.cells #[.int .i64 q.1,.int .i64 q.2.1,.int .i64 q.2.2.1,.string ⟨q.2.2.2.toArray⟩] 34)):=(Ext.refl [] wr).alloc _
     have HM1:Hid (SyR (wr.alloc (.cells #[.int .i64 q.1,.int .i64 q.2.1,.int .i64 q.2.2.1,.string ⟨q.2.2.2.toArray⟩] 34)) y vi/\EP.Ow 34 (wr.alloc (.cells #[.int .i64 q.1,.int .i64 q.2.1,.int .i64 q.2.2.1,.string ⟨q.2.2.2.toArray⟩] 34)) (.slice (some ⟨g5,o5,none⟩) LN cm) ms/\TreeR (wr.alloc (.cells #[.int .i64 q.1,.int .i64 q.2.1,.int .i64 q.2.2.1,.string ⟨q.2.2.2.toArray⟩] 34)) y tb yv (.slice pg G cg) s/\(wr.alloc (.cells #[.int .i64 q.1,.int .i64 q.2.1,.int .i64 q.2.2.1,.string ⟨q.2.2.2.toArray⟩] 34)).heap[rb]? =some (.cells #[.int .i64 0,.int .i64 0,.int .i64 0,.string ⟨#[]⟩] 34 (0,0))/\SyF y w (wr.alloc (.cells #[.int .i64 q.1,.int .i64 q.2.1,.int .i64 q.2.2.1,.string ⟨q.2.2.2.toArray⟩] 34))):=hi_ ⟨HM.out.1.ext0 hEx,HM.out.2.1.ext0 hEx,HM.out.2.2.1.ext0 hEx,hEx.blk HM.out.2.2.2.1 (by simp),HM.out.2.2.2.2.trans (SyF.of0 hEx)⟩
     obtain⟨HBX,HQ⟩:=h_2 hbx hq
     obtain⟨bx5,hbxe⟩: ∃b,b=wr.heap.size:=⟨_,rfl⟩
     clear hbs1 hbs2 hstd hbx hEx hqd him hq HM
     go_wp2_with fail
     rw [<-hbxe] at HBX
     try simp only [<-hbxe]
     clear hbxe
     revert HM1 HBX
     generalize World.alloc _ _=W4
     intro HM1 HBX
     obtain⟨x0,x1,x2,x3, -⟩:=M_ HBX.out
     obtain⟨t0, -⟩:=HM1.out.2.2.1.cells
     have hD:=(Ext.refl [] W4).drew
     have hgive:=hm_ y vi q.1 q.2.1 q.2.2.1 q.2.2.2 W4.drew (HM1.out.1.ext0 hD) hq1 hq2 hq3
     simp only [pagg] at hgive
     have HGV:=hi_ hgive
     clear hgive
     refine e_ (fun W=> W.cell? ⟨tb,0,none⟩=some (.pointer (some ⟨y.b,0,none⟩))/\W.cell? ⟨bx5,0,none⟩=some (.int .i64 q.1)/\W.cell? ⟨bx5,1,none⟩=some (.int .i64 q.2.1)/\W.cell? ⟨bx5,2,none⟩=some (.int .i64 q.2.2.1)/\W.cell? ⟨bx5,3,none⟩=some (.string ⟨q.2.2.2.toArray⟩)) (fun i=> i==3 || i==4) (by kernel_rfl) ⟨hD.cell t0 (by simp),hD.cell x0 (by simp),hD.cell x1 (by simp),hD.cell x2 (by simp),hD.cell x3 (by simp)⟩ (fun hS=> ?_)
     refine PUq 0 ?_;(try go_frame);refine PUq 1 ?_;(try go_frame);refine PUq 2 ?_;(try go_frame)
     refine ta 3 ?_;(try go_frame);refine ta 4 ?_;(try go_frame)
     refine a_ (i:=5) (by kernel_rfl) rfl (fun K hK=> ?_)
     (try simp only [Act.put,zA,zB,zC,List.setIfInBounds_toArray,zD,zE]);refine iw rfl ?_
     go_simp
     refine HGV.out.mono ?_
     rintro e W5 ⟨err,v2,rfl,hsy2,hF2,hws2,hrel2,hst2⟩
     have hsyD:=HM1.out.1.ext0 hD
     have hFD:SyF y W4 W5:=(SyF.of0 hD).trans hF2
     obtain⟨S5,hS5a,hS5b⟩:=hF2.tags hsyD
     have HI5:Hid (GivI y v v8 L ms (i+1) v2 (offL Li q.1)):=hi_ (GivI.step HPR.out HI.out HQ.out hsyD.spi hsyD.cells hrel2 hws2 hst2)
     have HM5:Hid (SyR W5 y v2/\EP.Ow 34 W5 (.slice (some ⟨g5,o5,none⟩) LN cm) ms/\TreeR W5 y tb yv (.slice pg G cg) s/\W5.heap[rb]? =some (.cells #[.int .i64 0,.int .i64 0,.int .i64 0,.string ⟨#[]⟩] 34 (0,0))/\SyF y w W5):=hi_ ⟨hsy2,(HM1.out.2.1.ext0 hD).ext hS5a (fun g hg hm=> hS5b g hm _ (by decide) ((HM1.out.2.1.ext0 hD).tagOf g hg)),(HM1.out.2.2.1.ext0 hD).syf hsyD hF2,hF2.blk hsyD (hD.blk HM1.out.2.2.2.1 (by simp)) (by decide),HM1.out.2.2.2.2.trans hFD⟩
     refine nk hK ?_
     refine c_ (by kernel_rfl) ?_ _
     clear hK hS hsy2 hF2 hws2 hrel2 hst2 hsyD hFD hS5a hS5b HM1 HI HBX HGV hD x0 x1 x2 x3 t0 m0 m1 m2 m3
     go_wp2_with fail
     go_roundw
     case rel=> exact⟨i+1,v2,offL Li q.1,by go_num,by omega,HI5,HM5⟩
     case measure=> simp [intOf];omega
    ·have z1: ¬((i:Int) < (LN:Int)):=by omega
     have hrb9:=HM.out.2.2.2.1
     obtain⟨p0,p1,p2,p3,hfr⟩:=M_ hrb9
     go_wp2_with fail
     obtain⟨hs,hE9⟩:=set4 hrb9 (.int .i64 0) (.int .i64 0) (.int .i64 0) (.string ⟨#[]⟩)
     obtain⟨r0,r1,r2,r3,_⟩:=M_ hs
     refine bodyPost_ret (v:= .tuple #[.agg #[.int .i64 0,.int .i64 0,.int .i64 0,.string ⟨#[]⟩],.slice none 0 0,.int .i64 5]) (by simp [results,Tryz.results15,go_sem,r0,r1,r2,r3]) rfl ?_
     have htg:=d_ hrb9
     refine⟨vi,Li,.inr ⟨rfl,HI.out.done HPR.out (by rw [<-HK9.out];omega),HNO.out,HM.out.1.otherT hE9 (by simp only [List.mem_singleton,forall_eq,htg];decide), ?_,DF.of (HM.out.2.2.2.2.new hE9 (by rw [HRBE.out];exact Nat.le_refl _))⟩⟩
     have hT:=HM.out.2.2.1
     refine⟨hE9.blk hT.blk (fun hm=> by simp at hm;subst hm;rw [d_ hT.blk] at htg;cases htg),hT.root.ext hE9 (by simp only [List.mem_singleton,forall_eq,htg];decide),hT.gone.ext hE9 (fun g hg hm=> ?_)⟩
     simp at hm
     have h1:=HGLT.out g hg
     rw [hm,HRBE.out] at h1
     omega
def sto0:Sto:=⟨1,[],0,0,0,0,0⟩
structure NewSy (y:Sy) (v:Sv):Prop where
 st:v.st=sto0
 free:v.spc.free= [(0,v.spc.cells)]
 used:v.spc.used= []
 leaving:v.spc.leaving= []
 back:v.spc.back=0
theorem Fresh.none {s:Spc} {C:Int} (h:Fresh s C [] 0) (hi:SpI s) (hC:1<=C) (hC2:C<=40000):s.free= [(0,C)]/\s.used= []:=by
 have hu:s.used= []:=Ok.ext hi.okU ⟨List.Pairwise.nil,by simp⟩ (fun c=> by rw [h.used];rfl)
 refine⟨Ok.ext hi.okF ⟨by simp,by simp;omega⟩ (fun c=> ?_),hu⟩
 have h1:=hi.all c
 rw [h.cells,hu,h.leaving] at h1
 have h2: ¬Mem [] c:=by rintro⟨x,hx,_⟩;cases hx
 constructor
 ·intro h3
  have h4:=h1.2 (.inl h3)
  exact⟨(0,C),by simp,h4⟩
 ·rintro⟨x,hx,h4⟩
  simp at hx
  subst hx
  rcases h1.1 h4 with h5 | h5 | h5
  ·exact h5
  ·exact(h2 h5).elim
  ·exact(h2 h5).elim
theorem stnew_c (a r gg k S F:Nat) (ws:List (Nat×Nat×List UInt8)) (w:World) (hr:RackR w r gg (k+4) S ws) (ha:ArrR w a r (k+4) F) (hk1:1<=k) (hk:k<=8) (hS2:S<=2000) (hF:F < S):
  Calls Tryz.prog 27 #[.pointer (some ⟨a,0,none⟩),.slice none 0 0,.int .i64 1] w fun e w'=> ∃b sp v,e= .returned (.tuple #[.pointer (some ⟨b,0,none⟩),.int .i64 0])/\SyR w' ⟨b,a,r,gg,sp,k,S,F⟩ v/\v.ws=ws/\NewSy ⟨b,a,r,gg,sp,k,S,F⟩ v/\w.heap.size<=b/\w.heap.size<=sp/\Ext [] w w':=by
 obtain⟨HR,HA⟩:=h_2 hr ha
 have hm:(k+4)*(S - F)<=12*2000:=Nat.mul_le_mul (by omega) (by omega)
 have hm2:5*1<=(k+4)*(S - F):=Nat.mul_le_mul (by omega) (by omega)
 clear hr ha
 go_enter Tryz.func27,Tryz.ntmps27
 go_wp2_with fail
 refine(gq_ a r gg (k+4) S F ws _ HR.out HA.out (by omega) hS2 (by omega)).mono ?_
 rintro e W1 ⟨rfl,hE1⟩
 obtain⟨C,hC⟩: ∃C,C=(k+4)*(S - F):=⟨_,rfl⟩
 rw [<-hC] at hm hm2 ⊢
 have HC:=hi_ hC
 clear hC
 go_wp2_with fail
 refine(new_c (C:Int) (.slice none 0 0) [] _ (.inl ⟨rfl,rfl⟩) (by omega) (by omega) (by simp)).mono ?_
 rintro e W2 ⟨p,err,rfl,hE2,hrel⟩
 rcases hrel with ⟨h,_⟩ | ⟨_,_,h,_⟩ | ⟨_,_,_,h,_⟩ | ⟨_,_,_,_,rfl,b,s,rfl,hb,hsr,hsi,hfr⟩
 ·omega
 ·simp at h
 ·exact(h (fun i hi=> by simp at hi)).elim
 ·have HSR:=hi_ hsr
  obtain⟨HSI,HFR⟩:=h_2 hsi hfr
  have hE02:=hE1.trans hE2
  have lb:=hE1.size
  have lb2:=hE2.size
  clear hsr hsi hfr hE1 hE2
  go_wp2
  go_ret2
  have hbl:=heap_alloc_new W2 (.cells (fH_ a b (.slice none 0 0) sto0) 117)
  have hEa:=(Ext.refl [] W2).alloc (.cells (fH_ a b (.slice none 0 0) sto0) 117)
  have hf:=HFR.out.none HSI.out (by omega) (by omega)
  refine⟨W2.heap.size,b,⟨sto0,ws,s⟩,rfl,⟨⟨_,hbl,⟨[],.inl ⟨rfl,rfl⟩,by simp,rfl⟩,by simp [blkL]⟩,(HA.out.ext0 hE02).ext0 hEa,(HR.out.ext0 hE02).ext0 hEa,HSR.out.ext0 hEa,HSI.out,hk1,hk,hS2,Nat.le_of_lt hF, ?_,by simp [sto0]⟩,rfl,⟨rfl, ?_,hf.2,HFR.out.leaving,HFR.out.back⟩,by omega,by omega,hE02.trans hEa⟩
  ·show s.cells=_
   rw [HFR.out.cells,HC.out]
  ·show s.free=_
   rw [hf.1,HFR.out.cells]
theorem gf_ (S:Nat) (w:World) (hS1:2<=S) (hS:S<=2000):
  Calls Tryz.prog 12 #[.int .i64 S] w fun e w'=> ∃y v,e= .returned (.tuple #[.pointer (some ⟨y.r,0,none⟩),.pointer (some ⟨y.a,0,none⟩),.pointer (some ⟨y.b,0,none⟩),.bool true])/\SyR w' y v/\y.k=1/\y.S=S/\y.F=1/\v.ws= []/\NewSy y v/\(∀b∈ [y.b,y.r,y.sp],w.heap.size<=b)/\Ext [] w w':=by
 go_enter Tryz.func12,Tryz.ntmps12
 go_wp2_with fail
 refine(rknew_c (1+4) S _ (by omega) (by omega) (by omega) hS).mono ?_
 rintro e W1 ⟨r,gg,rfl,hr,lr, -,hE1⟩
 have HR1:=hi_ hr
 clear hr
 go_wp2_with fail
 refine(arnew_c r gg (1+4) S 1 [] _ HR1.out (by omega) (by omega)).mono ?_
 rintro e W3 ⟨a,rfl,ha, -,hE3⟩
 have HR3:=hi_ (HR1.out.ext0 hE3)
 have HA3:=hi_ ha
 have hE03:=hE1.trans hE3
 clear ha hE1 hE3 HR1
 go_wp2_with fail
 refine(stnew_c a r gg 1 S 1 [] _ HR3.out HA3.out (by omega) (by omega) hS (by omega)).mono ?_
 rintro e W5 ⟨b,sp,v,rfl,hsy,hws,hnew,lb,lsp,hE5⟩
 have l03:=hE03.size
 have HSY:=hi_ hsy
 have hE05:=hE03.trans hE5
 obtain⟨HWS,HNEW⟩:=h_2 hws hnew
 clear hsy hE03 hE5 hws hnew HR3 HA3
 go_wp2_with fail
 refine bodyPost_ret (v:= .tuple #[.pointer (some ⟨r,0,none⟩),.pointer (some ⟨a,0,none⟩),.pointer (some ⟨b,0,none⟩),.bool true]) (by simp [results,Tryz.results12,go_sem]) rfl ?_
 exact⟨⟨b,a,r,gg,sp,1,S,1⟩,v,rfl,HSY.out,rfl,rfl,rfl,HWS.out,HNEW.out,fun z hz=> by
   simp at hz
   rcases hz with rfl | rfl | rfl <;> omega,hE05⟩
theorem fJ_ (va vb:Value) (la lb:List Pr) (w:World) (ha:EPr.Rd w va la) (hb:EPr.Rd w vb lb) (hl:la.length<=1000000) (hl2:lb.length<=1000000):
  Calls Tryz.prog 17 #[va,vb] w fun e w'=> e= .returned (.bool (decide (la=lb)))/\Ext [] w w':=by
 obtain⟨p,c,rfl,hc⟩:=ha.len_eq
 obtain⟨p2,c2,rfl,hc2⟩:=hb.len_eq
 obtain⟨N,hN⟩: ∃N,N=la.length:=⟨_,rfl⟩
 obtain⟨N2,hN2⟩: ∃N,N=lb.length:=⟨_,rfl⟩
 rw [<-hN] at ha hl hc ⊢
 rw [<-hN2] at hb hl2 hc2 ⊢
 obtain⟨HN,HN2,HA,HB⟩:=h_4 hN hN2 ha hb
 obtain⟨D,hD⟩: ∃D,D=decide (la=lb):=⟨_,rfl⟩
 rw [<-hD]
 have HD:=hi_ hD
 clear ha hb hN hN2 hD
 by_cases hne:N=N2
 ·subst hne
  go_enter Tryz.func17,Tryz.ntmps17
  go_wp2_with fail
  go_loopw [5] (fun iv wr=> ∃i:Nat,iv= .int .i64 i/\i<=N/\Hid (la.take i=lb.take i)/\Hid (Ext [] w wr)) (fun iv _=> N - (intOf iv).toNat)
  case atStart=> exact⟨0,rfl,Nat.zero_le _,hi_ (by simp),hi_ (Ext.refl _ _)⟩
  case round=>
   obtain⟨i,rfl,hi,HT,HE⟩:=hrel
   by_cases hlt:i < N
   ·have z1:(i:Int) < (N:Int):=by omega
    obtain⟨g,o,rfl⟩: ∃g o,p=some ⟨g,o,none⟩:=by
     rcases HA.out with ⟨h,h0⟩ | ⟨g,o,c,h,_⟩
     ·have:=HN.out;rw [h0] at this;simp at this;omega
     ·simp only [Value.slice.injEq] at h;exact⟨g,_,h.1⟩
    obtain⟨g2,o2,rfl⟩: ∃g o,p2=some ⟨g,o,none⟩:=by
     rcases HB.out with ⟨h,h0⟩ | ⟨g,o,c,h,_⟩
     ·have:=HN2.out;rw [h0] at this;simp at this;omega
     ·simp only [Value.slice.injEq] at h;exact⟨g,_,h.1⟩
    have hil:i < la.length:=by rw [<-HN.out];exact hlt
    have hil2:i < lb.length:=by rw [<-HN2.out];exact hlt
    obtain⟨m1,m2⟩:=aJ_ (HA.out.ext0 HE.out) i hil
    obtain⟨k1,k2⟩:=aJ_ (HB.out.ext0 HE.out) i hil2
    obtain⟨x,hx⟩: ∃x,x=la.getD i ([],[]):=⟨_,rfl⟩
    obtain⟨y,hy⟩: ∃y,y=lb.getD i ([],[]):=⟨_,rfl⟩
    rw [<-hx] at m1 m2
    rw [<-hy] at k1 k2
    have hx':la[i]? =some x:=by rw [hx];simp [List.getD,hil]
    have hy':lb[i]? =some y:=by rw [hy];simp [List.getD,hil2]
    obtain⟨HX,HY⟩:=h_2 hx' hy'
    clear hx hy hil hil2 hx' hy'
    by_cases he:x=y
    ·subst he
     have HT2:Hid (la.take (i+1)=lb.take (i+1)):=hi_ (by rw [List.take_add_one,List.take_add_one,HT.out,HX.out,HY.out])
     go_wp2_with fail
     go_big_quiet (fail)
     go_wp2_with fail
     go_roundw
     case rel=> exact⟨i+1,by go_num,by omega,HT2,hi_ (HE.out.drewN nq)⟩
     case measure=> simp [intOf];omega
    ·have hdf:D=false:=by
      rw [HD.out,decide_eq_false_iff_not]
      intro e
      have h1:=HX.out
      rw [e,HY.out] at h1
      exact he (Option.some.inj h1).symm
     have HDF:=hi_ hdf
     clear hdf
     by_cases e1:x.1=y.1
     ·have e2:(x.2==y.2)=false:=by
       have h2: ¬x.2=y.2:=fun h2=> he (Prod.ext e1 h2)
       simpa using h2
      rw [<-e1] at k1
      clear he e1
      go_wp2_with fail
      go_big_quiet (fail)
      go_wp2_with fail
      go_ret
      exact⟨by rw [HDF.out];rfl,HE.out.drewN nq⟩
     ·have e2:(x.1==y.1)=false:=by simpa using e1
      clear he e1
      go_wp2_with fail
      go_big_quiet (fail)
      go_wp2_with fail
      go_ret
      exact⟨by rw [HDF.out];rfl,HE.out.drewN nq⟩
   ·have z1: ¬((i:Int) < (N:Int)):=by omega
    have hd:D=true:=by
     have h1:=HT.out
     rw [List.take_of_length_le (by rw [<-HN.out];omega),List.take_of_length_le (by rw [<-HN2.out];omega)] at h1
     rw [HD.out]
     simpa using h1
    have HDD:=hi_ hd
    clear hd
    go_wp2_with fail
    go_ret
    exact⟨by rw [HDD.out];rfl,HE.out⟩
 ·have hd:D=false:=by
   rw [HD.out,decide_eq_false_iff_not]
   intro e
   exact hne (by rw [HN.out,HN2.out,e])
  have HDD:=hi_ hd
  have z1:((N:Int) !=(N2:Int))=true:=bne_iff_ne.2 (by omega)
  clear hd hne
  go_enter Tryz.func17,Tryz.ntmps17
  go_wp2_with fail
  go_ret
  exact⟨by rw [HDD.out];rfl,Ext.refl _ _⟩
theorem iB_ (W:World) (h:n=W.heap.size):EPr.Ow 36 (W.alloc (.cells #[] 36)) (.slice (some ⟨n,0,none⟩) 0 0) []:=by
 subst h
 exact .inr ⟨W.heap.size,0,0,[],rfl,heap_alloc_new W _,by simp,by simp,by simp⟩
def BF (y:Sy) (bs:List Nat) (w w':World):Prop:= ∃S,Ext S w w'/\ ∀k∈S,SyOk y w k\/k∈bs
theorem BF.of (h:SyF y w w'):BF y bs w w':=by
 obtain⟨S,h1,h2⟩:=h
 exact⟨S,h1,fun k hk=> .inl (h2 k hk)⟩
theorem BF.of0 (h:Ext [] w w'):BF y bs w w':=⟨[],h,by simp⟩
theorem BF.df (h:DF y tb w w') (hb:tb∈bs):BF y bs w w':=by
 obtain⟨S,h1,h2⟩:=h
 exact⟨S,h1,fun k hk=> (h2 k hk).imp id (fun e=> by rw [e];exact hb)⟩
theorem BF.tags (hy:SyR w y v) (h:BF y bs w w'): ∃S,Ext S w w'/\ ∀k∈S,k∉bs-> ∀T,T∉ [117,143,168,339,175]->r_ w k≠some T:=by
 obtain⟨S,h1,h2⟩:=h
 refine⟨S,h1,fun k hk hn T hT e=> ?_⟩
 simp only [List.mem_cons,List.not_mem_nil,or_false,not_or] at hT
 rcases h2 k hk with h | h
 ·rcases h with h | ⟨T',h3,h4,_⟩
  ·simp only [List.mem_cons,List.not_mem_nil,or_false] at h
   rcases h with rfl | rfl | rfl
   ·rw [hy.st.tag] at e;cases e;exact hT.1 rfl
   ·rw [hy.rk.tag.1] at e;cases e;exact hT.2.1 rfl
   ·rw [hy.sp.tag] at e;cases e;exact hT.2.2.1 rfl
  ·rw [h4] at e
   cases e
   simp only [List.mem_cons,List.not_mem_nil,or_false] at h3
   rcases h3 with rfl | rfl
   ·exact hT.2.2.2.1 rfl
   ·exact hT.2.2.2.2 rfl
 ·exact hn h
theorem TreeR.bf {y y':Sy} (ht:TreeR w y' tb yv gv s) (hy:SyR w y v) (h:BF y bs w w') (hn:tb∉bs) (hp: ∀k∈bs,∀T∈(34::aE_),r_ w k≠some T):TreeR w' y' tb yv gv s:=by
 obtain⟨S,h1,h2⟩:=h.tags hy
 refine⟨h1.blk ht.blk (fun hk=> h2 tb hk hn _ (by decide) (d_ ht.blk)),ht.root.ext h1 (fun k hk T hT=> ?_),ht.gone.ext h1 (fun g hg hk=> ?_)⟩
 ·by_cases hb:k∈bs
  ·exact hp k hb T (List.mem_cons_of_mem _ hT)
  ·exact h2 k hk hb T (by revert T;decide)
 ·by_cases hb:g∈bs
  ·exact hp g hb _ (by simp) (ht.gone.tagOf g hg)
  ·exact h2 g hk hb _ (by decide) (ht.gone.tagOf g hg)
theorem TreeR.tag (h:TreeR w y tb yv gv s):r_ w tb=some 91:=d_ h.blk
theorem sel_drop (hs:SrtK l) (key:Ky):selR key [] l=l.drop (atF l key):=by
 obtain⟨h0,h1,h2⟩:=hs.atF_spec key
 conv=> lhs;rw [<-List.take_append_drop (atF l key) l]
 rw [ac_,eD_ (fun p hp=> ?_),List.nil_append,selR,List.filter_eq_self]
 ·intro p hp
  obtain⟨j,hj⟩:=List.getElem?_of_mem hp
  rw [List.getElem?_drop] at hj
  have:=h2 _ p (by omega) hj
  simp [inR,this]
 ·obtain⟨j,hj⟩:=List.getElem?_of_mem hp
  rw [List.getElem?_take] at hj
  split at hj
  ·exact h1 j p (by assumption) hj
  ·cases hj
structure SmallT (s:TS):Prop where
 prs:(p_ s.root).length<=100000
 bks:(au_ s.root).length<=40000
 gone:s.gone.length<=900000
structure TrTo (y:Sy) (v:Sv) (L:List Blk) (tb:Nat) (s:TS) (l':List Pr) (w w':World):Prop where
 ex: ∃v' yv' gv' s',SyR w' y v'/\SameV v v'/\DkS y v' L/\TreeR w' y tb yv' gv' s'/\RtOk L s'.root/\p_ s'.root=l'/\(au_ s'.root++s'.gone).Perm (au_ s.root++s.gone)/\(∀m,HtOk m s.root->(p_ s.root).length<=m->HtOk (m+1) s'.root)/\((∃yv0 d0,w.heap[tb]? =some (.cells (br_ y yv0 gv' d0) 91 (0,0)))\/ ∀g∈blkL gv',w.heap.size<=g)
 fr:DF y tb w w'
theorem do_to (hf:EdF key f) (hw:WOk f) (hd:DkS y v L) (hr:RtOk L s.root) (ht:TreeR w y tb yv gv s) {e:Ending} (h:DoPost y v L tb yv gv s (doF s.root key f) w e w'):
  (∀l',f (p_ s.root)= .ok l'->e= .returned (.int .i64 0)/\TrTo y v L tb s l' w w')/\(∀k,f (p_ s.root)= .error k->e= .returned (.int .i64 k)/\TrTo y v L tb s (p_ s.root) w w'):=by
 obtain⟨h1,h2⟩:=do_ok hf s.root hr
 refine⟨fun l' hl=> ?_,fun k hk=> ?_⟩
 ·obtain⟨r',g,h3,h4⟩:=h2 l' hl
  rw [h3] at h
  obtain⟨yv',gv',v',h5,h6,h7,h8,h9,h10,h11⟩:=h
  refine⟨h5,⟨v',yv',gv',_,h6,h7,hd.same h7 h8,h9,h4.ok,h4.pr, ?_,fun m hm hp=> do_ht hf hw s.root hr hm hp hl h3,.inr h11⟩,h10⟩
  have h11:=h4.bk
  show (au_ r'++(s.gone++g)).Perm _
  exact((List.Perm.append_left _ List.perm_append_comm).trans (by rw [<-List.append_assoc])).trans (h11.append_right s.gone)
 ·rw [h1 k hk] at h
  obtain⟨v',h5,h6,h7,h8,h9,h10⟩:=h
  exact⟨h5,⟨v',yv,gv,s,h6,h7,hd.same h7 h8,h9,hr,rfl,List.Perm.refl _,fun m hm _=> hm.mono (Nat.le_succ m),.inl ⟨_,_,ht.blk⟩⟩,h10⟩
theorem cells4' {a0 a1 a2 a3:Value} (h:W.heap[g]? =some (.cells #[a0,a1,a2,a3] T (0,0))):W.cell? ⟨g,0,none⟩=some a0/\W.cell? ⟨g,1,none⟩=some a1/\W.cell? ⟨g,2,none⟩=some a2/\W.cell? ⟨g,3,none⟩=some a3:=by
 refine⟨?_, ?_, ?_, ?_⟩ <;> (rw [cell_of_row W g _ _ _ _ h];rfl)
theorem eC_ (l:List Pr):selR [] [] l=l:=by
 rw [selR,List.filter_eq_self]
 intro p _
 simp [inR]
def kT1:List (El 0):=([([98],[50])]:List Pr)
def kT2:List (El 0):=([([97],[49]),([98],[50])]:List Pr)
theorem known_sz1:szF 0 kT1<=1024:=by
 have h1:szF 0 kT1=(encL (V_ [([98],[50])])).length:=rfl
 rw [h1]
 simp [V_,encL,encI,A_]
theorem ga_:szF 0 kT2<=1024:=by
 have h1:szF 0 kT2=(encL (V_ [([97],[49]),([98],[50])])).length:=rfl
 rw [h1]
 simp [V_,encL,encI,A_]
theorem ei_:putF [98] [50] []= .ok kT1:=by simp [putF,atF,U_,kT1]
theorem eh_:putF [97] [49] kT1= .ok kT2:=by
 have h1: ¬(([98]:Ky) < [97]):=by decide
 simp [putF,atF,U_,h1,kT1,kT2]
theorem doF_none {l:List (El 0)} (hf:f []= .ok l) (h0:l≠ []) (hs:szF 0 l<=1024):doF none key f= .ok (some ⟨0,(none,l)⟩,[]):=by
 have h2:=K_ (n:=0) [] h0 hs
 unfold doF
 rw [hf]
 show Except.ok (O_ (i_ 0 l []).length 0 (i_ 0 l []))=_
 rw [h2]
 rfl
theorem doF_leaf {t l:List (El 0)} (hf:f t= .ok l) (h0:l≠ []) (hs:szF 0 l<=1024):doF (some ⟨0,(none,t)⟩) key f= .ok (some ⟨0,(none,l)⟩,[]):=by
 have h2:=K_ (n:=0) [] h0 hs
 have he:ay_ 0 (none,t) key f= .ok (i_ 0 l [],[]):=by
  unfold ay_
  show (match f t with | .error e=> Except.error e | .ok l=> .ok (i_ 0 l [],[]))=_
  rw [hf]
 simp only [doF,he]
 rw [h2]
 rfl
theorem known1:doF none [98] (putF [98] [50])= .ok (some ⟨0,(none,kT1)⟩,[]):=doF_none ei_ (fun h=> by cases h) known_sz1
theorem known2:doF (some ⟨0,(none,kT1)⟩) [97] (putF [97] [49])= .ok (some ⟨0,(none,kT2)⟩,[]):=doF_leaf eh_ (fun h=> by cases h) ga_
theorem known_unw (c:Nat):unwR c (some ⟨0,(none,kT2)⟩)<=32:=costF_le c _ ga_
end Go.Proofs.YtkpgjkekmdecbaaGreat
