/- Lemmas. -/
import Derived.Test.YtkpgjkekmdecbaaGreatFullAZ
import Derived.Test.YtkpgjkekmdecbaaGreatFullAH
set_option maxRecDepth 100000
set_option maxHeartbeats 8000000
set_option linter.all false

namespace Go.Proofs.YtkpgjkekmdecbaaGreat
open Go.RowKit
variable {w w':World} {T:TypeId} {gv:Value} {n i g tb cb mb:Nat} {S:List Nat} {key:Ky} {l:List Pr} {yv:Rfm} {y:Sy} {v:Sv} {L:List Blk} {s:TS}
theorem CF.low (hy:SyR w y v) (h:CF y cb w w') {c:Array Value} {fr:Nat×Nat} (hg:w.heap[g]? =some (.cells c T fr)) (hlt:g < cb) (hT:T∉ [117,143,168,339,175]):w'.heap[g]? =some (.cells c T fr):=by
 obtain⟨S,h1,h2⟩:=h
 refine h1.blk hg (fun hm=> ?_)
 have htg:=d_ hg
 simp only [List.mem_cons,List.not_mem_nil,or_false,not_or] at hT
 rcases h2 g hm with h | h
 ·rcases h with h | ⟨T',h3,h4,_⟩
  ·simp only [List.mem_cons,List.not_mem_nil,or_false] at h
   rcases h with rfl | rfl | rfl
   ·rw [hy.st.tag] at htg;cases htg;exact hT.1 rfl
   ·rw [hy.rk.tag.1] at htg;cases htg;exact hT.2.1 rfl
   ·rw [hy.sp.tag] at htg;cases htg;exact hT.2.2.1 rfl
  ·rw [h4] at htg
   cases htg
   simp only [List.mem_cons,List.not_mem_nil,or_false] at h3
   rcases h3 with rfl | rfl
   ·exact hT.2.2.2.1 rfl
   ·exact hT.2.2.2.2 rfl
 ·omega
theorem DF.tree2 {tb z:Nat} {a b c:World} (h:SyF y a b) (k:Ext [tb,z] b c) (hz:a.heap.size<=z):DF y tb a c:=by
 obtain⟨S,h1,h2⟩:=h
 refine⟨tb::S,h1.trans' k (fun x hx=> .inl (List.mem_cons_of_mem _ hx)) (fun x hx=> ?_),fun x hx=> ?_⟩
 ·simp at hx
  rcases hx with rfl | rfl
  ·exact .inl (by simp)
  ·exact .inr hz
 ·rcases List.mem_cons.1 hx with rfl | hx
  ·exact .inr rfl
  ·exact .inl (h2 x hx)
theorem TreeR.res {z:Rfm} (h:TreeR w y tb yv gv s) (ho:RtOk L s.root) (hb:w.heap[g]? =some (.cells #[.int .i64 0,.int .i64 0,.int .i64 0,.string ⟨#[]⟩,.pointer none] 89 (0,0))) (hb':w'.heap[g]? =some (.cells (ERf.flat [z]).toArray 89 (0,0))) (he:Ext [g] w w'):TreeR w' y tb yv gv s:=by
 have ht:=d_ hb
 refine⟨he.blk h.blk (fun hm=> ?_), ?_,h.gone.ext he (fun x hx hm=> ?_)⟩
 ·simp at hm;subst hm;rw [d_ h.blk] at ht;cases ht
 ·have hr:=h.root
  cases hs:s.root with
  | none=> rw [hs] at hr;exact hr
  | some x=>
   obtain⟨n,x⟩:=x
   rw [hs] at hr ho
   exact KidR.mono hr (fun b hn=> NodeR.res hb hb' he n b _ ho.2.okQ hn)
 ·simp at hm;subst hm;rw [h.gone.tagOf _ hx] at ht;cases ht
def SyncPost (y:Sy) (v:Sv) (L:List Blk) (tb:Nat) (yv:Rfm) (gv:Value) (s:TS) (w:World) (e:Ending) (w':World):Prop:=
 ∃v' L',(∃q r' ms,PutsR y v v' L L' ms/\WroteR L' s.root r' q ms/\G_ y.k ms<=unwR y.k s.root/\e= .returned (.tuple #[bp_ q,gv,.int .i64 0])/\SyR w' y v'/\TreeR w' y tb (q,none) (.slice none 0 0) ⟨r',[],false⟩/\EP.Ow 34 w' gv s.gone/\DF y tb w w')\/
  (e= .returned (.tuple #[bp_ P0,.slice none 0 0,.int .i64 5])/\FailR y v v' L L'/\(∃vx Lx ms,PutsR y v vx L Lx ms/\ ∃z,G_ y.k ms+z<=unwR y.k s.root/\NoRoomZ y.k vx z)/\SyR w' y v'/\TreeR w' y tb yv gv s/\DF y tb w w')
theorem hl_ (y:Sy) (v:Sv) (L:List Blk) (tb:Nat) (yv:Rfm) (gv:Value) (s:TS) (w:World) (h:SyR w y v) (hd:DkS y v L) (ht:TreeR w y tb yv gv s) (hr:RtOk L s.root) (hb:WrB v []):
  Calls Tryz.prog 15 #[.pointer (some ⟨tb,0,none⟩)] w (SyncPost y v L tb yv gv s w):=by
 have hE0:Ext [] w ((w.alloc (.cells #[.int .i64 0,.int .i64 0,.int .i64 0,.string ⟨#[]⟩] 34)).alloc (.cells #[.slice none 0 0] 38)):=((Ext.refl [] w).alloc _).alloc _
 have hrb:((w.alloc (.cells #[.int .i64 0,.int .i64 0,.int .i64 0,.string ⟨#[]⟩] 34)).alloc (.cells #[.slice none 0 0] 38)).heap[w.heap.size]? =some (.cells #[.int .i64 0,.int .i64 0,.int .i64 0,.string ⟨#[]⟩] 34 (0,0)):=((Ext.refl [] _).alloc _).blk (heap_alloc_new w _) (by simp)
 have hpb:((w.alloc (.cells #[.int .i64 0,.int .i64 0,.int .i64 0,.string ⟨#[]⟩] 34)).alloc (.cells #[.slice none 0 0] 38)).heap[w.heap.size+1]? =some (.cells #[.slice none 0 0] 38 (0,0)):=Y_ (by simp)
 have ht0:=ht.ext0 hE0
 have hglt: ∀g∈blkL gv,g < w.heap.size:=ht.gone.lt
 obtain⟨pg,cg,hgv,_⟩:=ht.gone.rd.len_eq
 obtain⟨G,hG⟩: ∃G,G=s.gone.length:=⟨_,rfl⟩
 rw [<-hG] at hgv
 subst hgv
 obtain⟨pv,hpv⟩: ∃q,q=Option.map (fun b=> (⟨b,0,none⟩:Addr)) yv.2:=⟨_,rfl⟩
 obtain⟨c0,c1,c2,c3,c4,c5, -, -⟩:=ht0.cells
 simp only [ptV] at c5
 rw [<-hpv] at c5
 obtain⟨HRB,HPB,HT,HGLT,HPV⟩:=h_5 hrb hpb ht0 hglt hpv
 have HSY:=hi_ (h.ext0 hE0)
 obtain⟨HDK,HRT,HWB,HE0⟩:=h_4 hd hr hb hE0
 clear h hd ht hr hb hE0 hrb hpb ht0 hglt hpv hG
 obtain⟨rb,hrbe⟩: ∃z,z=w.heap.size:=⟨_,rfl⟩
 obtain⟨pb,hpbe⟩: ∃z,z=w.heap.size+1:=⟨_,rfl⟩
 obtain⟨HRBE,HPBE⟩:=h_2 hrbe hpbe
 rw [<-hrbe] at HRB
 rw [<-hpbe] at HPB
 go_enter Tryz.func15,Tryz.ntmps15
 go_wp2_with fail
 try simp only [<-hpbe]
 try simp only [<-hrbe]
 clear hrbe hpbe
 revert HRB HPB HT HSY HE0 c0 c1 c2 c3 c4 c5
 generalize World.alloc _ _=W0
 intro c0 c1 c2 c3 c4 c5 HT HSY HE0 HRB HPB
 have hSS: ∀W,TreeR W y tb yv (.slice pg G cg) s->W.cell? ⟨tb,0,none⟩=some (.pointer (some ⟨y.b,0,none⟩))/\W.cell? ⟨tb,1,none⟩=some (.int .i64 yv.1.1)/\W.cell? ⟨tb,2,none⟩=some (.int .i64 yv.1.2.1)/\W.cell? ⟨tb,3,none⟩=some (.int .i64 yv.1.2.2.1)/\W.cell? ⟨tb,4,none⟩=some (.string ⟨yv.1.2.2.2.toArray⟩)/\W.cell? ⟨tb,5,none⟩=some (.pointer pv):=fun W h=> by
  obtain⟨d0,d1,d2,d3,d4,d5, -, -⟩:=h.cells
  rw [ptV,<-HPV.out] at d5
  exact⟨d0,d1,d2,d3,d4,d5⟩
 have HSS:=hi_ hSS
 have hwr: ∀W,Ext [] W0 W->Calls Tryz.prog 46 #[.pointer (some ⟨y.b,0,none⟩),refV yv,.pointer (some ⟨pb,0,none⟩)] W (RootWP y v L pb s.root W):=fun W hE=> fC_ ⟨HSY.out.ext0 hE,HDK.out,_,hE.blk HPB.out (by simp),.inl ⟨rfl,rfl⟩,by simp [blkL]⟩ (HT.out.ext0 hE).root HRT.out HWB.out
 simp only [refV,ptV] at hwr
 rw [<-HPV.out] at hwr
 have HWR:=hi_ hwr
 have HC8:Hid (∀W W8 v8 L8 ms,Ext [] W0 W->WrRes y v L pb [] W v8 L8 ms W8->SyR W8 y v8/\PutC W8 pb ms/\TreeR W8 y tb yv (.slice pg G cg) s/\W8.heap[rb]? =some (.cells #[.int .i64 0,.int .i64 0,.int .i64 0,.string ⟨#[]⟩] 34 (0,0))/\SyF y w W8):=hi_ (fun W W8 v8 L8 ms hE hr=> by
  refine⟨hr.ws.sy,hr.ws.put,(HT.out.ext0 hE).cf (HSY.out.ext0 hE) hr.cf (fun g hg=> by rw [HPBE.out];have:=HGLT.out g hg;omega),CF.low (HSY.out.ext0 hE) hr.cf (hE.blk HRB.out (by simp)) (by rw [HRBE.out,HPBE.out];omega) (by decide), ?_⟩
  exact((CF.of0 (HE0.out.trans hE)).trans hr.cf).syf (by rw [HPBE.out];omega))
 have hD:=(Ext.refl [] W0).drew
 clear hSS hwr
 refine e_ (fun W=> W.cell? ⟨tb,0,none⟩=some (.pointer (some ⟨y.b,0,none⟩))/\W.cell? ⟨tb,1,none⟩=some (.int .i64 yv.1.1)/\W.cell? ⟨tb,2,none⟩=some (.int .i64 yv.1.2.1)/\W.cell? ⟨tb,3,none⟩=some (.int .i64 yv.1.2.2.1)/\W.cell? ⟨tb,4,none⟩=some (.string ⟨yv.1.2.2.2.toArray⟩)/\W.cell? ⟨tb,5,none⟩=some (.pointer pv)) (fun i=> i==3 || i==7 || i==12) (by kernel_rfl) ⟨hD.cell c0 (by simp),hD.cell c1 (by simp),hD.cell c2 (by simp),hD.cell c3 (by simp),hD.cell c4 (by simp),hD.cell c5 (by simp)⟩ (fun hS=> ?_)
 refine PUq 0 ?_;(try go_frame);refine PUq 4 ?_;(try go_frame);refine PUq 1 ?_;(try go_frame);refine PUq 5 ?_;(try go_frame);refine PUq 2 ?_;(try go_frame);refine PUq 6 ?_;(try go_frame);(try simp only [zA,zB,zC,zD,zE])
 refine ta 3 ?_;(try go_frame);refine ta 7 ?_;(try go_frame);(try simp only [zA,zB,zC,zD,zE])
 refine ao_ (i:=8) (j:=12) (by kernel_rfl) rfl rfl (fun K hK=> ?_) (fun K hK=> ?_)
 ·(try simp only [Act.put,zA,zB,zC,zF,zD,zE]);refine iw rfl ?_
  go_simp
  refine(HWR.out _ hD).mono ?_
  rintro e W8 ⟨v8,L8,ms,hres8,hc8⟩
  have h8:=HC8.out _ _ _ _ _ hD hres8
  have HPR:=hi_ hres8.pr
  have H8:=hi_ h8
  clear hres8 h8 c0 c1 c2 c3 c4 c5
  rcases hc8 with ⟨q,r',rfl,hwr,hle⟩ | ⟨rfl,hno⟩
  ·have HWO:=hi_ hwr
   have HLE:=hi_ hle
   clear hwr hle
   simp only [refV,ptV,Option.map_none]
   refine nk hK ?_
   clear hK hS hD
   refine PUq 9 ?_;(try go_frame);(try simp only [zA,zB,zC,zD,zE]);refine PUq 10 ?_;(try go_frame);(try simp only [zA,zB,zC,zD,zE]);refine PUq 11 ?_;(try go_frame);(try simp only [zA,zB,zC,zD,zE])
   refine oN 12 fun K hK=> ?_
   (try simp only [Act.put,zA,zB,zC,zF,zD,zE]);refine iw rfl ?_
   go_simp
   have hEb:=(Ext.refl [] W8).alloc (.cells #[.int .i64 0,.int .i64 0,.int .i64 0,.string ⟨#[]⟩,.pointer none] 89)
   have hbb:=heap_alloc_new W8 (.cells #[.int .i64 0,.int .i64 0,.int .i64 0,.string ⟨#[]⟩,.pointer none] 89)
   refine hK.out _ _ (fun _=> HSS.out _ (H8.out.2.2.1.ext0 hEb)) (fun _=> ?_)
   obtain⟨bx,hbx⟩: ∃z,z=W8.heap.size:=⟨_,rfl⟩
   rw [<-hbx] at hbb
   try simp only [<-hbx]
   have hbge:w.heap.size<=bx:=by rw [hbx];exact ExtT.size H8.out.2.2.2.2
   have H9:Hid (SyR (W8.alloc (.cells #[.int .i64 0,.int .i64 0,.int .i64 0,.string ⟨#[]⟩,.pointer none] 89)) y v8/\PutC (W8.alloc (.cells #[.int .i64 0,.int .i64 0,.int .i64 0,.string ⟨#[]⟩,.pointer none] 89)) pb ms/\TreeR (W8.alloc (.cells #[.int .i64 0,.int .i64 0,.int .i64 0,.string ⟨#[]⟩,.pointer none] 89)) y tb yv (.slice pg G cg) s/\(W8.alloc (.cells #[.int .i64 0,.int .i64 0,.int .i64 0,.string ⟨#[]⟩,.pointer none] 89)).heap[rb]? =some (.cells #[.int .i64 0,.int .i64 0,.int .i64 0,.string ⟨#[]⟩] 34 (0,0))/\SyF y w (W8.alloc (.cells #[.int .i64 0,.int .i64 0,.int .i64 0,.string ⟨#[]⟩,.pointer none] 89))):=hi_ ⟨H8.out.1.ext0 hEb,H8.out.2.1.ext hEb (by simp),H8.out.2.2.1.ext0 hEb,hEb.blk H8.out.2.2.2.1 (by simp),H8.out.2.2.2.2.trans (SyF.of0 hEb)⟩
   obtain⟨HBB,HBG⟩:=h_2 hbb hbge
   clear hK hEb hbb hbx H8 hbge
   revert H9 HBB
   generalize World.alloc _ _=W9
   intro H9 HBB
   refine oN 13 fun K hK=> ?_
   rw [if_pos (show Region.wanted _ _=true from rfl)]
   have hq5:=am_ HBB.out
   obtain⟨q0,q1,q2,q3,q4,hfz⟩:=hq5
   obtain⟨hs,hE10⟩:=set5 HBB.out (.int .i64 (q).1) (.int .i64 (q).2.1) (.int .i64 (q).2.2.1) (.string ⟨(q).2.2.2.toArray⟩) (.pointer none)
   have htg:=d_ HBB.out
   have hT9:=H9.out.2.2.1
   have hne: ∀k∈ [bx],∀T∈(38::34::91::aM_),q_ W9 k≠some T:=by simp only [List.mem_singleton,forall_eq,htg];decide
   have HBB10:=hi_ hs
   have H10:=hi_ (⟨H9.out.1.otherT hE10 (fun k hk T hT=> hne k hk T (by revert T;decide)),H9.out.2.1.ext hE10 (fun k hk T hT=> hne k hk T (by revert T;decide)),hT9.res HRT.out HBB.out (z:=(q,none)) hs hE10,hE10.blk H9.out.2.2.2.1 (by simp;intro e;rw [<-e] at htg;rw [d_ H9.out.2.2.2.1] at htg;cases htg),H9.out.2.2.2.2.new hE10 HBG.out⟩:SyR _ y v8/\PutC _ pb ms/\TreeR _ y tb yv (.slice pg G cg) s/\_/\SyF y w _)
   clear hT9 hne hs hE10 htg H9 HBB
   go_simp
   refine nk hK ?_
   clear hK hfz q0 q1 q2 q3 q4
   refine PUq 14 ?_;(try go_frame);(try simp only [zA,zB,zC,zD,zE])
   refine c_ (by kernel_rfl) ?_ _
   revert H10 HBB10
   generalize World.setCell _ _ _=W10
   intro HBB10 H10
   have hT:=H10.out.2.2.1
   have hrb10:=H10.out.2.2.2.1
   have hblk:=hT.blk
   simp only [ba_,ptV] at hblk
   obtain⟨q0,q1,q2,q3,q4,q5,q6,q7⟩:=hT.cells
   simp only [ptV] at q5
   have hfz: ∀j,W10.frozen? ⟨tb,j,none⟩=false:=fun j=> frozen_of_row _ _ _ _ _ hblk
   obtain⟨x0,x1,x2,x3,x4, -⟩:=am_ HBB10.out
   obtain⟨p0,p1,p2,p3,hfr⟩:=E_ hrb10
   have htt:=d_ hblk
   have htr:=d_ hrb10
   have htb:=d_ HBB10.out
   have hn1: ¬bx=tb:=fun e=> by rw [e,htt] at htb;cases htb
   have hn2: ¬rb=tb:=fun e=> by rw [e,htt] at htr;cases htr
   have hn3: ¬tb=rb:=fun e=> hn2 e.symm
   have hn4: ¬tb=bx:=fun e=> hn1 e.symm
   obtain⟨HTT,HTR,HBK,HRB10,HT10⟩:=h_5 htt htr hblk hrb10 hT
   clear htt htr htb hblk hrb10 hT
   go_wp2_with fail
   obtain⟨hs,hE11⟩:=set8 HBK.out (.int .i64 q.1) (.int .i64 q.2.1) (.int .i64 q.2.2.1) (.string ⟨q.2.2.2.toArray⟩) (.pointer none) (.slice none 0 0) (.bool false)
   have hrb11:=hE11.blk HRB10.out (by simpa using hn2)
   obtain⟨hs2,hE12⟩:=set4 hrb11 (.int .i64 q.1) (.int .i64 q.2.1) (.int .i64 q.2.2.1) (.string ⟨q.2.2.2.toArray⟩)
   obtain⟨r0,r1,r2,r3,_⟩:=E_ hs2
   refine bodyPost_ret (v:= .tuple #[bp_ q,.slice pg G cg,.int .i64 0]) (by simp [results,Tryz.results15,go_sem,r0,r1,r2,r3]) rfl ?_
   have htr11:=d_ hrb11
   refine⟨v8,L8,.inl ⟨q,r',ms,HPR.out,HWO.out,HLE.out,rfl,(H10.out.1.otherT hE11 (by simp only [List.mem_singleton,forall_eq,HTT.out];decide)).otherT hE12 (by simp only [List.mem_singleton,forall_eq,htr11];decide),⟨hE12.blk hs (by simpa using hn3), ?_,.inl ⟨rfl,rfl⟩⟩, ?_,DF.tree2 H10.out.2.2.2.2 ((hE11.mono (S':= [tb,rb]) (by simp)).trans (hE12.mono (S':= [tb,rb]) (by simp))) (by rw [HRBE.out];exact Nat.le_refl _)⟩⟩
   ·have hat:=HWO.out.at_
    cases r' with
    | none=> rw [show q=P0 from hat];rfl
    | some x=>
     obtain⟨n,x⟩:=x
     have hat:x.1=some q:=hat
     show KidR _ (q,none) x
     unfold KidR
     simp only [hat]
   ·refine(HT10.out.gone.ext hE11 (fun g hg hm=> ?_)).ext hE12 (fun g hg hm=> ?_)
    ·simp at hm
     rw [hm] at hg
     have h1:=HT10.out.gone.tagOf tb hg
     rw [HTT.out] at h1
     cases h1
    ·simp at hm
     have h1:=HGLT.out g hg
     rw [hm,HRBE.out] at h1
     omega
  ·have HNO:Hid (∃vx Lx ms,PutsR y v vx L Lx ms/\ ∃z,G_ y.k ms+z<=unwR y.k s.root/\NoRoomZ y.k vx z):=hi_ ⟨v8,L8,ms,HPR.out,hno⟩
   clear hno
   simp only [refV,ptV,Option.map_none]
   refine nk hK ?_
   clear hK hS hD
   refine PUq 9 ?_;(try go_frame);(try simp only [zA,zB,zC,zD,zE]);refine PUq 10 ?_;(try go_frame);(try simp only [zA,zB,zC,zD,zE]);refine PUq 11 ?_;(try go_frame);(try simp only [zA,zB,zC,zD,zE])
   refine oN 12 fun K hK=> ?_
   (try simp only [Act.put,zA,zB,zC,zF,zD,zE]);refine iw rfl ?_
   go_simp
   have hEb:=(Ext.refl [] W8).alloc (.cells #[.int .i64 0,.int .i64 0,.int .i64 0,.string ⟨#[]⟩,.pointer none] 89)
   have hbb:=heap_alloc_new W8 (.cells #[.int .i64 0,.int .i64 0,.int .i64 0,.string ⟨#[]⟩,.pointer none] 89)
   refine hK.out _ _ (fun _=> HSS.out _ (H8.out.2.2.1.ext0 hEb)) (fun _=> ?_)
   obtain⟨bx,hbx⟩: ∃z,z=W8.heap.size:=⟨_,rfl⟩
   rw [<-hbx] at hbb
   try simp only [<-hbx]
   have hbge:w.heap.size<=bx:=by rw [hbx];exact ExtT.size H8.out.2.2.2.2
   have H9:Hid (SyR (W8.alloc (.cells #[.int .i64 0,.int .i64 0,.int .i64 0,.string ⟨#[]⟩,.pointer none] 89)) y v8/\PutC (W8.alloc (.cells #[.int .i64 0,.int .i64 0,.int .i64 0,.string ⟨#[]⟩,.pointer none] 89)) pb ms/\TreeR (W8.alloc (.cells #[.int .i64 0,.int .i64 0,.int .i64 0,.string ⟨#[]⟩,.pointer none] 89)) y tb yv (.slice pg G cg) s/\(W8.alloc (.cells #[.int .i64 0,.int .i64 0,.int .i64 0,.string ⟨#[]⟩,.pointer none] 89)).heap[rb]? =some (.cells #[.int .i64 0,.int .i64 0,.int .i64 0,.string ⟨#[]⟩] 34 (0,0))/\SyF y w (W8.alloc (.cells #[.int .i64 0,.int .i64 0,.int .i64 0,.string ⟨#[]⟩,.pointer none] 89))):=hi_ ⟨H8.out.1.ext0 hEb,H8.out.2.1.ext hEb (by simp),H8.out.2.2.1.ext0 hEb,hEb.blk H8.out.2.2.2.1 (by simp),H8.out.2.2.2.2.trans (SyF.of0 hEb)⟩
   obtain⟨HBB,HBG⟩:=h_2 hbb hbge
   clear hK hEb hbb hbx H8 hbge
   revert H9 HBB
   generalize World.alloc _ _=W9
   intro H9 HBB
   refine oN 13 fun K hK=> ?_
   rw [if_pos (show Region.wanted _ _=true from rfl)]
   have hq5:=am_ HBB.out
   obtain⟨q0,q1,q2,q3,q4,hfz⟩:=hq5
   obtain⟨hs,hE10⟩:=set5 HBB.out (.int .i64 (P0).1) (.int .i64 (P0).2.1) (.int .i64 (P0).2.2.1) (.string ⟨(P0).2.2.2.toArray⟩) (.pointer none)
   have htg:=d_ HBB.out
   have hT9:=H9.out.2.2.1
   have hne: ∀k∈ [bx],∀T∈(38::34::91::aM_),q_ W9 k≠some T:=by simp only [List.mem_singleton,forall_eq,htg];decide
   have HBB10:=hi_ hs
   have H10:=hi_ (⟨H9.out.1.otherT hE10 (fun k hk T hT=> hne k hk T (by revert T;decide)),H9.out.2.1.ext hE10 (fun k hk T hT=> hne k hk T (by revert T;decide)),hT9.res HRT.out HBB.out (z:=(P0,none)) hs hE10,hE10.blk H9.out.2.2.2.1 (by simp;intro e;rw [<-e] at htg;rw [d_ H9.out.2.2.2.1] at htg;cases htg),H9.out.2.2.2.2.new hE10 HBG.out⟩:SyR _ y v8/\PutC _ pb ms/\TreeR _ y tb yv (.slice pg G cg) s/\_/\SyF y w _)
   clear hT9 hne hs hE10 htg H9 HBB
   go_simp
   refine nk hK ?_
   clear hK hfz q0 q1 q2 q3 q4
   refine PUq 14 ?_;(try go_frame);(try simp only [zA,zB,zC,zD,zE])
   refine c_ (by kernel_rfl) ?_ _
   revert H10 HBB10
   generalize World.setCell _ _ _=W10
   intro HBB10 H10
   obtain⟨gvp,g1,g2,g3⟩:=H10.out.2.1
   obtain⟨pm,cm,rfl,hcm⟩:=g2.rd.len_eq
   obtain⟨LN,hK9⟩: ∃z,z=ms.length:=⟨_,rfl⟩
   rw [<-hK9] at g1 g2 g3 hcm
   have hLN:LN<=500000:=by
    have h1:=fg_ rfl HPR.out.new HPR.out.dk
    have h2:=HPR.out.cnt
    have h3:=HWB.out.ps
    have h4:=aG_ H10.out.1.spi.okF
    simp only [List.length_nil] at h3
    omega
   have gc:W10.cell? ⟨pb,0,none⟩=some (.slice pm LN cm):=by rw [cell_of_row _ pb 0 _ _ _ g1];rfl
   have HK9:=hi_ hK9
   have HI0:Hid (GivI y v v8 L ms 0 v8 L8):=hi_ (GivI.start HPR.out)
   have HM0:Hid (SyR W10 y v8/\EP.Ow 34 W10 (.slice pm LN cm) ms/\TreeR W10 y tb yv (.slice pg G cg) s/\W10.heap[rb]? =some (.cells #[.int .i64 0,.int .i64 0,.int .i64 0,.string ⟨#[]⟩] 34 (0,0))/\SyF y w W10):=hi_ ⟨H10.out.1,g2,H10.out.2.2.1,H10.out.2.2.2.1,H10.out.2.2.2.2⟩
   clear hK9 g1 g2 g3
   go_wp2_with fail
   clear gc
   go_loopw [30] (fun iv wr=> ∃(i:Nat) (vi:Sv) (Li:List Blk),iv= .int .i64 i/\i<=LN/\Hid (GivI y v v8 L ms i vi Li)/\Hid (SyR wr y vi/\EP.Ow 34 wr (.slice pm LN cm) ms/\TreeR wr y tb yv (.slice pg G cg) s/\wr.heap[rb]? =some (.cells #[.int .i64 0,.int .i64 0,.int .i64 0,.string ⟨#[]⟩] 34 (0,0))/\SyF y w wr)) (fun iv _=> LN - (intOf iv).toNat)
   case atStart=> exact⟨0,v8,L8,rfl,Nat.zero_le _,HI0,HM0⟩
   case round=>
    clear HI0 HM0 H10 HBB10
    obtain⟨i,vi,Li,rfl,hi,HI,HM⟩:=hrel
    by_cases hlt:i < LN
    ·have z1:(i:Int) < (LN:Int):=by omega
     have him:i < ms.length:=by rw [<-HK9.out];exact hlt
     obtain⟨q,hq⟩: ∃q,ms[i]? =some q:=⟨_,List.getElem?_eq_getElem him⟩
     have hqd:ms.getD i P0=q:=by simp [List.getD,hq]
     obtain⟨g5,o5,rfl⟩: ∃g o,pm=some ⟨g,o,none⟩:=by
      rcases HM.out.2.1 with ⟨h,_⟩ | ⟨g,o,c,_,h,_⟩
      ·simp only [Value.slice.injEq] at h;omega
      ·simp only [Value.slice.injEq] at h;exact⟨g,_,h.1⟩
     obtain⟨m0,m1,m2,m3⟩:=fs_ HM.out.2.1.rd i him
     rw [hqd] at m0 m1 m2 m3
     obtain⟨bs,hbs1,hbs2⟩:=HI.out.rest q (by
      obtain⟨h1,h2⟩:=List.getElem?_eq_some_iff.1 hq
      rw [List.drop_eq_getElem_cons h1,h2];simp)
     have hstd:=HI.out.dk.dsk.std _ hbs1
     have hq1:1<=q.2.1:=by rw [hbs2.1];exact hstd.1
     have hq2:q.2.1<=1024:=by rw [hbs2.1];exact hstd.2.1
     have hq3:q.1<=1000000:=by
      have h1:=hstd.2.2.1
      have h2:=HM.out.1.spi.c2
      have h3:=HM.out.1.cells
      simp only at h1
      omega
     have hbx:=heap_alloc_new wr (.cells #[.int .i64 q.1,.int .i64 q.2.1,.int .i64 q.2.2.1,.string ⟨q.2.2.2.toArray⟩] 34)
     have hEx:Ext [] wr (wr.alloc (.cells #[.int .i64 q.1,.int .i64 q.2.1,.int .i64 q.2.2.1,.string ⟨q.2.2.2.toArray⟩] 34)):=(Ext.refl [] wr).alloc _
     have HM1:Hid (SyR (wr.alloc (.cells #[.int .i64 q.1,.int .i64 q.2.1,.int .i64 q.2.2.1,.string ⟨q.2.2.2.toArray⟩] 34)) y vi/\EP.Ow 34 (wr.alloc (.cells #[.int .i64 q.1,.int .i64 q.2.1,.int .i64 q.2.2.1,.string ⟨q.2.2.2.toArray⟩] 34)) (.slice (some ⟨g5,o5,none⟩) LN cm) ms/\TreeR (wr.alloc (.cells #[.int .i64 q.1,.int .i64 q.2.1,.int .i64 q.2.2.1,.string ⟨q.2.2.2.toArray⟩] 34)) y tb yv (.slice pg G cg) s/\(wr.alloc (.cells #[.int .i64 q.1,.int .i64 q.2.1,.int .i64 q.2.2.1,.string ⟨q.2.2.2.toArray⟩] 34)).heap[rb]? =some (.cells #[.int .i64 0,.int .i64 0,.int .i64 0,.string ⟨#[]⟩] 34 (0,0))/\SyF y w (wr.alloc (.cells #[.int .i64 q.1,.int .i64 q.2.1,.int .i64 q.2.2.1,.string ⟨q.2.2.2.toArray⟩] 34))):=hi_ ⟨HM.out.1.ext0 hEx,HM.out.2.1.ext0 hEx,HM.out.2.2.1.ext0 hEx,hEx.blk HM.out.2.2.2.1 (by simp),HM.out.2.2.2.2.trans (SyF.of0 hEx)⟩
     obtain⟨HBX,HQ⟩:=h_2 hbx hq
     obtain⟨bx5,hbxe⟩: ∃b,b=wr.heap.size:=⟨_,rfl⟩
     clear hbs1 hbs2 hstd hbx hEx hqd him hq HM
     go_wp2_with fail
     rw [<-hbxe] at HBX
     try simp only [<-hbxe]
     clear hbxe
     revert HM1 HBX
     generalize World.alloc _ _=W4
     intro HM1 HBX
     obtain⟨x0,x1,x2,x3, -⟩:=E_ HBX.out
     obtain⟨t0, -⟩:=HM1.out.2.2.1.cells
     have hD:=(Ext.refl [] W4).drew
     have hgive:=eG_ y vi q.1 q.2.1 q.2.2.1 q.2.2.2 W4.drew (HM1.out.1.ext0 hD) hq1 hq2 hq3
     simp only [pagg] at hgive
     have HGV:=hi_ hgive
     clear hgive
     refine e_ (fun W=> W.cell? ⟨tb,0,none⟩=some (.pointer (some ⟨y.b,0,none⟩))/\W.cell? ⟨bx5,0,none⟩=some (.int .i64 q.1)/\W.cell? ⟨bx5,1,none⟩=some (.int .i64 q.2.1)/\W.cell? ⟨bx5,2,none⟩=some (.int .i64 q.2.2.1)/\W.cell? ⟨bx5,3,none⟩=some (.string ⟨q.2.2.2.toArray⟩)) (fun i=> i==3 || i==4) (by kernel_rfl) ⟨hD.cell t0 (by simp),hD.cell x0 (by simp),hD.cell x1 (by simp),hD.cell x2 (by simp),hD.cell x3 (by simp)⟩ (fun hS=> ?_)
     refine PUq 0 ?_;(try go_frame);refine PUq 1 ?_;(try go_frame);refine PUq 2 ?_;(try go_frame)
     refine ta 3 ?_;(try go_frame);refine ta 4 ?_;(try go_frame)
     refine oN 5 fun K hK=> ?_
     (try simp only [Act.put,zA,zB,zC,zF,zD,zE]);refine iw rfl ?_
     go_simp
     refine HGV.out.mono ?_
     rintro e W5 ⟨err,v2,rfl,hsy2,hF2,hws2,hrel2,hst2⟩
     have hsyD:=HM1.out.1.ext0 hD
     have hFD:SyF y W4 W5:=(SyF.of0 hD).trans hF2
     obtain⟨S5,hS5a,hS5b⟩:=hF2.tags hsyD
     have HI5:Hid (GivI y v v8 L ms (i+1) v2 (offL Li q.1)):=hi_ (GivI.step HPR.out HI.out HQ.out hsyD.spi hsyD.cells hrel2 hws2 hst2)
     have HM5:Hid (SyR W5 y v2/\EP.Ow 34 W5 (.slice (some ⟨g5,o5,none⟩) LN cm) ms/\TreeR W5 y tb yv (.slice pg G cg) s/\W5.heap[rb]? =some (.cells #[.int .i64 0,.int .i64 0,.int .i64 0,.string ⟨#[]⟩] 34 (0,0))/\SyF y w W5):=hi_ ⟨hsy2,(HM1.out.2.1.ext0 hD).ext hS5a (fun g hg hm=> hS5b g hm _ (by decide) ((HM1.out.2.1.ext0 hD).tagOf g hg)),(HM1.out.2.2.1.ext0 hD).syf hsyD hF2,hF2.blk hsyD (hD.blk HM1.out.2.2.2.1 (by simp)) (by decide),HM1.out.2.2.2.2.trans hFD⟩
     refine nk hK ?_
     refine c_ (by kernel_rfl) ?_ _
     clear hK hS hsy2 hF2 hws2 hrel2 hst2 hsyD hFD hS5a hS5b HM1 HI HBX HGV hD x0 x1 x2 x3 t0 m0 m1 m2 m3
     go_wp2_with fail
     go_roundw
     case rel=> exact⟨i+1,v2,offL Li q.1,by go_num,by omega,HI5,HM5⟩
     case measure=> simp [intOf];omega
    ·have z1: ¬((i:Int) < (LN:Int)):=by omega
     have hrb9:=HM.out.2.2.2.1
     obtain⟨p0,p1,p2,p3,hfr⟩:=E_ hrb9
     go_wp2_with fail
     obtain⟨hs,hE9⟩:=set4 hrb9 (.int .i64 0) (.int .i64 0) (.int .i64 0) (.string ⟨#[]⟩)
     obtain⟨r0,r1,r2,r3,_⟩:=E_ hs
     refine bodyPost_ret (v:= .tuple #[.agg #[.int .i64 0,.int .i64 0,.int .i64 0,.string ⟨#[]⟩],.slice none 0 0,.int .i64 5]) (by simp [results,Tryz.results15,go_sem,r0,r1,r2,r3]) rfl ?_
     have htg:=d_ hrb9
     refine⟨vi,Li,.inr ⟨rfl,HI.out.done HPR.out (by rw [<-HK9.out];omega),HNO.out,HM.out.1.otherT hE9 (by simp only [List.mem_singleton,forall_eq,htg];decide), ?_,DF.of (HM.out.2.2.2.2.new hE9 (by rw [HRBE.out];exact Nat.le_refl _))⟩⟩
     have hT:=HM.out.2.2.1
     refine⟨hE9.blk hT.blk (fun hm=> by simp at hm;subst hm;rw [d_ hT.blk] at htg;cases htg),hT.root.ext hE9 (by simp only [List.mem_singleton,forall_eq,htg];decide),hT.gone.ext hE9 (fun g hg hm=> ?_)⟩
     simp at hm
     have h1:=HGLT.out g hg
     rw [hm,HRBE.out] at h1
     omega
 ·(try simp only [Act.put,zA,zB,zC,zF,zD,zE]);refine iw rfl ?_
  go_simp
  have hEb:Ext [] W0 (W0.alloc (.cells #[.int .i64 0,.int .i64 0,.int .i64 0,.string ⟨#[]⟩,.pointer none] 89)).drew:=((Ext.refl [] W0).alloc _).drew
  have hbb:(W0.alloc (.cells #[.int .i64 0,.int .i64 0,.int .i64 0,.string ⟨#[]⟩,.pointer none] 89)).drew.heap[W0.heap.size]? =some (.cells #[.int .i64 0,.int .i64 0,.int .i64 0,.string ⟨#[]⟩,.pointer none] 89 (0,0)):=heap_alloc_new W0 _
  refine hK.out _ _ (fun _=> ⟨hEb.cell c0 (by simp),hEb.cell c1 (by simp),hEb.cell c2 (by simp),hEb.cell c3 (by simp),hEb.cell c4 (by simp),hEb.cell c5 (by simp)⟩) (fun _=> ?_)
  have hbge:w.heap.size<=W0.heap.size:=HE0.out.size
  obtain⟨bx,hbx⟩: ∃z,z=W0.heap.size:=⟨_,rfl⟩
  rw [<-hbx] at hbb hbge
  try simp only [<-hbx]
  clear hK hbx
  refine oN 8 fun K hK=> ?_
  (try simp only [Act.put,zA,zB,zC,zF,zD,zE]);refine iw rfl ?_
  go_simp
  refine(HWR.out _ hEb).mono ?_
  rintro e W9 ⟨v8,L8,ms,hres8,hc8⟩
  have h8:=HC8.out _ _ _ _ _ hEb hres8
  have HPR:=hi_ hres8.pr
  have HBB:=hi_ (CF.blk (HSY.out.ext0 hEb) hres8.cf hbb (by decide))
  obtain⟨H9,HBG⟩:=h_2 h8 hbge
  clear hres8 h8 c0 c1 c2 c3 c4 c5 hbb hbge hEb
  rcases hc8 with ⟨q,r',rfl,hwr,hle⟩ | ⟨rfl,hno⟩
  ·have HWO:=hi_ hwr
   have HLE:=hi_ hle
   clear hwr hle
   simp only [refV,ptV,Option.map_none]
   refine nk hK ?_
   clear hK hS hD
   refine PUq 9 ?_;(try go_frame);(try simp only [zA,zB,zC,zD,zE]);refine PUq 10 ?_;(try go_frame);(try simp only [zA,zB,zC,zD,zE]);refine PUq 11 ?_;(try go_frame);(try simp only [zA,zB,zC,zD,zE])
   refine oN 13 fun K hK=> ?_
   rw [if_pos (show Region.wanted _ _=true from rfl)]
   have hq5:=am_ HBB.out
   obtain⟨q0,q1,q2,q3,q4,hfz⟩:=hq5
   obtain⟨hs,hE10⟩:=set5 HBB.out (.int .i64 (q).1) (.int .i64 (q).2.1) (.int .i64 (q).2.2.1) (.string ⟨(q).2.2.2.toArray⟩) (.pointer none)
   have htg:=d_ HBB.out
   have hT9:=H9.out.2.2.1
   have hne: ∀k∈ [bx],∀T∈(38::34::91::aM_),q_ W9 k≠some T:=by simp only [List.mem_singleton,forall_eq,htg];decide
   have HBB10:=hi_ hs
   have H10:=hi_ (⟨H9.out.1.otherT hE10 (fun k hk T hT=> hne k hk T (by revert T;decide)),H9.out.2.1.ext hE10 (fun k hk T hT=> hne k hk T (by revert T;decide)),hT9.res HRT.out HBB.out (z:=(q,none)) hs hE10,hE10.blk H9.out.2.2.2.1 (by simp;intro e;rw [<-e] at htg;rw [d_ H9.out.2.2.2.1] at htg;cases htg),H9.out.2.2.2.2.new hE10 HBG.out⟩:SyR _ y v8/\PutC _ pb ms/\TreeR _ y tb yv (.slice pg G cg) s/\_/\SyF y w _)
   clear hT9 hne hs hE10 htg H9 HBB
   go_simp
   refine nk hK ?_
   clear hK hfz q0 q1 q2 q3 q4
   refine PUq 14 ?_;(try go_frame);(try simp only [zA,zB,zC,zD,zE])
   refine c_ (by kernel_rfl) ?_ _
   revert H10 HBB10
   generalize World.setCell _ _ _=W10
   intro HBB10 H10
   have hT:=H10.out.2.2.1
   have hrb10:=H10.out.2.2.2.1
   have hblk:=hT.blk
   simp only [ba_,ptV] at hblk
   obtain⟨q0,q1,q2,q3,q4,q5,q6,q7⟩:=hT.cells
   simp only [ptV] at q5
   have hfz: ∀j,W10.frozen? ⟨tb,j,none⟩=false:=fun j=> frozen_of_row _ _ _ _ _ hblk
   obtain⟨x0,x1,x2,x3,x4, -⟩:=am_ HBB10.out
   obtain⟨p0,p1,p2,p3,hfr⟩:=E_ hrb10
   have htt:=d_ hblk
   have htr:=d_ hrb10
   have htb:=d_ HBB10.out
   have hn1: ¬bx=tb:=fun e=> by rw [e,htt] at htb;cases htb
   have hn2: ¬rb=tb:=fun e=> by rw [e,htt] at htr;cases htr
   have hn3: ¬tb=rb:=fun e=> hn2 e.symm
   have hn4: ¬tb=bx:=fun e=> hn1 e.symm
   obtain⟨HTT,HTR,HBK,HRB10,HT10⟩:=h_5 htt htr hblk hrb10 hT
   clear htt htr htb hblk hrb10 hT
   go_wp2_with fail
   obtain⟨hs,hE11⟩:=set8 HBK.out (.int .i64 q.1) (.int .i64 q.2.1) (.int .i64 q.2.2.1) (.string ⟨q.2.2.2.toArray⟩) (.pointer none) (.slice none 0 0) (.bool false)
   have hrb11:=hE11.blk HRB10.out (by simpa using hn2)
   obtain⟨hs2,hE12⟩:=set4 hrb11 (.int .i64 q.1) (.int .i64 q.2.1) (.int .i64 q.2.2.1) (.string ⟨q.2.2.2.toArray⟩)
   obtain⟨r0,r1,r2,r3,_⟩:=E_ hs2
   refine bodyPost_ret (v:= .tuple #[bp_ q,.slice pg G cg,.int .i64 0]) (by simp [results,Tryz.results15,go_sem,r0,r1,r2,r3]) rfl ?_
   have htr11:=d_ hrb11
   refine⟨v8,L8,.inl ⟨q,r',ms,HPR.out,HWO.out,HLE.out,rfl,(H10.out.1.otherT hE11 (by simp only [List.mem_singleton,forall_eq,HTT.out];decide)).otherT hE12 (by simp only [List.mem_singleton,forall_eq,htr11];decide),⟨hE12.blk hs (by simpa using hn3), ?_,.inl ⟨rfl,rfl⟩⟩, ?_,DF.tree2 H10.out.2.2.2.2 ((hE11.mono (S':= [tb,rb]) (by simp)).trans (hE12.mono (S':= [tb,rb]) (by simp))) (by rw [HRBE.out];exact Nat.le_refl _)⟩⟩
   ·have hat:=HWO.out.at_
    cases r' with
    | none=> rw [show q=P0 from hat];rfl
    | some x=>
     obtain⟨n,x⟩:=x
     have hat:x.1=some q:=hat
     show KidR _ (q,none) x
     unfold KidR
     simp only [hat]
   ·refine(HT10.out.gone.ext hE11 (fun g hg hm=> ?_)).ext hE12 (fun g hg hm=> ?_)
    ·simp at hm
     rw [hm] at hg
     have h1:=HT10.out.gone.tagOf tb hg
     rw [HTT.out] at h1
     cases h1
    ·simp at hm
     have h1:=HGLT.out g hg
     rw [hm,HRBE.out] at h1
     omega
  ·have HNO:Hid (∃vx Lx ms,PutsR y v vx L Lx ms/\ ∃z,G_ y.k ms+z<=unwR y.k s.root/\NoRoomZ y.k vx z):=hi_ ⟨v8,L8,ms,HPR.out,hno⟩
   clear hno
   simp only [refV,ptV,Option.map_none]
   refine nk hK ?_
   clear hK hS hD
   refine PUq 9 ?_;(try go_frame);(try simp only [zA,zB,zC,zD,zE]);refine PUq 10 ?_;(try go_frame);(try simp only [zA,zB,zC,zD,zE]);refine PUq 11 ?_;(try go_frame);(try simp only [zA,zB,zC,zD,zE])
   refine oN 13 fun K hK=> ?_
   rw [if_pos (show Region.wanted _ _=true from rfl)]
   have hq5:=am_ HBB.out
   obtain⟨q0,q1,q2,q3,q4,hfz⟩:=hq5
   obtain⟨hs,hE10⟩:=set5 HBB.out (.int .i64 (P0).1) (.int .i64 (P0).2.1) (.int .i64 (P0).2.2.1) (.string ⟨(P0).2.2.2.toArray⟩) (.pointer none)
   have htg:=d_ HBB.out
   have hT9:=H9.out.2.2.1
   have hne: ∀k∈ [bx],∀T∈(38::34::91::aM_),q_ W9 k≠some T:=by simp only [List.mem_singleton,forall_eq,htg];decide
   have HBB10:=hi_ hs
   have H10:=hi_ (⟨H9.out.1.otherT hE10 (fun k hk T hT=> hne k hk T (by revert T;decide)),H9.out.2.1.ext hE10 (fun k hk T hT=> hne k hk T (by revert T;decide)),hT9.res HRT.out HBB.out (z:=(P0,none)) hs hE10,hE10.blk H9.out.2.2.2.1 (by simp;intro e;rw [<-e] at htg;rw [d_ H9.out.2.2.2.1] at htg;cases htg),H9.out.2.2.2.2.new hE10 HBG.out⟩:SyR _ y v8/\PutC _ pb ms/\TreeR _ y tb yv (.slice pg G cg) s/\_/\SyF y w _)
   clear hT9 hne hs hE10 htg H9 HBB
   go_simp
   refine nk hK ?_
   clear hK hfz q0 q1 q2 q3 q4
   refine PUq 14 ?_;(try go_frame);(try simp only [zA,zB,zC,zD,zE])
   refine c_ (by kernel_rfl) ?_ _
   revert H10 HBB10
   generalize World.setCell _ _ _=W10
   intro HBB10 H10
   obtain⟨gvp,g1,g2,g3⟩:=H10.out.2.1
   obtain⟨pm,cm,rfl,hcm⟩:=g2.rd.len_eq
   obtain⟨LN,hK9⟩: ∃z,z=ms.length:=⟨_,rfl⟩
   rw [<-hK9] at g1 g2 g3 hcm
   have hLN:LN<=500000:=by
    have h1:=fg_ rfl HPR.out.new HPR.out.dk
    have h2:=HPR.out.cnt
    have h3:=HWB.out.ps
    have h4:=aG_ H10.out.1.spi.okF
    simp only [List.length_nil] at h3
    omega
   have gc:W10.cell? ⟨pb,0,none⟩=some (.slice pm LN cm):=by rw [cell_of_row _ pb 0 _ _ _ g1];rfl
   have HK9:=hi_ hK9
   have HI0:Hid (GivI y v v8 L ms 0 v8 L8):=hi_ (GivI.start HPR.out)
   have HM0:Hid (SyR W10 y v8/\EP.Ow 34 W10 (.slice pm LN cm) ms/\TreeR W10 y tb yv (.slice pg G cg) s/\W10.heap[rb]? =some (.cells #[.int .i64 0,.int .i64 0,.int .i64 0,.string ⟨#[]⟩] 34 (0,0))/\SyF y w W10):=hi_ ⟨H10.out.1,g2,H10.out.2.2.1,H10.out.2.2.2.1,H10.out.2.2.2.2⟩
   clear hK9 g1 g2 g3
   go_wp2_with fail
   clear gc
   go_loopw [30] (fun iv wr=> ∃(i:Nat) (vi:Sv) (Li:List Blk),iv= .int .i64 i/\i<=LN/\Hid (GivI y v v8 L ms i vi Li)/\Hid (SyR wr y vi/\EP.Ow 34 wr (.slice pm LN cm) ms/\TreeR wr y tb yv (.slice pg G cg) s/\wr.heap[rb]? =some (.cells #[.int .i64 0,.int .i64 0,.int .i64 0,.string ⟨#[]⟩] 34 (0,0))/\SyF y w wr)) (fun iv _=> LN - (intOf iv).toNat)
   case atStart=> exact⟨0,v8,L8,rfl,Nat.zero_le _,HI0,HM0⟩
   case round=>
    clear HI0 HM0 H10 HBB10
    obtain⟨i,vi,Li,rfl,hi,HI,HM⟩:=hrel
    by_cases hlt:i < LN
    ·have z1:(i:Int) < (LN:Int):=by omega
     have him:i < ms.length:=by rw [<-HK9.out];exact hlt
     obtain⟨q,hq⟩: ∃q,ms[i]? =some q:=⟨_,List.getElem?_eq_getElem him⟩
     have hqd:ms.getD i P0=q:=by simp [List.getD,hq]
     obtain⟨g5,o5,rfl⟩: ∃g o,pm=some ⟨g,o,none⟩:=by
      rcases HM.out.2.1 with ⟨h,_⟩ | ⟨g,o,c,_,h,_⟩
      ·simp only [Value.slice.injEq] at h;omega
      ·simp only [Value.slice.injEq] at h;exact⟨g,_,h.1⟩
     obtain⟨m0,m1,m2,m3⟩:=fs_ HM.out.2.1.rd i him
     rw [hqd] at m0 m1 m2 m3
     obtain⟨bs,hbs1,hbs2⟩:=HI.out.rest q (by
      obtain⟨h1,h2⟩:=List.getElem?_eq_some_iff.1 hq
      rw [List.drop_eq_getElem_cons h1,h2];simp)
     have hstd:=HI.out.dk.dsk.std _ hbs1
     have hq1:1<=q.2.1:=by rw [hbs2.1];exact hstd.1
     have hq2:q.2.1<=1024:=by rw [hbs2.1];exact hstd.2.1
     have hq3:q.1<=1000000:=by
      have h1:=hstd.2.2.1
      have h2:=HM.out.1.spi.c2
      have h3:=HM.out.1.cells
      simp only at h1
      omega
     have hbx:=heap_alloc_new wr (.cells #[.int .i64 q.1,.int .i64 q.2.1,.int .i64 q.2.2.1,.string ⟨q.2.2.2.toArray⟩] 34)
     have hEx:Ext [] wr (wr.alloc (.cells #[.int .i64 q.1,.int .i64 q.2.1,.int .i64 q.2.2.1,.string ⟨q.2.2.2.toArray⟩] 34)):=(Ext.refl [] wr).alloc _
     have HM1:Hid (SyR (wr.alloc (.cells #[.int .i64 q.1,.int .i64 q.2.1,.int .i64 q.2.2.1,.string ⟨q.2.2.2.toArray⟩] 34)) y vi/\EP.Ow 34 (wr.alloc (.cells #[.int .i64 q.1,.int .i64 q.2.1,.int .i64 q.2.2.1,.string ⟨q.2.2.2.toArray⟩] 34)) (.slice (some ⟨g5,o5,none⟩) LN cm) ms/\TreeR (wr.alloc (.cells #[.int .i64 q.1,.int .i64 q.2.1,.int .i64 q.2.2.1,.string ⟨q.2.2.2.toArray⟩] 34)) y tb yv (.slice pg G cg) s/\(wr.alloc (.cells #[.int .i64 q.1,.int .i64 q.2.1,.int .i64 q.2.2.1,.string ⟨q.2.2.2.toArray⟩] 34)).heap[rb]? =some (.cells #[.int .i64 0,.int .i64 0,.int .i64 0,.string ⟨#[]⟩] 34 (0,0))/\SyF y w (wr.alloc (.cells #[.int .i64 q.1,.int .i64 q.2.1,.int .i64 q.2.2.1,.string ⟨q.2.2.2.toArray⟩] 34))):=hi_ ⟨HM.out.1.ext0 hEx,HM.out.2.1.ext0 hEx,HM.out.2.2.1.ext0 hEx,hEx.blk HM.out.2.2.2.1 (by simp),HM.out.2.2.2.2.trans (SyF.of0 hEx)⟩
     obtain⟨HBX,HQ⟩:=h_2 hbx hq
     obtain⟨bx5,hbxe⟩: ∃b,b=wr.heap.size:=⟨_,rfl⟩
     clear hbs1 hbs2 hstd hbx hEx hqd him hq HM
     go_wp2_with fail
     rw [<-hbxe] at HBX
     try simp only [<-hbxe]
     clear hbxe
     revert HM1 HBX
     generalize World.alloc _ _=W4
     intro HM1 HBX
     obtain⟨x0,x1,x2,x3, -⟩:=E_ HBX.out
     obtain⟨t0, -⟩:=HM1.out.2.2.1.cells
     have hD:=(Ext.refl [] W4).drew
     have hgive:=eG_ y vi q.1 q.2.1 q.2.2.1 q.2.2.2 W4.drew (HM1.out.1.ext0 hD) hq1 hq2 hq3
     simp only [pagg] at hgive
     have HGV:=hi_ hgive
     clear hgive
     refine e_ (fun W=> W.cell? ⟨tb,0,none⟩=some (.pointer (some ⟨y.b,0,none⟩))/\W.cell? ⟨bx5,0,none⟩=some (.int .i64 q.1)/\W.cell? ⟨bx5,1,none⟩=some (.int .i64 q.2.1)/\W.cell? ⟨bx5,2,none⟩=some (.int .i64 q.2.2.1)/\W.cell? ⟨bx5,3,none⟩=some (.string ⟨q.2.2.2.toArray⟩)) (fun i=> i==3 || i==4) (by kernel_rfl) ⟨hD.cell t0 (by simp),hD.cell x0 (by simp),hD.cell x1 (by simp),hD.cell x2 (by simp),hD.cell x3 (by simp)⟩ (fun hS=> ?_)
     refine PUq 0 ?_;(try go_frame);refine PUq 1 ?_;(try go_frame);refine PUq 2 ?_;(try go_frame)
     refine ta 3 ?_;(try go_frame);refine ta 4 ?_;(try go_frame)
     refine oN 5 fun K hK=> ?_
     (try simp only [Act.put,zA,zB,zC,zF,zD,zE]);refine iw rfl ?_
     go_simp
     refine HGV.out.mono ?_
     rintro e W5 ⟨err,v2,rfl,hsy2,hF2,hws2,hrel2,hst2⟩
     have hsyD:=HM1.out.1.ext0 hD
     have hFD:SyF y W4 W5:=(SyF.of0 hD).trans hF2
     obtain⟨S5,hS5a,hS5b⟩:=hF2.tags hsyD
     have HI5:Hid (GivI y v v8 L ms (i+1) v2 (offL Li q.1)):=hi_ (GivI.step HPR.out HI.out HQ.out hsyD.spi hsyD.cells hrel2 hws2 hst2)
     have HM5:Hid (SyR W5 y v2/\EP.Ow 34 W5 (.slice (some ⟨g5,o5,none⟩) LN cm) ms/\TreeR W5 y tb yv (.slice pg G cg) s/\W5.heap[rb]? =some (.cells #[.int .i64 0,.int .i64 0,.int .i64 0,.string ⟨#[]⟩] 34 (0,0))/\SyF y w W5):=hi_ ⟨hsy2,(HM1.out.2.1.ext0 hD).ext hS5a (fun g hg hm=> hS5b g hm _ (by decide) ((HM1.out.2.1.ext0 hD).tagOf g hg)),(HM1.out.2.2.1.ext0 hD).syf hsyD hF2,hF2.blk hsyD (hD.blk HM1.out.2.2.2.1 (by simp)) (by decide),HM1.out.2.2.2.2.trans hFD⟩
     refine nk hK ?_
     refine c_ (by kernel_rfl) ?_ _
     clear hK hS hsy2 hF2 hws2 hrel2 hst2 hsyD hFD hS5a hS5b HM1 HI HBX HGV hD x0 x1 x2 x3 t0 m0 m1 m2 m3
     go_wp2_with fail
     go_roundw
     case rel=> exact⟨i+1,v2,offL Li q.1,by go_num,by omega,HI5,HM5⟩
     case measure=> simp [intOf];omega
    ·have z1: ¬((i:Int) < (LN:Int)):=by omega
     have hrb9:=HM.out.2.2.2.1
     obtain⟨p0,p1,p2,p3,hfr⟩:=E_ hrb9
     go_wp2_with fail
     obtain⟨hs,hE9⟩:=set4 hrb9 (.int .i64 0) (.int .i64 0) (.int .i64 0) (.string ⟨#[]⟩)
     obtain⟨r0,r1,r2,r3,_⟩:=E_ hs
     refine bodyPost_ret (v:= .tuple #[.agg #[.int .i64 0,.int .i64 0,.int .i64 0,.string ⟨#[]⟩],.slice none 0 0,.int .i64 5]) (by simp [results,Tryz.results15,go_sem,r0,r1,r2,r3]) rfl ?_
     have htg:=d_ hrb9
     refine⟨vi,Li,.inr ⟨rfl,HI.out.done HPR.out (by rw [<-HK9.out];omega),HNO.out,HM.out.1.otherT hE9 (by simp only [List.mem_singleton,forall_eq,htg];decide), ?_,DF.of (HM.out.2.2.2.2.new hE9 (by rw [HRBE.out];exact Nat.le_refl _))⟩⟩
     have hT:=HM.out.2.2.1
     refine⟨hE9.blk hT.blk (fun hm=> by simp at hm;subst hm;rw [d_ hT.blk] at htg;cases htg),hT.root.ext hE9 (by simp only [List.mem_singleton,forall_eq,htg];decide),hT.gone.ext hE9 (fun g hg hm=> ?_)⟩
     simp at hm
     have h1:=HGLT.out g hg
     rw [hm,HRBE.out] at h1
     omega
def sto0:Sto:=⟨1,[],0,0,0,0,0⟩
structure NewSy (y:Sy) (v:Sv):Prop where
 st:v.st=sto0
 free:v.spc.free= [(0,v.spc.cells)]
 used:v.spc.used= []
 leaving:v.spc.leaving= []
 back:v.spc.back=0
theorem Fresh.none {s:Spc} {C:Int} (h:Fresh s C [] 0) (hi:SpI s) (hC:1<=C) (hC2:C<=40000):s.free= [(0,C)]/\s.used= []:=by
 have hu:s.used= []:=Ok.ext hi.okU ⟨List.Pairwise.nil,by simp⟩ (fun c=> by rw [h.used];rfl)
 refine⟨Ok.ext hi.okF ⟨by simp,by simp;omega⟩ (fun c=> ?_),hu⟩
 have h1:=hi.all c
 rw [h.cells,hu,h.leaving] at h1
 have h2: ¬Mem [] c:=by rintro⟨x,hx,_⟩;cases hx
 constructor
 ·intro h3
  have h4:=h1.2 (.inl h3)
  exact⟨(0,C),by simp,h4⟩
 ·rintro⟨x,hx,h4⟩
  simp at hx
  subst hx
  rcases h1.1 h4 with h5 | h5 | h5
  ·exact h5
  ·exact(h2 h5).elim
  ·exact(h2 h5).elim
theorem stnew_c (a r gg k S F:Nat) (ws:List (Nat×Nat×List UInt8)) (w:World) (hr:RackR w r gg (k+4) S ws) (ha:ArrR w a r (k+4) F) (hk1:1<=k) (hk:k<=8) (hS2:S<=2000) (hF:F < S):
  Calls Tryz.prog 27 #[.pointer (some ⟨a,0,none⟩),.slice none 0 0,.int .i64 1] w fun e w'=> ∃b sp v,e= .returned (.tuple #[.pointer (some ⟨b,0,none⟩),.int .i64 0])/\SyR w' ⟨b,a,r,gg,sp,k,S,F⟩ v/\v.ws=ws/\NewSy ⟨b,a,r,gg,sp,k,S,F⟩ v/\w.heap.size<=b/\w.heap.size<=sp/\Ext [] w w':=by
 obtain⟨HR,HA⟩:=h_2 hr ha
 have hm:(k+4)*(S - F)<=12*2000:=Nat.mul_le_mul (by omega) (by omega)
 have hm2:5*1<=(k+4)*(S - F):=Nat.mul_le_mul (by omega) (by omega)
 clear hr ha
 go_enter Tryz.func27,Tryz.ntmps27
 go_wp2_with fail
 refine(gs_ a r gg (k+4) S F ws _ HR.out HA.out (by omega) hS2 (by omega)).mono ?_
 rintro e W1 ⟨rfl,hE1⟩
 obtain⟨C,hC⟩: ∃C,C=(k+4)*(S - F):=⟨_,rfl⟩
 rw [<-hC] at hm hm2 ⊢
 have HC:=hi_ hC
 clear hC
 go_wp2_with fail
 refine(new_c (C:Int) (.slice none 0 0) [] _ (.inl ⟨rfl,rfl⟩) (by omega) (by omega) (by simp)).mono ?_
 rintro e W2 ⟨p,err,rfl,hE2,hrel⟩
 rcases hrel with ⟨h,_⟩ | ⟨_,_,h,_⟩ | ⟨_,_,_,h,_⟩ | ⟨_,_,_,_,rfl,b,s,rfl,hb,hsr,hsi,hfr⟩
 ·omega
 ·simp at h
 ·exact(h (fun i hi=> by simp at hi)).elim
 ·have HSR:=hi_ hsr
  obtain⟨HSI,HFR⟩:=h_2 hsi hfr
  have hE02:=hE1.trans hE2
  have lb:=hE1.size
  have lb2:=hE2.size
  clear hsr hsi hfr hE1 hE2
  go_wp2
  go_ret2
  have hbl:=heap_alloc_new W2 (.cells (fK_ a b (.slice none 0 0) sto0) 117)
  have hEa:=(Ext.refl [] W2).alloc (.cells (fK_ a b (.slice none 0 0) sto0) 117)
  have hf:=HFR.out.none HSI.out (by omega) (by omega)
  refine⟨W2.heap.size,b,⟨sto0,ws,s⟩,rfl,⟨⟨_,hbl,⟨[],.inl ⟨rfl,rfl⟩,by simp,rfl⟩,by simp [blkL]⟩,(HA.out.ext0 hE02).ext0 hEa,(HR.out.ext0 hE02).ext0 hEa,HSR.out.ext0 hEa,HSI.out,hk1,hk,hS2,Nat.le_of_lt hF, ?_,by simp [sto0]⟩,rfl,⟨rfl, ?_,hf.2,HFR.out.leaving,HFR.out.back⟩,by omega,by omega,hE02.trans hEa⟩
  ·show s.cells=_
   rw [HFR.out.cells,HC.out]
  ·show s.free=_
   rw [hf.1,HFR.out.cells]
theorem gi_ (S:Nat) (w:World) (hS1:2<=S) (hS:S<=2000):
  Calls Tryz.prog 12 #[.int .i64 S] w fun e w'=> ∃y v,e= .returned (.tuple #[.pointer (some ⟨y.r,0,none⟩),.pointer (some ⟨y.a,0,none⟩),.pointer (some ⟨y.b,0,none⟩),.bool true])/\SyR w' y v/\y.k=1/\y.S=S/\y.F=1/\v.ws= []/\NewSy y v/\(∀b∈ [y.b,y.r,y.sp],w.heap.size<=b)/\Ext [] w w':=by
 go_enter Tryz.func12,Tryz.ntmps12
 go_wp2_with fail
 refine(rknew_c (1+4) S _ (by omega) (by omega) (by omega) hS).mono ?_
 rintro e W1 ⟨r,gg,rfl,hr,lr, -,hE1⟩
 have HR1:=hi_ hr
 clear hr
 go_wp2_with fail
 refine(arnew_c r gg (1+4) S 1 [] _ HR1.out (by omega) (by omega)).mono ?_
 rintro e W3 ⟨a,rfl,ha, -,hE3⟩
 have HR3:=hi_ (HR1.out.ext0 hE3)
 have HA3:=hi_ ha
 have hE03:=hE1.trans hE3
 clear ha hE1 hE3 HR1
 go_wp2_with fail
 refine(stnew_c a r gg 1 S 1 [] _ HR3.out HA3.out (by omega) (by omega) hS (by omega)).mono ?_
 rintro e W5 ⟨b,sp,v,rfl,hsy,hws,hnew,lb,lsp,hE5⟩
 have l03:=hE03.size
 have HSY:=hi_ hsy
 have hE05:=hE03.trans hE5
 obtain⟨HWS,HNEW⟩:=h_2 hws hnew
 clear hsy hE03 hE5 hws hnew HR3 HA3
 go_wp2_with fail
 refine bodyPost_ret (v:= .tuple #[.pointer (some ⟨r,0,none⟩),.pointer (some ⟨a,0,none⟩),.pointer (some ⟨b,0,none⟩),.bool true]) (by simp [results,Tryz.results12,go_sem]) rfl ?_
 exact⟨⟨b,a,r,gg,sp,1,S,1⟩,v,rfl,HSY.out,rfl,rfl,rfl,HWS.out,HNEW.out,fun z hz=> by
   simp at hz
   rcases hz with rfl | rfl | rfl <;> omega,hE05⟩
def MapR (w:World) (mb:Nat) (l:List Pr):Prop:= ∃lv,w.heap[mb]? =some (.cells #[lv] 48 (0,0))/\EPr.Ow 36 w lv l
theorem MapR.ext (h:MapR w mb l) (he:Ext S w w') (hS: ∀k∈S,∀T∈([48,36]:List TypeId),q_ w k≠some T):MapR w' mb l:=by
 obtain⟨lv,h1,h2⟩:=h
 exact⟨lv,he.blk h1 (fun hm=> hS mb hm _ (by simp) (d_ h1)),h2.ext he (fun g hg hm=> hS g hm _ (by simp) (h2.tagOf g hg))⟩
theorem MapR.ext0 (h:MapR w mb l) (he:Ext [] w w'):MapR w' mb l:=h.ext he (by simp)
theorem MapR.cell (h:MapR w mb l): ∃p c,w.cell? ⟨mb,0,none⟩=some (.slice p l.length c)/\l.length<=c/\EPr.Ow 36 w (.slice p l.length c) l/\w.heap[mb]? =some (.cells #[.slice p l.length c] 48 (0,0)):=by
 obtain⟨lv,h1,h2⟩:=h
 obtain⟨p,c,rfl,hc⟩:=h2.rd.len_eq
 exact⟨p,c,by rw [cell_of_row _ mb 0 _ _ _ h1];rfl,hc,h2,h1⟩
theorem at_stop (hs:SrtK l) (hi:i<=l.length) (h1: ∀j,j < i->(l.getD j ([],[])).1 < key) (h2:i < l.length-> ¬(l.getD i ([],[])).1 < key):atF l key=i:=by
 refine atF_of hi h1 (fun j hj hl=> ?_)
 by_cases e:i=j
 ·subst e;exact h2 hl
 ·intro hlt
  exact h2 (by omega) (P_ (hs.at (by omega) hl) hlt)
theorem eV_ (mb:Nat) (l:List Pr) (key:Ky) (w:World) (h:MapR w mb l) (hs:SrtK l) (hl:l.length<=100000):
  Calls Tryz.prog 53 #[.pointer (some ⟨mb,0,none⟩),.string ⟨key.toArray⟩] w fun e w'=> e= .returned (.tuple #[.int .i64 (atF l key),.bool (B_ l key)])/\Ext [] w w':=by
 obtain⟨p,c,c0,hc,how, -⟩:=h.cell
 obtain⟨N,hN⟩: ∃N,N=l.length:=⟨_,rfl⟩
 rw [<-hN] at c0 hc how hl
 obtain⟨HN,HOW,HS⟩:=h_3 hN how hs
 obtain⟨A,hA⟩: ∃A,A=atF l key:=⟨_,rfl⟩
 obtain⟨B,hB⟩: ∃B,B=B_ l key:=⟨_,rfl⟩
 rw [<-hA,<-hB]
 obtain⟨HA,HB⟩:=h_2 hA hB
 have HC0:Hid (∀W,Ext [] w W->W.cell? ⟨mb,0,none⟩=some (.slice p N c)):=hi_ (fun W hE=> hE.cell c0 (by simp))
 clear hN how hs h hA hB c0
 go_enter Tryz.func53,Tryz.ntmps53
 go_wp2_with fail
 go_loopw [6] (fun iv wr=> ∃i:Nat,iv= .int .i64 i/\i<=N/\Hid (∀j,j < i->(l.getD j ([],[])).1 < key)/\Hid (Ext [] w wr)) (fun iv _=> N - (intOf iv).toNat)
 case atStart=> exact⟨0,rfl,Nat.zero_le _,hi_ (fun j hj=> by omega),hi_ (Ext.refl _ _)⟩
 case round=>
  obtain⟨i,rfl,hi,HJ,HE⟩:=hrel
  have c0:=HC0.out _ HE.out
  by_cases hlt:i < N
  ·have z1:(i:Int) < (N:Int):=by omega
   obtain⟨g,o,rfl⟩: ∃g o,p=some ⟨g,o,none⟩:=by
    rcases HOW.out with ⟨h,_⟩ | ⟨g,o,c,_,h,_⟩
    ·simp only [Value.slice.injEq] at h;omega
    ·simp only [Value.slice.injEq] at h;exact⟨g,_,h.1⟩
   have hil:i < l.length:=by rw [<-HN.out];exact hlt
   obtain⟨m1, -⟩:=aj_ (HOW.out.rd.ext0 HE.out) i hil
   obtain⟨x,hx⟩: ∃x,x=l.getD i ([],[]):=⟨_,rfl⟩
   rw [<-hx] at m1
   have zi:((i:Int)).toNat=i:=by omega
   by_cases hk:x.1 < key
   ·have hbl:Op.bytesLess x.1 key=true:=by rw [Z_];simpa using hk
    have HJ2:Hid (∀j,j < i+1->(l.getD j ([],[])).1 < key):=hi_ (fun j hj=> by
     by_cases e:j=i
     ·subst e;rw [<-hx];exact hk
     ·exact HJ.out j (by omega))
    clear hk hx hil
    go_wp2_with fail
    go_roundw
    case rel=> exact⟨i+1,by go_num,by omega,HJ2,HE⟩
    case measure=> simp [intOf];omega
   ·have hbl:Op.bytesLess x.1 key=false:=by rw [Z_];simpa using hk
    have hai:A=i:=by
     rw [HA.out]
     exact at_stop HS.out (by rw [<-HN.out];exact hi) HJ.out (fun _=> by rw [<-hx];exact hk)
    have hth:B=(x.1==key):=by
     have h1:l[i]? =some x:=by rw [hx];simp [List.getD,hil]
     rw [HB.out,B_,<-HA.out,hai,h1]
     simp only [Option.map_some,Option.some.injEq]
     by_cases e:x.1=key <;> simp [e]
    obtain⟨HAI,HTH⟩:=h_2 hai hth
    have hd:decide ((i:Int) < (N:Int))=true:=by simpa using z1
    clear hk hx hil hai hth HJ
    go_wp2_with fail
    go_big_quiet (fail)
    go_wp2_with fail
    go_ret2
    exact⟨by simp only [HAI.out,HTH.out];rfl,HE.out.drewN nq⟩
  ·have z1: ¬((i:Int) < (N:Int)):=by omega
   have hiN:i=N:=by omega
   have hai:A=i:=by
    rw [HA.out]
    exact at_stop HS.out (by rw [<-HN.out];exact hi) HJ.out (fun h=> by rw [<-HN.out] at h;omega)
   have hth:B=false:=by
    rw [HB.out,B_,<-HA.out,hai,List.getElem?_eq_none (by rw [<-HN.out];omega)]
    rfl
   obtain⟨HAI,HTH⟩:=h_2 hai hth
   have hd:decide ((i:Int) < (N:Int))=false:=by simpa using z1
   clear hai hth HJ hiN
   go_wp2_with fail
   go_big_quiet (fail)
   go_wp2_with fail
   go_ret2
   exact⟨by simp only [HAI.out,HTH.out];rfl,HE.out.drewN nq⟩
theorem fN_ (va vb:Value) (la lb:List Pr) (w:World) (ha:EPr.Rd w va la) (hb:EPr.Rd w vb lb) (hl:la.length<=1000000) (hl2:lb.length<=1000000):
  Calls Tryz.prog 17 #[va,vb] w fun e w'=> e= .returned (.bool (decide (la=lb)))/\Ext [] w w':=by
 obtain⟨p,c,rfl,hc⟩:=ha.len_eq
 obtain⟨p2,c2,rfl,hc2⟩:=hb.len_eq
 obtain⟨N,hN⟩: ∃N,N=la.length:=⟨_,rfl⟩
 obtain⟨N2,hN2⟩: ∃N,N=lb.length:=⟨_,rfl⟩
 rw [<-hN] at ha hl hc ⊢
 rw [<-hN2] at hb hl2 hc2 ⊢
 obtain⟨HN,HN2,HA,HB⟩:=h_4 hN hN2 ha hb
 obtain⟨D,hD⟩: ∃D,D=decide (la=lb):=⟨_,rfl⟩
 rw [<-hD]
 have HD:=hi_ hD
 clear ha hb hN hN2 hD
 by_cases hne:N=N2
 ·subst hne
  go_enter Tryz.func17,Tryz.ntmps17
  go_wp2_with fail
  go_loopw [5] (fun iv wr=> ∃i:Nat,iv= .int .i64 i/\i<=N/\Hid (la.take i=lb.take i)/\Hid (Ext [] w wr)) (fun iv _=> N - (intOf iv).toNat)
  case atStart=> exact⟨0,rfl,Nat.zero_le _,hi_ (by simp),hi_ (Ext.refl _ _)⟩
  case round=>
   obtain⟨i,rfl,hi,HT,HE⟩:=hrel
   by_cases hlt:i < N
   ·have z1:(i:Int) < (N:Int):=by omega
    obtain⟨g,o,rfl⟩: ∃g o,p=some ⟨g,o,none⟩:=by
     rcases HA.out with ⟨h,h0⟩ | ⟨g,o,c,h,_⟩
     ·have:=HN.out;rw [h0] at this;simp at this;omega
     ·simp only [Value.slice.injEq] at h;exact⟨g,_,h.1⟩
    obtain⟨g2,o2,rfl⟩: ∃g o,p2=some ⟨g,o,none⟩:=by
     rcases HB.out with ⟨h,h0⟩ | ⟨g,o,c,h,_⟩
     ·have:=HN2.out;rw [h0] at this;simp at this;omega
     ·simp only [Value.slice.injEq] at h;exact⟨g,_,h.1⟩
    have hil:i < la.length:=by rw [<-HN.out];exact hlt
    have hil2:i < lb.length:=by rw [<-HN2.out];exact hlt
    obtain⟨m1,m2⟩:=aj_ (HA.out.ext0 HE.out) i hil
    obtain⟨k1,k2⟩:=aj_ (HB.out.ext0 HE.out) i hil2
    obtain⟨x,hx⟩: ∃x,x=la.getD i ([],[]):=⟨_,rfl⟩
    obtain⟨y,hy⟩: ∃y,y=lb.getD i ([],[]):=⟨_,rfl⟩
    rw [<-hx] at m1 m2
    rw [<-hy] at k1 k2
    have hx':la[i]? =some x:=by rw [hx];simp [List.getD,hil]
    have hy':lb[i]? =some y:=by rw [hy];simp [List.getD,hil2]
    obtain⟨HX,HY⟩:=h_2 hx' hy'
    clear hx hy hil hil2 hx' hy'
    by_cases he:x=y
    ·subst he
     have HT2:Hid (la.take (i+1)=lb.take (i+1)):=hi_ (by rw [List.take_add_one,List.take_add_one,HT.out,HX.out,HY.out])
     go_wp2_with fail
     go_big_quiet (fail)
     go_wp2_with fail
     go_roundw
     case rel=> exact⟨i+1,by go_num,by omega,HT2,hi_ (HE.out.drewN nq)⟩
     case measure=> simp [intOf];omega
    ·have hdf:D=false:=by
      rw [HD.out,decide_eq_false_iff_not]
      intro e
      have h1:=HX.out
      rw [e,HY.out] at h1
      exact he (Option.some.inj h1).symm
     have HDF:=hi_ hdf
     clear hdf
     by_cases e1:x.1=y.1
     ·have e2:(x.2==y.2)=false:=by
       have h2: ¬x.2=y.2:=fun h2=> he (Prod.ext e1 h2)
       simpa using h2
      rw [<-e1] at k1
      clear he e1
      go_wp2_with fail
      go_big_quiet (fail)
      go_wp2_with fail
      go_ret
      exact⟨by rw [HDF.out];rfl,HE.out.drewN nq⟩
     ·have e2:(x.1==y.1)=false:=by simpa using e1
      clear he e1
      go_wp2_with fail
      go_big_quiet (fail)
      go_wp2_with fail
      go_ret
      exact⟨by rw [HDF.out];rfl,HE.out.drewN nq⟩
   ·have z1: ¬((i:Int) < (N:Int)):=by omega
    have hd:D=true:=by
     have h1:=HT.out
     rw [List.take_of_length_le (by rw [<-HN.out];omega),List.take_of_length_le (by rw [<-HN2.out];omega)] at h1
     rw [HD.out]
     simpa using h1
    have HDD:=hi_ hd
    clear hd
    go_wp2_with fail
    go_ret
    exact⟨by rw [HDD.out];rfl,HE.out⟩
 ·have hd:D=false:=by
   rw [HD.out,decide_eq_false_iff_not]
   intro e
   exact hne (by rw [HN.out,HN2.out,e])
  have HDD:=hi_ hd
  have z1:((N:Int) !=(N2:Int))=true:=bne_iff_ne.2 (by omega)
  clear hd hne
  go_enter Tryz.func17,Tryz.ntmps17
  go_wp2_with fail
  go_ret
  exact⟨by rw [HDD.out];rfl,Ext.refl _ _⟩
theorem aE_ (W:World) (h:n=W.heap.size):EPr.Ow 36 (W.alloc (.cells #[] 36)) (.slice (some ⟨n,0,none⟩) 0 0) []:=by
 subst h
 exact .inr ⟨W.heap.size,0,0,[],rfl,heap_alloc_new W _,by simp,by simp,by simp⟩
theorem rd_cut {p:Option Addr} {N c i:Nat} (h:EPr.Rd w (.slice p N c) l) (hi:i<=l.length):EPr.Rd w (.slice p i c) (l.take i):=by
 cases p with
 | none=>
  rcases h with ⟨h,h0⟩ | ⟨g,o,c',h,_⟩
  ·subst h0
   simp only [Value.slice.injEq,true_and] at h
   have h9:i=0:=by simpa using hi
   subst h9
   exact .inl ⟨by rw [h.2],by simp⟩
  ·simp at h
 | some a=> exact h.takeS hi
theorem gM_ {p:Option Addr} {N c:Nat} (h:EPr.Rd w (.slice p N c) l):EPr.Rd w (.slice p 0 0) []:=by
 rcases h with ⟨h,h0⟩ | ⟨g,o,c',h,_,h2,_⟩
 ·simp only [Value.slice.injEq] at h
  rw [h.1]
  exact .inl ⟨rfl,rfl⟩
 ·simp only [Value.slice.injEq] at h
  rw [h.1]
  exact .inr ⟨g,o,0,rfl,Nat.le_refl _,h2,fun j u hj=> by simp [Enc.flat] at hj⟩
theorem mput_c (mb:Nat) (l:List Pr) (key val:Ky) (w:World) (h:MapR w mb l) (hs:SrtK l) (hl:l.length<=100000) (hb: ¬dN_ key val):
  Calls Tryz.prog 24 #[.pointer (some ⟨mb,0,none⟩),.string ⟨key.toArray⟩,.string ⟨val.toArray⟩] w fun e w'=> e= .returned (.int .i64 0)/\MapR w' mb (l.take (atF l key)++ [(key,val)]++l.drop (atF l key+(if B_ l key then 1 else 0)))/\Ext [mb] w w':=by
 have z1:(key== [])=false:=by
  have h1: ¬key= []:=fun e=> hb (.inl e)
  simpa using h1
 have z2: ¬24 < key.length:=fun e=> hb (.inr (.inl e))
 have z3: ¬300 < val.length:=fun e=> hb (.inr (.inr e))
 have hpl:=eV_ mb l key w h hs hl
 obtain⟨i,hi⟩: ∃i,i=atF l key:=⟨_,rfl⟩
 obtain⟨th,hth⟩: ∃b,b=B_ l key:=⟨_,rfl⟩
 have hil:i<=l.length:=by rw [hi];exact dK_ l key
 have hit:th=true->i < l.length:=fun h=> by rw [hi];exact bb_ (by rw [<-hth];exact h)
 rw [<-hi,<-hth] at hpl ⊢
 obtain⟨d,hd⟩: ∃d:Nat,d=if th=true then 1 else 0:=⟨_,rfl⟩
 rw [<-hd]
 obtain⟨rest,hrest⟩: ∃r,r=l.drop (i+d):=⟨_,rfl⟩
 rw [<-hrest]
 obtain⟨HD,HRE,HPL,HM⟩:=h_4 hd hrest hpl h
 obtain⟨N,hN⟩: ∃N,N=l.length:=⟨_,rfl⟩
 have HN:=hi_ hN
 have HRL:Hid (rest.length<=N):=hi_ (by rw [hrest,List.length_drop,hN];omega)
 clear hpl h hs hb hi hth hd hrest
 go_enter Tryz.func24,Tryz.ntmps24
 go_wp2_with fail
 refine HPL.out.mono ?_
 rintro e W1 ⟨rfl,hE1⟩
 obtain⟨p,c,c0,hc,how,hblk⟩:=(HM.out.ext0 hE1).cell
 have HTK:=hi_ (rd_cut how.rd hil)
 have HTL:Hid ((l.take i).length=i):=hi_ (by rw [List.length_take];omega)
 rw [<-hN] at c0 hc hil hit hl how hblk
 obtain⟨HOW,HBK,HE1⟩:=h_3 how hblk hE1
 clear how hblk hE1 hN HPL
 have HSEP:Hid (∀g∈blkL (.slice p N c),∀x,W1.heap.size<=x->g≠x):=hi_ (fun g hg x hx e=> by have:=HOW.out.lt g hg;omega)
 cases th with
 | true=>
  have hit:=hit rfl
  have HDD:Hid (d=1):=hi_ HD.out
  obtain⟨g,o,rfl⟩: ∃g o,p=some ⟨g,o,none⟩:=by
   rcases HOW.out with ⟨h,_⟩ | ⟨g,o,c,_,h,_⟩
   ·simp only [Value.slice.injEq] at h;omega
   ·simp only [Value.slice.injEq] at h;exact⟨g,_,h.1⟩
  by_cases hci:c=i+1
  ·subst hci
   have hnil:rest= []:=by rw [HRE.out,HDD.out];exact List.drop_eq_nil_of_le (by rw [<-HN.out];omega)
   have HRR:Hid (EPr.Rd W1 (.slice (some ⟨g,o,none⟩) 0 0) rest):=hi_ (by rw [hnil];exact gM_ HOW.out.rd)
   clear hnil
   -- the rest is known; three appends and the store
   have hEa:=(Ext.refl [] W1).alloc (.cells #[] 36)
   have ca:=hEa.cell c0 (by simp)
   go_wp2_with (with_reducible refine f_ (d:=50) ?_)
   refine m_ rfl fun K hK=> b_ (s:= .tmp 43) (x:= .tmp 49) (E:=EPr) (T:=36) (zero:=([],[])) (bytes:=32) (v:= .slice (some ⟨W1.heap.size,0,none⟩) 0 0) (u:=(.slice (some ⟨g,o,none⟩) i (i+1))) (xs:= []) (ys:=l.take i) tiPr Tryz.underlying22 Tryz.underlying22 rfl rfl rfl (aE_ W1 rfl) (HTK.out.ext0 hEa) (by rw [HTL.out];simp;omega) (by rw [HTL.out];simp;omega) ?_
   intro v2 W2 how2 hext2 hnear2 _
   obtain⟨hE2,hf2⟩:=p_ hEa (by simp [blkL]) hext2 hnear2
   simp only [List.nil_append] at how2
   obtain⟨p2,c2,rfl,_⟩:=how2.rd.len_eq
   rw [HTL.out] at how2 hf2 ⊢
   obtain⟨HO2,HE2,HF2⟩:=h_3 how2 hE2 hf2
   have HR2:=hi_ ((HRR.out).ext0 hE2)
   have cm:=hE2.cell c0 (by simp)
   refine hK _ _ ?_
   clear hK how2 hext2 hnear2 hE2 hf2 hEa ca
   go_wp2_with (with_reducible refine f_ (d:=55) ?_)
   have hEb:=(Ext.refl [] W2).alloc (.cells #[.string ⟨key.toArray⟩,.string ⟨val.toArray⟩] 36)
   refine m_ rfl fun K hK=> b_ (s:= .tmp 50) (x:= .tmp 54) (E:=EPr) (T:=36) (zero:=([],[])) (bytes:=32) (v:= .slice p2 i c2) (u:= .slice (some ⟨W2.heap.size,0,none⟩) 1 1) (xs:=l.take i) (ys:= [(key,val)]) tiPr Tryz.underlying22 Tryz.underlying22 rfl rfl rfl (HO2.out.ext0 hEb) (bh_ W2 (key,val)).rd (by rw [HTL.out];simp;omega) (by rw [HTL.out];simp;omega) ?_
   intro v3 W3 how3 hext3 hnear3 _
   obtain⟨hE3,hf3⟩:=p_ (HE2.out.trans hEb) HF2.out hext3 hnear3
   have hr3:=(HR2.out.ext0 hEb).ext hext3 (fun g hg hm=> HSEP.out g hg _ (HF2.out g hm) rfl)
   have cm3:=hE3.cell c0 (by simp)
   obtain⟨p3,c3,rfl,_⟩:=how3.rd.len_eq
   have hl3:(l.take i++ [(key,val)]).length=i+1:=by rw [List.length_append,HTL.out];rfl
   rw [hl3] at how3 hf3 ⊢
   obtain⟨HO3,HE3,HF3,HR3,HL3⟩:=h_5 how3 hE3 hf3 hr3 hl3
   refine hK _ _ ?_
   clear hK how3 hext3 hnear3 hE3 hf3 hEb hr3 hl3 cm
   go_wp2_with (with_reducible refine f_ (d:=57) ?_)
   refine m_ rfl fun K hK=> b_ (s:= .tmp 55) (x:= .tmp 56) (E:=EPr) (T:=36) (zero:=([],[])) (bytes:=32) (v:= .slice p3 (i+1) c3) (u:=(.slice (some ⟨g,o,none⟩) 0 0)) (xs:=l.take i++ [(key,val)]) (ys:=rest) tiPr Tryz.underlying22 Tryz.underlying22 rfl rfl rfl HO3.out HR3.out (by rw [HL3.out];have:=HRL.out;omega) (by rw [HL3.out];have:=HRL.out;omega) ?_
   intro v4 W4 how4 hext4 hnear4 _
   obtain⟨p4,c4,rfl,_⟩:=how4.rd.len_eq
   obtain⟨M4,hM4⟩: ∃M,M=(l.take i++ [(key,val)]++rest).length:=⟨_,rfl⟩
   rw [<-hM4] at how4 ⊢
   clear hM4
   obtain⟨hE4, -⟩:=p_ HE3.out HF3.out hext4 hnear4
   have hb4:=hE4.blk HBK.out (by simp)
   have cm4:=hE4.cell c0 (by simp)
   have hfz: ∀j,W4.frozen? ⟨mb,j,none⟩=false:=fun j=> frozen_of_row _ _ _ _ _ hb4
   have hb5:=heap_setCell_same W4 mb 0 _ _ (.slice p4 M4 c4) hb4
   have hE5:Ext [mb] W4 (W4.setCell ⟨mb,0,none⟩ (.slice p4 M4 c4)):=(Ext.refl [mb] W4).setCell (.inl (by simp)) _
   have HX:=hi_ (⟨⟨_,hb5,how4.ext hE5 (by simpa using how4.ne hb4 (by decide))⟩,((HE1.out.nil (S:= [mb])).trans (hE4.nil)).trans hE5⟩:MapR (W4.setCell ⟨mb,0,none⟩ (.slice p4 M4 c4)) mb (l.take i++ [(key,val)]++rest)/\Ext [mb] w (W4.setCell ⟨mb,0,none⟩ (.slice p4 M4 c4)))
   refine hK _ _ ?_
   clear hK how4 hext4 hnear4 hE4 hb4 hb5 hE5 cm3 c0 HO3 HE3 HF3 HR3 HO2 HE2 HF2 HR2
   go_wp2
   go_ret
   exact⟨rfl,HX.out⟩
  ·have HRR:Hid (EPr.Rd W1 (.slice (some ⟨g,o+(i+1)*2,none⟩) (N - (i+1)) (c - (i+1))) rest):=hi_ (by rw [HRE.out,HDD.out];exact HOW.out.rd.dropS)
   -- the rest is known; three appends and the store
   have hEa:=(Ext.refl [] W1).alloc (.cells #[] 36)
   have ca:=hEa.cell c0 (by simp)
   go_wp2_with (with_reducible refine f_ (d:=50) ?_)
   refine m_ rfl fun K hK=> b_ (s:= .tmp 43) (x:= .tmp 49) (E:=EPr) (T:=36) (zero:=([],[])) (bytes:=32) (v:= .slice (some ⟨W1.heap.size,0,none⟩) 0 0) (u:=(.slice (some ⟨g,o,none⟩) i c)) (xs:= []) (ys:=l.take i) tiPr Tryz.underlying22 Tryz.underlying22 rfl rfl rfl (aE_ W1 rfl) (HTK.out.ext0 hEa) (by rw [HTL.out];simp;omega) (by rw [HTL.out];simp;omega) ?_
   intro v2 W2 how2 hext2 hnear2 _
   obtain⟨hE2,hf2⟩:=p_ hEa (by simp [blkL]) hext2 hnear2
   simp only [List.nil_append] at how2
   obtain⟨p2,c2,rfl,_⟩:=how2.rd.len_eq
   rw [HTL.out] at how2 hf2 ⊢
   obtain⟨HO2,HE2,HF2⟩:=h_3 how2 hE2 hf2
   have HR2:=hi_ ((HRR.out).ext0 hE2)
   have cm:=hE2.cell c0 (by simp)
   refine hK _ _ ?_
   clear hK how2 hext2 hnear2 hE2 hf2 hEa ca
   go_wp2_with (with_reducible refine f_ (d:=55) ?_)
   have hEb:=(Ext.refl [] W2).alloc (.cells #[.string ⟨key.toArray⟩,.string ⟨val.toArray⟩] 36)
   refine m_ rfl fun K hK=> b_ (s:= .tmp 50) (x:= .tmp 54) (E:=EPr) (T:=36) (zero:=([],[])) (bytes:=32) (v:= .slice p2 i c2) (u:= .slice (some ⟨W2.heap.size,0,none⟩) 1 1) (xs:=l.take i) (ys:= [(key,val)]) tiPr Tryz.underlying22 Tryz.underlying22 rfl rfl rfl (HO2.out.ext0 hEb) (bh_ W2 (key,val)).rd (by rw [HTL.out];simp;omega) (by rw [HTL.out];simp;omega) ?_
   intro v3 W3 how3 hext3 hnear3 _
   obtain⟨hE3,hf3⟩:=p_ (HE2.out.trans hEb) HF2.out hext3 hnear3
   have hr3:=(HR2.out.ext0 hEb).ext hext3 (fun g hg hm=> HSEP.out g hg _ (HF2.out g hm) rfl)
   have cm3:=hE3.cell c0 (by simp)
   obtain⟨p3,c3,rfl,_⟩:=how3.rd.len_eq
   have hl3:(l.take i++ [(key,val)]).length=i+1:=by rw [List.length_append,HTL.out];rfl
   rw [hl3] at how3 hf3 ⊢
   obtain⟨HO3,HE3,HF3,HR3,HL3⟩:=h_5 how3 hE3 hf3 hr3 hl3
   refine hK _ _ ?_
   clear hK how3 hext3 hnear3 hE3 hf3 hEb hr3 hl3 cm
   go_wp2_with (with_reducible refine f_ (d:=57) ?_)
   refine m_ rfl fun K hK=> b_ (s:= .tmp 55) (x:= .tmp 56) (E:=EPr) (T:=36) (zero:=([],[])) (bytes:=32) (v:= .slice p3 (i+1) c3) (u:=(.slice (some ⟨g,o+(i+1)*2,none⟩) (N - (i+1)) (c - (i+1)))) (xs:=l.take i++ [(key,val)]) (ys:=rest) tiPr Tryz.underlying22 Tryz.underlying22 rfl rfl rfl HO3.out HR3.out (by rw [HL3.out];have:=HRL.out;omega) (by rw [HL3.out];have:=HRL.out;omega) ?_
   intro v4 W4 how4 hext4 hnear4 _
   obtain⟨p4,c4,rfl,_⟩:=how4.rd.len_eq
   obtain⟨M4,hM4⟩: ∃M,M=(l.take i++ [(key,val)]++rest).length:=⟨_,rfl⟩
   rw [<-hM4] at how4 ⊢
   clear hM4
   obtain⟨hE4, -⟩:=p_ HE3.out HF3.out hext4 hnear4
   have hb4:=hE4.blk HBK.out (by simp)
   have cm4:=hE4.cell c0 (by simp)
   have hfz: ∀j,W4.frozen? ⟨mb,j,none⟩=false:=fun j=> frozen_of_row _ _ _ _ _ hb4
   have hb5:=heap_setCell_same W4 mb 0 _ _ (.slice p4 M4 c4) hb4
   have hE5:Ext [mb] W4 (W4.setCell ⟨mb,0,none⟩ (.slice p4 M4 c4)):=(Ext.refl [mb] W4).setCell (.inl (by simp)) _
   have HX:=hi_ (⟨⟨_,hb5,how4.ext hE5 (by simpa using how4.ne hb4 (by decide))⟩,((HE1.out.nil (S:= [mb])).trans (hE4.nil)).trans hE5⟩:MapR (W4.setCell ⟨mb,0,none⟩ (.slice p4 M4 c4)) mb (l.take i++ [(key,val)]++rest)/\Ext [mb] w (W4.setCell ⟨mb,0,none⟩ (.slice p4 M4 c4)))
   refine hK _ _ ?_
   clear hK how4 hext4 hnear4 hE4 hb4 hb5 hE5 cm3 c0 HO3 HE3 HF3 HR3 HO2 HE2 HF2 HR2
   go_wp2
   go_ret
   exact⟨rfl,HX.out⟩
 | false=>
  have HDD:Hid (d=0):=hi_ HD.out
  clear hit
  by_cases hci:i=c
  ·subst hci
   have hnil:rest= []:=by rw [HRE.out,HDD.out];exact List.drop_eq_nil_of_le (by rw [<-HN.out];omega)
   have HRR:Hid (EPr.Rd W1 (.slice p 0 0) rest):=hi_ (by rw [hnil];exact gM_ HOW.out.rd)
   clear hnil
   have HSEP:Hid (∀g∈blkL (.slice p 0 0),∀x,W1.heap.size<=x->g≠x):=hi_ (fun g hg=> HSEP.out g (by cases p <;> exact hg))
   -- the rest is known; three appends and the store
   have hEa:=(Ext.refl [] W1).alloc (.cells #[] 36)
   have ca:=hEa.cell c0 (by simp)
   go_wp2_with (with_reducible refine f_ (d:=50) ?_)
   refine m_ rfl fun K hK=> b_ (s:= .tmp 43) (x:= .tmp 49) (E:=EPr) (T:=36) (zero:=([],[])) (bytes:=32) (v:= .slice (some ⟨W1.heap.size,0,none⟩) 0 0) (u:=(.slice p i i)) (xs:= []) (ys:=l.take i) tiPr Tryz.underlying22 Tryz.underlying22 rfl rfl rfl (aE_ W1 rfl) (HTK.out.ext0 hEa) (by rw [HTL.out];simp;omega) (by rw [HTL.out];simp;omega) ?_
   intro v2 W2 how2 hext2 hnear2 _
   obtain⟨hE2,hf2⟩:=p_ hEa (by simp [blkL]) hext2 hnear2
   simp only [List.nil_append] at how2
   obtain⟨p2,c2,rfl,_⟩:=how2.rd.len_eq
   rw [HTL.out] at how2 hf2 ⊢
   obtain⟨HO2,HE2,HF2⟩:=h_3 how2 hE2 hf2
   have HR2:=hi_ ((HRR.out).ext0 hE2)
   have cm:=hE2.cell c0 (by simp)
   refine hK _ _ ?_
   clear hK how2 hext2 hnear2 hE2 hf2 hEa ca
   go_wp2_with (with_reducible refine f_ (d:=55) ?_)
   have hEb:=(Ext.refl [] W2).alloc (.cells #[.string ⟨key.toArray⟩,.string ⟨val.toArray⟩] 36)
   refine m_ rfl fun K hK=> b_ (s:= .tmp 50) (x:= .tmp 54) (E:=EPr) (T:=36) (zero:=([],[])) (bytes:=32) (v:= .slice p2 i c2) (u:= .slice (some ⟨W2.heap.size,0,none⟩) 1 1) (xs:=l.take i) (ys:= [(key,val)]) tiPr Tryz.underlying22 Tryz.underlying22 rfl rfl rfl (HO2.out.ext0 hEb) (bh_ W2 (key,val)).rd (by rw [HTL.out];simp;omega) (by rw [HTL.out];simp;omega) ?_
   intro v3 W3 how3 hext3 hnear3 _
   obtain⟨hE3,hf3⟩:=p_ (HE2.out.trans hEb) HF2.out hext3 hnear3
   have hr3:=(HR2.out.ext0 hEb).ext hext3 (fun g hg hm=> HSEP.out g hg _ (HF2.out g hm) rfl)
   have cm3:=hE3.cell c0 (by simp)
   obtain⟨p3,c3,rfl,_⟩:=how3.rd.len_eq
   have hl3:(l.take i++ [(key,val)]).length=i+1:=by rw [List.length_append,HTL.out];rfl
   rw [hl3] at how3 hf3 ⊢
   obtain⟨HO3,HE3,HF3,HR3,HL3⟩:=h_5 how3 hE3 hf3 hr3 hl3
   refine hK _ _ ?_
   clear hK how3 hext3 hnear3 hE3 hf3 hEb hr3 hl3 cm
   go_wp2_with (with_reducible refine f_ (d:=57) ?_)
   refine m_ rfl fun K hK=> b_ (s:= .tmp 55) (x:= .tmp 56) (E:=EPr) (T:=36) (zero:=([],[])) (bytes:=32) (v:= .slice p3 (i+1) c3) (u:=(.slice p 0 0)) (xs:=l.take i++ [(key,val)]) (ys:=rest) tiPr Tryz.underlying22 Tryz.underlying22 rfl rfl rfl HO3.out HR3.out (by rw [HL3.out];have:=HRL.out;omega) (by rw [HL3.out];have:=HRL.out;omega) ?_
   intro v4 W4 how4 hext4 hnear4 _
   obtain⟨p4,c4,rfl,_⟩:=how4.rd.len_eq
   obtain⟨M4,hM4⟩: ∃M,M=(l.take i++ [(key,val)]++rest).length:=⟨_,rfl⟩
   rw [<-hM4] at how4 ⊢
   clear hM4
   obtain⟨hE4, -⟩:=p_ HE3.out HF3.out hext4 hnear4
   have hb4:=hE4.blk HBK.out (by simp)
   have cm4:=hE4.cell c0 (by simp)
   have hfz: ∀j,W4.frozen? ⟨mb,j,none⟩=false:=fun j=> frozen_of_row _ _ _ _ _ hb4
   have hb5:=heap_setCell_same W4 mb 0 _ _ (.slice p4 M4 c4) hb4
   have hE5:Ext [mb] W4 (W4.setCell ⟨mb,0,none⟩ (.slice p4 M4 c4)):=(Ext.refl [mb] W4).setCell (.inl (by simp)) _
   have HX:=hi_ (⟨⟨_,hb5,how4.ext hE5 (by simpa using how4.ne hb4 (by decide))⟩,((HE1.out.nil (S:= [mb])).trans (hE4.nil)).trans hE5⟩:MapR (W4.setCell ⟨mb,0,none⟩ (.slice p4 M4 c4)) mb (l.take i++ [(key,val)]++rest)/\Ext [mb] w (W4.setCell ⟨mb,0,none⟩ (.slice p4 M4 c4)))
   refine hK _ _ ?_
   clear hK how4 hext4 hnear4 hE4 hb4 hb5 hE5 cm3 c0 HO3 HE3 HF3 HR3 HO2 HE2 HF2 HR2
   go_wp2
   go_ret
   exact⟨rfl,HX.out⟩
  ·obtain⟨g,o,rfl⟩: ∃g o,p=some ⟨g,o,none⟩:=by
    rcases HOW.out with ⟨h,_⟩ | ⟨g,o,c,_,h,_⟩
    ·simp only [Value.slice.injEq] at h;omega
    ·simp only [Value.slice.injEq] at h;exact⟨g,_,h.1⟩
   have HRR:Hid (EPr.Rd W1 (.slice (some ⟨g,o+i*2,none⟩) (N - i) (c - i)) rest):=hi_ (by rw [HRE.out,HDD.out];exact HOW.out.rd.dropS)
   -- the rest is known; three appends and the store
   have hEa:=(Ext.refl [] W1).alloc (.cells #[] 36)
   have ca:=hEa.cell c0 (by simp)
   go_wp2_with (with_reducible refine f_ (d:=50) ?_)
   refine m_ rfl fun K hK=> b_ (s:= .tmp 43) (x:= .tmp 49) (E:=EPr) (T:=36) (zero:=([],[])) (bytes:=32) (v:= .slice (some ⟨W1.heap.size,0,none⟩) 0 0) (u:=(.slice (some ⟨g,o,none⟩) i c)) (xs:= []) (ys:=l.take i) tiPr Tryz.underlying22 Tryz.underlying22 rfl rfl rfl (aE_ W1 rfl) (HTK.out.ext0 hEa) (by rw [HTL.out];simp;omega) (by rw [HTL.out];simp;omega) ?_
   intro v2 W2 how2 hext2 hnear2 _
   obtain⟨hE2,hf2⟩:=p_ hEa (by simp [blkL]) hext2 hnear2
   simp only [List.nil_append] at how2
   obtain⟨p2,c2,rfl,_⟩:=how2.rd.len_eq
   rw [HTL.out] at how2 hf2 ⊢
   obtain⟨HO2,HE2,HF2⟩:=h_3 how2 hE2 hf2
   have HR2:=hi_ ((HRR.out).ext0 hE2)
   have cm:=hE2.cell c0 (by simp)
   refine hK _ _ ?_
   clear hK how2 hext2 hnear2 hE2 hf2 hEa ca
   go_wp2_with (with_reducible refine f_ (d:=55) ?_)
   have hEb:=(Ext.refl [] W2).alloc (.cells #[.string ⟨key.toArray⟩,.string ⟨val.toArray⟩] 36)
   refine m_ rfl fun K hK=> b_ (s:= .tmp 50) (x:= .tmp 54) (E:=EPr) (T:=36) (zero:=([],[])) (bytes:=32) (v:= .slice p2 i c2) (u:= .slice (some ⟨W2.heap.size,0,none⟩) 1 1) (xs:=l.take i) (ys:= [(key,val)]) tiPr Tryz.underlying22 Tryz.underlying22 rfl rfl rfl (HO2.out.ext0 hEb) (bh_ W2 (key,val)).rd (by rw [HTL.out];simp;omega) (by rw [HTL.out];simp;omega) ?_
   intro v3 W3 how3 hext3 hnear3 _
   obtain⟨hE3,hf3⟩:=p_ (HE2.out.trans hEb) HF2.out hext3 hnear3
   have hr3:=(HR2.out.ext0 hEb).ext hext3 (fun g hg hm=> HSEP.out g hg _ (HF2.out g hm) rfl)
   have cm3:=hE3.cell c0 (by simp)
   obtain⟨p3,c3,rfl,_⟩:=how3.rd.len_eq
   have hl3:(l.take i++ [(key,val)]).length=i+1:=by rw [List.length_append,HTL.out];rfl
   rw [hl3] at how3 hf3 ⊢
   obtain⟨HO3,HE3,HF3,HR3,HL3⟩:=h_5 how3 hE3 hf3 hr3 hl3
   refine hK _ _ ?_
   clear hK how3 hext3 hnear3 hE3 hf3 hEb hr3 hl3 cm
   go_wp2_with (with_reducible refine f_ (d:=57) ?_)
   refine m_ rfl fun K hK=> b_ (s:= .tmp 55) (x:= .tmp 56) (E:=EPr) (T:=36) (zero:=([],[])) (bytes:=32) (v:= .slice p3 (i+1) c3) (u:=(.slice (some ⟨g,o+i*2,none⟩) (N - i) (c - i))) (xs:=l.take i++ [(key,val)]) (ys:=rest) tiPr Tryz.underlying22 Tryz.underlying22 rfl rfl rfl HO3.out HR3.out (by rw [HL3.out];have:=HRL.out;omega) (by rw [HL3.out];have:=HRL.out;omega) ?_
   intro v4 W4 how4 hext4 hnear4 _
   obtain⟨p4,c4,rfl,_⟩:=how4.rd.len_eq
   obtain⟨M4,hM4⟩: ∃M,M=(l.take i++ [(key,val)]++rest).length:=⟨_,rfl⟩
   rw [<-hM4] at how4 ⊢
   clear hM4
   obtain⟨hE4, -⟩:=p_ HE3.out HF3.out hext4 hnear4
   have hb4:=hE4.blk HBK.out (by simp)
   have cm4:=hE4.cell c0 (by simp)
   have hfz: ∀j,W4.frozen? ⟨mb,j,none⟩=false:=fun j=> frozen_of_row _ _ _ _ _ hb4
   have hb5:=heap_setCell_same W4 mb 0 _ _ (.slice p4 M4 c4) hb4
   have hE5:Ext [mb] W4 (W4.setCell ⟨mb,0,none⟩ (.slice p4 M4 c4)):=(Ext.refl [mb] W4).setCell (.inl (by simp)) _
   have HX:=hi_ (⟨⟨_,hb5,how4.ext hE5 (by simpa using how4.ne hb4 (by decide))⟩,((HE1.out.nil (S:= [mb])).trans (hE4.nil)).trans hE5⟩:MapR (W4.setCell ⟨mb,0,none⟩ (.slice p4 M4 c4)) mb (l.take i++ [(key,val)]++rest)/\Ext [mb] w (W4.setCell ⟨mb,0,none⟩ (.slice p4 M4 c4)))
   refine hK _ _ ?_
   clear hK how4 hext4 hnear4 hE4 hb4 hb5 hE5 cm3 c0 HO3 HE3 HF3 HR3 HO2 HE2 HF2 HR2
   go_wp2
   go_ret
   exact⟨rfl,HX.out⟩
end Go.Proofs.YtkpgjkekmdecbaaGreat
