/- Lemmas for the claim. No conditions beside those that each states. -/
import Derived.Test.YtkpgjkekmdecbaaGreatOrdAT
import Derived.Test.YtkpgjkekmdecbaaGreatOrdAR
import Derived.Test.YtkpgjkekmdecbaaGreatOrdAI
set_option maxRecDepth 100000
set_option maxHeartbeats 8000000
set_option linter.all false

namespace Go.Proofs.YtkpgjkekmdecbaaGreat
open Go.RowKit
variable {w w' w1:World} {T:TypeId} {n i cb b:Nat} {S:List Nat} {key:Ky} {yv:Rfm} {gs:List Ptr4} {y:Sy} {v v':Sv} {L:List Blk}
abbrev ownTags:List TypeId:= [146,34,38]
def SyOk (y:Sy) (w:World) (k:Nat):Prop:=k∈ [y.b,y.r,y.sp]\/ ∃T∈SyT,r_ w k=some T/\ ∃b∈ [y.b,y.r,y.sp],b<=k
def CF (y:Sy) (cb:Nat) (w w':World):Prop:= ∃S,Ext S w w'/\ ∀k∈S,SyOk y w k\/(cb<=k/\ ∃T∈ownTags,r_ w k=some T)
theorem CF.of (h:SyF y w w'):CF y cb w w':=by
 obtain⟨S,h1,h2⟩:=h
 exact⟨S,h1,fun k hk=> .inl (h2 k hk)⟩
theorem CF.of0 (h:Ext [] w w'):CF y cb w w':=⟨[],h,by simp⟩
theorem CF.own (h:Ext S w w') (hS: ∀k∈S,cb<=k/\ ∃T∈ownTags,r_ w k=some T):CF y cb w w':=⟨S,h,fun k hk=> .inr (hS k hk)⟩
theorem CF.refl (y:Sy) (cb:Nat) (w:World):CF y cb w w:= .of0 (Ext.refl _ _)
theorem CF.trans {a b c:World} (h:CF y cb a b) (k:CF y cb b c):CF y cb a c:=by
 obtain⟨S,hS,hs⟩:=h
 obtain⟨S',hS',hs'⟩:=k
 refine⟨S++(S'.filter (fun x=> decide (x < a.heap.size/\x∉S))),hS.trans' hS' (fun x hx=> .inl (by simp [hx])) (fun x hx=> ?_),fun x hx=> ?_⟩
 ·by_cases h1:x < a.heap.size
  ·by_cases h2:x∈S
   ·exact .inl (by simp [h2])
   ·exact .inl (by simp [hx,h1,h2])
  ·exact .inr (by omega)
 ·rcases List.mem_append.1 hx with hx | hx
  ·exact hs x hx
  ·simp only [List.mem_filter,decide_eq_true_eq] at hx
   obtain⟨hx,hl,hn⟩:=hx
   have et:r_ b x=r_ a x:=by rw [r_,r_,hS.block x hl hn]
   rcases hs' x hx with h | ⟨h1,T,h2,h3⟩
   ·rcases h with h | ⟨T,h1,h2,h3⟩
    ·exact .inl (.inl h)
    ·exact .inl (.inr ⟨T,h1,by rw [<-et];exact h2,h3⟩)
   ·exact .inr ⟨h1,T,h2,by rw [<-et];exact h3⟩
theorem CF.syf (h:CF y cb w w') (hc:w.heap.size<=cb):SyF y w w':=by
 obtain⟨S,h1,h2⟩:=h
 refine ExtT.of h1 (fun k hk=> ?_)
 rcases h2 k hk with h | h
 ·rcases h with h | h
  ·exact .inl h
  ·exact .inr (.inl h)
 ·exact .inr (.inr (Nat.le_trans hc h.1))
theorem CF.noNode (hy:SyR w y v) (h:CF y cb w w'): ∃S,Ext S w w'/\ ∀k∈S,∀T,T∉ [117,143,168,339,175,146,34,38]->r_ w k≠some T:=by
 obtain⟨S,h1,h2⟩:=h
 refine⟨S,h1,fun k hk T hT e=> ?_⟩
 simp only [List.mem_cons,List.not_mem_nil,or_false,not_or] at hT
 rcases h2 k hk with h | ⟨_,T',h3,h4⟩
 ·rcases h with h | ⟨T',h3,h4,_⟩
  ·simp only [List.mem_cons,List.not_mem_nil,or_false] at h
   rcases h with rfl | rfl | rfl
   ·rw [hy.st.tag] at e;cases e;exact hT.1 rfl
   ·rw [hy.rk.tag.1] at e;cases e;exact hT.2.1 rfl
   ·rw [hy.sp.tag] at e;cases e;exact hT.2.2.1 rfl
  ·rw [h4] at e
   cases e
   simp only [List.mem_cons,List.not_mem_nil,or_false] at h3
   rcases h3 with rfl | rfl
   ·exact hT.2.2.2.1 rfl
   ·exact hT.2.2.2.2.1 rfl
 ·rw [h4] at e
  cases e
  simp only [List.mem_cons,List.not_mem_nil,or_false] at h3
  rcases h3 with rfl | rfl | rfl
  ·exact hT.2.2.2.2.2.1 rfl
  ·exact hT.2.2.2.2.2.2.1 rfl
  ·exact hT.2.2.2.2.2.2.2 rfl
theorem NodeR.cf (hy:SyR w y v) (h:CF y cb w w') (n b:Nat) (t:List (El n)) (hn:NodeR w n b t):NodeR w' n b t:=by
 obtain⟨S,h1,h2⟩:=h.noNode hy
 exact NodeR.ext h1 (fun k hk T hT=> h2 k hk T (by revert T;decide)) n b t hn
def ChR (w:World) (y:Sy) (cb:Nat) (gs:List Ptr4):Prop:=
 ∃gv,w.heap[cb]? =some (.cells #[.pointer (some ⟨y.b,0,none⟩),gv] 146 (0,0))/\EP.Ow 34 w gv gs/\ ∀g∈blkL gv,cb<=g
theorem ChR.ext0 (h:ChR w y cb gs) (he:Ext [] w w'):ChR w' y cb gs:=by
 obtain⟨gv,h1,h2,h3⟩:=h
 exact⟨gv,he.blk h1 (by simp),h2.ext0 he,h3⟩
theorem ChR.syf (h:ChR w y cb gs) (hy:SyR w y v) (hf:SyF y w w'):ChR w' y cb gs:=by
 obtain⟨gv,h1,h2,h3⟩:=h
 obtain⟨S,k1,k2⟩:=hf.tags hy
 exact⟨gv,k1.blk h1 (fun hm=> k2 cb hm _ (by decide) (d_ h1)),h2.ext k1 (fun g hg hm=> k2 g hm _ (by decide) (h2.tagOf g hg)),h3⟩
theorem ChR.cells (h:ChR w y cb gs): ∃p c,w.cell? ⟨cb,0,none⟩=some (.pointer (some ⟨y.b,0,none⟩))/\w.cell? ⟨cb,1,none⟩=some (.slice p gs.length c)/\w.heap[cb]? =some (.cells #[.pointer (some ⟨y.b,0,none⟩),.slice p gs.length c] 146 (0,0))/\EP.Ow 34 w (.slice p gs.length c) gs/\ ∀g∈blkL (.slice p gs.length c),cb<=g:=by
 obtain⟨gv,h1,h2,h3⟩:=h
 obtain⟨p,c,rfl,_⟩:=h2.rd.len_eq
 refine⟨p,c, ?_, ?_,h1,h2,h3⟩ <;> (rw [cell_of_row w cb _ _ _ _ h1];rfl)
structure CS (y:Sy) (v:Sv) (L:List Blk) (cb:Nat) (gs:List Ptr4) (w:World):Prop where
 sy:SyR w y v
 dsk:Dsk y v L
 ch:ChR w y cb gs
theorem CS.ext0 (h:CS y v L cb gs w) (he:Ext [] w w'):CS y v L cb gs w':=⟨h.sy.ext0 he,h.dsk,h.ch.ext0 he⟩
theorem CS.syf (h:CS y v L cb gs w) (hs:SyR w' y v') (hd:Dsk y v' L) (hf:SyF y w w'):CS y v' L cb gs w':=⟨hs,hd,h.ch.syf h.sy hf⟩
theorem CS.more {gs gs':List Ptr4} {p p':Option Addr} {c c':Nat} (h:CS y v L cb gs w) (hb:w.heap[cb]? =some (.cells #[.pointer (some ⟨y.b,0,none⟩),.slice p gs.length c] 146 (0,0))) (how:EP.Ow 34 w (.slice p gs.length c) gs) (hge: ∀g∈blkL (.slice p gs.length c),cb<=g)
  (ho1:EP.Ow 34 w1 (.slice p' gs'.length c') gs') (hE:Ext (blkL (.slice p gs.length c)) w w1) (hn:Near w (.slice p gs.length c) (.slice p' gs'.length c')):
  CS y v L cb gs' (w1.setCell ⟨cb,1,none⟩ (.slice p' gs'.length c'))/\CF y cb w (w1.setCell ⟨cb,1,none⟩ (.slice p' gs'.length c')):=by
 have hE2:Ext (cb::blkL (.slice p gs.length c)) w (w1.setCell ⟨cb,1,none⟩ (.slice p' gs'.length c')):=(hE.mono (fun x hx=> .inl (List.mem_cons_of_mem _ hx))).setCell (.inl (by simp)) _
 have htg:=how.tagOf
 have hcf:CF y cb w (w1.setCell ⟨cb,1,none⟩ (.slice p' gs'.length c')):=CF.own hE2 (fun k hk=> by
  rcases List.mem_cons.1 hk with rfl | hk
  ·exact⟨Nat.le_refl _,_,by simp,d_ hb⟩
  ·exact⟨hge k hk,_,by simp,htg k hk⟩)
 have hlt:=g_ hb
 have hb1:=hE.blk hb (fun hm=> how.ne hb (by decide) cb hm rfl)
 have hb2:=heap_setCell_same _ cb 1 _ _ (.slice p' gs'.length c') hb1
 refine⟨⟨h.sy.otherT hE2 (fun g hg T hT=> ?_),h.dsk,_,hb2, ?_,fun g hg=> ?_⟩,hcf⟩
 ·rcases List.mem_cons.1 hg with rfl | hg
  ·rw [d_ hb];revert T;decide
  ·rw [htg g hg];revert T;decide
 ·exact ho1.ext ((Ext.refl [cb] w1).setCell (.inl (by simp)) _) (by simpa using ho1.ne hb1 (by decide))
 ·rcases hn g hg with h | h
  ·exact hge g h
  ·omega
def gt_ (y:Sy) (v:Sv) (L:List Blk) (cb:Nat) (gs:List Ptr4) (n:Nat) (t:List (El n)) (w:World) (e:Ending) (w':World):Prop:=
 ∃b v',e= .returned (.tuple #[.pointer (some ⟨b,0,none⟩),.int .i64 0])/\NodeR w' n b t/\CS y v' L cb gs w'/\SameV v v'/\CF y cb w w'
theorem dm_ {r:Rf n} (h:CS y v L cb gs w) (hk:KidR (NodeR w n) yv r) (hK:DskK L n r) (hg:GoodT n r.2):
  Calls Tryz.prog 62 #[.pointer (some ⟨y.b,0,none⟩),refV yv] w (gt_ y v L cb gs n r.2 w):=by
 refine(ew_ (fun k=> k < w.heap.size) y v L n yv r w h.sy h.dsk (hk.mono (fun b hn=> NodeR.toI _ _ _ hn)) hK hg).mono ?_
 rintro e w' ⟨b,v',rfl,hn,hs,hsm,hd,hF⟩
 exact⟨b,v',rfl,NodeRI.node _ _ _ hn,h.syf hs hd hF,hsm,CF.of hF⟩
theorem hc_ (y:Sy) (v:Sv) (L:List Blk) (cb:Nat) (gs:List Ptr4) (n:Nat) (yv:Rfm) (r:Rf n) (w:World) (h:CS y v L cb gs w) (hk:KidR (NodeR w n) yv r) (hK:DskK L n r) (hg:GoodT n r.2) (hgl:gs.length<=100000):
  Calls Tryz.prog 99 #[.pointer (some ⟨cb,0,none⟩),refV yv] w (gt_ y v L cb (gs++r.1.toList) n r.2 w):=by
 have HL:Hid (∀W,CS y v L cb gs W->KidR (NodeR W n) yv r->Calls Tryz.prog 62 #[.pointer (some ⟨y.b,0,none⟩),refV yv] W (gt_ y v L cb gs n r.2 W)):=hi_ (fun W h hk=> dm_ h hk hK hg)
 obtain⟨t,ht⟩: ∃t,t=r.2:=⟨_,rfl⟩
 rw [<-ht] at HL ⊢
 obtain⟨HH,HK⟩:=h_2 h hk
 obtain⟨p0,cg0,c0,c1, -⟩:=h.ch.cells
 unfold KidR at hk
 clear hK hg h
 cases hr:r.1 with
 | none=>
  simp only [hr] at hk
  obtain⟨b0,rfl, -⟩:=hk
  simp only [refV,ptV,Option.map_some] at HL ⊢
  have e0:gs++(none:Option Ptr4).toList=gs:=by simp
  rw [e0]
  clear hr e0 ht
  have hE:Ext [] w (w.alloc (.cells #[.int .i64 0,.int .i64 0,.int .i64 0,.string ⟨#[]⟩,.pointer (some ⟨b0,0,none⟩)] 89)):=(Ext.refl [] w).alloc _
  have hbx:=heap_alloc_new w (.cells #[.int .i64 0,.int .i64 0,.int .i64 0,.string ⟨#[]⟩,.pointer (some ⟨b0,0,none⟩)] 89)
  obtain⟨HE,HBX⟩:=h_2 hE hbx
  have c0:=hE.cell c0 (by simp)
  obtain⟨bx,hbxe⟩: ∃b,b=w.heap.size:=⟨_,rfl⟩
  clear hE hbx c1
  go_enter Tryz.func99,Tryz.ntmps99
  go_wp2_with fail
  rw [<-hbxe] at HBX
  try simp only [<-hbxe]
  clear hbxe
  revert c0 HE HBX
  generalize World.alloc _ _=W0
  intro HE c0 HBX
  have x0:W0.cell? ⟨bx,0,none⟩=some (.int .i64 0):=by rw [cell_of_row _ bx 0 _ _ _ HBX.out];rfl
  have x1:W0.cell? ⟨bx,1,none⟩=some (.int .i64 0):=by rw [cell_of_row _ bx 1 _ _ _ HBX.out];rfl
  have x2:W0.cell? ⟨bx,2,none⟩=some (.int .i64 0):=by rw [cell_of_row _ bx 2 _ _ _ HBX.out];rfl
  have x3:W0.cell? ⟨bx,3,none⟩=some (.string ⟨#[]⟩):=by rw [cell_of_row _ bx 3 _ _ _ HBX.out];rfl
  have x4:W0.cell? ⟨bx,4,none⟩=some (.pointer (some ⟨b0,0,none⟩)):=by rw [cell_of_row _ bx 4 _ _ _ HBX.out];rfl
  have hD:=(Ext.refl [] W0).drew
  refine e_ (fun W=> W.cell? ⟨cb,0,none⟩=some (.pointer (some ⟨y.b,0,none⟩))/\W.cell? ⟨bx,0,none⟩=some (.int .i64 0)/\W.cell? ⟨bx,1,none⟩=some (.int .i64 0)/\W.cell? ⟨bx,2,none⟩=some (.int .i64 0)/\W.cell? ⟨bx,3,none⟩=some (.string ⟨#[]⟩)/\W.cell? ⟨bx,4,none⟩=some (.pointer (some ⟨b0,0,none⟩))) (fun i=> i==3 || i==4) (by kernel_rfl) ⟨hD.cell c0 (by simp),hD.cell x0 (by simp),hD.cell x1 (by simp),hD.cell x2 (by simp),hD.cell x3 (by simp),hD.cell x4 (by simp)⟩ (fun hS=> ?_)
  refine PUq 0 ?_;(try go_frame)
  refine PUq 1 ?_;(try go_frame)
  refine PUq 2 ?_;(try go_frame)
  refine ta 3 ?_;(try go_frame)
  refine ta 4 ?_;(try go_frame)
  refine a_ (i:=5) (by kernel_rfl) rfl (fun K hK=> ?_)
  (try simp only [Act.put,zA,zB,zC,List.setIfInBounds_toArray,zD,zE]);refine iw rfl ?_
  go_simp
  have hE0:=HE.out.trans hD
  refine(HL.out _ (HH.out.ext0 hE0) (HK.out.mono (fun b h=> h.ext0 hE0))).mono ?_
  rintro e W2 ⟨bn,v2,rfl,hn2,hcs,hsm,hcf⟩
  have HB2:Hid (W2.heap[bx]? =some (.cells #[.int .i64 0,.int .i64 0,.int .i64 0,.string ⟨#[]⟩,.pointer (some ⟨b0,0,none⟩)] 89 (0,0))):=hi_ (by
   obtain⟨S,h1,h2⟩:=hcf.noNode (HH.out.ext0 hE0).sy
   have hb:=hD.blk HBX.out (by simp)
   exact h1.blk hb (fun hm=> h2 bx hm _ (by decide) (d_ hb)))
  obtain⟨HN2,HCS,HSM⟩:=h_3 hn2 hcs hsm
  have HCF:=hi_ ((CF.of0 hE0).trans hcf)
  refine nk hK ?_
  clear hK hS hE0 hn2 hcs hsm hcf hD x0 x1 x2 x3 x4 c0 HBX HE HH HK HL
  refine PUq 6 ?_;(try go_frame)
  refine PUq 7 ?_;(try go_frame)
  refine PUq 8 ?_;(try go_frame)
  refine PUq 9 ?_;(try go_frame)
  refine PUq 10 ?_;(try go_frame)
  simp only [zA,zB,zC,zD,zE]
  refine c_ (by kernel_rfl) ?_ _
  have y4:W2.cell? ⟨bx,4,none⟩=some (.pointer (some ⟨b0,0,none⟩)):=by rw [cell_of_row _ bx 4 _ _ _ HB2.out];rfl
  go_wp2
  go_ret2
  exact⟨bn,v2,rfl,HN2.out,HCS.out,HSM.out,HCF.out⟩
 | some q=>
  simp only [hr] at hk
  subst hk
  simp only [refV,ptV,Option.map_none] at HL ⊢
  have e0:gs++(some q:Option Ptr4).toList=gs++ [q]:=by simp
  rw [e0]
  clear hr e0 ht
  have hE:Ext [] w (w.alloc (.cells #[.int .i64 q.1,.int .i64 q.2.1,.int .i64 q.2.2.1,.string ⟨q.2.2.2.toArray⟩,.pointer none] 89)):=(Ext.refl [] w).alloc _
  have hbx:=heap_alloc_new w (.cells #[.int .i64 q.1,.int .i64 q.2.1,.int .i64 q.2.2.1,.string ⟨q.2.2.2.toArray⟩,.pointer none] 89)
  obtain⟨HE,HBX⟩:=h_2 hE hbx
  have c0:=hE.cell c0 (by simp)
  obtain⟨bx,hbxe⟩: ∃b,b=w.heap.size:=⟨_,rfl⟩
  clear hE hbx c1
  go_enter Tryz.func99,Tryz.ntmps99
  go_wp2_with fail
  rw [<-hbxe] at HBX
  try simp only [<-hbxe]
  clear hbxe
  revert c0 HE HBX
  generalize World.alloc _ _=W0
  intro HE c0 HBX
  have x0:W0.cell? ⟨bx,0,none⟩=some (.int .i64 q.1):=by rw [cell_of_row _ bx 0 _ _ _ HBX.out];rfl
  have x1:W0.cell? ⟨bx,1,none⟩=some (.int .i64 q.2.1):=by rw [cell_of_row _ bx 1 _ _ _ HBX.out];rfl
  have x2:W0.cell? ⟨bx,2,none⟩=some (.int .i64 q.2.2.1):=by rw [cell_of_row _ bx 2 _ _ _ HBX.out];rfl
  have x3:W0.cell? ⟨bx,3,none⟩=some (.string ⟨q.2.2.2.toArray⟩):=by rw [cell_of_row _ bx 3 _ _ _ HBX.out];rfl
  have x4:W0.cell? ⟨bx,4,none⟩=some (.pointer none):=by rw [cell_of_row _ bx 4 _ _ _ HBX.out];rfl
  have hD:=(Ext.refl [] W0).drew
  refine e_ (fun W=> W.cell? ⟨cb,0,none⟩=some (.pointer (some ⟨y.b,0,none⟩))/\W.cell? ⟨bx,0,none⟩=some (.int .i64 q.1)/\W.cell? ⟨bx,1,none⟩=some (.int .i64 q.2.1)/\W.cell? ⟨bx,2,none⟩=some (.int .i64 q.2.2.1)/\W.cell? ⟨bx,3,none⟩=some (.string ⟨q.2.2.2.toArray⟩)/\W.cell? ⟨bx,4,none⟩=some (.pointer none)) (fun i=> i==3 || i==4) (by kernel_rfl) ⟨hD.cell c0 (by simp),hD.cell x0 (by simp),hD.cell x1 (by simp),hD.cell x2 (by simp),hD.cell x3 (by simp),hD.cell x4 (by simp)⟩ (fun hS=> ?_)
  refine PUq 0 ?_;(try go_frame)
  refine PUq 1 ?_;(try go_frame)
  refine PUq 2 ?_;(try go_frame)
  refine ta 3 ?_;(try go_frame)
  refine ta 4 ?_;(try go_frame)
  refine a_ (i:=5) (by kernel_rfl) rfl (fun K hK=> ?_)
  (try simp only [Act.put,zA,zB,zC,List.setIfInBounds_toArray,zD,zE]);refine iw rfl ?_
  go_simp
  have hE0:=HE.out.trans hD
  refine(HL.out _ (HH.out.ext0 hE0) (HK.out.mono (fun b h=> h.ext0 hE0))).mono ?_
  rintro e W2 ⟨bn,v2,rfl,hn2,hcs,hsm,hcf⟩
  have HB2:Hid (W2.heap[bx]? =some (.cells #[.int .i64 q.1,.int .i64 q.2.1,.int .i64 q.2.2.1,.string ⟨q.2.2.2.toArray⟩,.pointer none] 89 (0,0))):=hi_ (by
   obtain⟨S,h1,h2⟩:=hcf.noNode (HH.out.ext0 hE0).sy
   have hb:=hD.blk HBX.out (by simp)
   exact h1.blk hb (fun hm=> h2 bx hm _ (by decide) (d_ hb)))
  obtain⟨HN2,HCS,HSM⟩:=h_3 hn2 hcs hsm
  have HCF:=hi_ ((CF.of0 hE0).trans hcf)
  refine nk hK ?_
  clear hK hS hE0 hn2 hcs hsm hcf hD x0 x1 x2 x3 x4 c0 HBX HE HH HK HL
  refine PUq 6 ?_;(try go_frame)
  refine PUq 7 ?_;(try go_frame)
  refine PUq 8 ?_;(try go_frame)
  refine PUq 9 ?_;(try go_frame)
  refine PUq 10 ?_;(try go_frame)
  simp only [zA,zB,zC,zD,zE]
  refine c_ (by kernel_rfl) ?_ _
  have y4:W2.cell? ⟨bx,4,none⟩=some (.pointer none):=by rw [cell_of_row _ bx 4 _ _ _ HB2.out];rfl
  obtain⟨p,c,k0,k1,kb,kow,kge⟩:=HCS.out.ch.cells
  go_wp2_with fail
  have hD:=(Ext.refl [] W2).drew
  have x0:W2.cell? ⟨bx,0,none⟩=some (.int .i64 q.1):=by rw [cell_of_row _ bx 0 _ _ _ HB2.out];rfl
  have x1:W2.cell? ⟨bx,1,none⟩=some (.int .i64 q.2.1):=by rw [cell_of_row _ bx 1 _ _ _ HB2.out];rfl
  have x2:W2.cell? ⟨bx,2,none⟩=some (.int .i64 q.2.2.1):=by rw [cell_of_row _ bx 2 _ _ _ HB2.out];rfl
  have x3:W2.cell? ⟨bx,3,none⟩=some (.string ⟨q.2.2.2.toArray⟩):=by rw [cell_of_row _ bx 3 _ _ _ HB2.out];rfl
  obtain⟨HKB,HKO,HKG⟩:=h_3 kb kow kge
  clear kb kow kge
  refine e_ (fun W=> W.cell? ⟨cb,1,none⟩=some (.slice p gs.length c)/\W.cell? ⟨bx,0,none⟩=some (.int .i64 q.1)/\W.cell? ⟨bx,1,none⟩=some (.int .i64 q.2.1)/\W.cell? ⟨bx,2,none⟩=some (.int .i64 q.2.2.1)/\W.cell? ⟨bx,3,none⟩=some (.string ⟨q.2.2.2.toArray⟩)) (fun i=> i==4 || i==6 || i==7) (by kernel_rfl) ⟨hD.cell k1 (by simp),hD.cell x0 (by simp),hD.cell x1 (by simp),hD.cell x2 (by simp),hD.cell x3 (by simp)⟩ (fun hS=> ?_)
  refine PUq 0 ?_;(try go_frame)
  refine PUq 1 ?_;(try go_frame)
  refine PUq 2 ?_;(try go_frame)
  refine PUq 3 ?_;(try go_frame)
  refine PUq 5 ?_;(try go_frame)
  refine ta 4 ?_;(try go_frame)
  refine ta 6 ?_;(try go_frame)
  refine a_ (i:=7) (by kernel_rfl) rfl (fun K hK=> ?_)
  (try simp only [Act.put,zA,zB,zC,List.setIfInBounds_toArray,zD,zE]);refine iw rfl ?_
  go_simp
  have hE7:Ext [] W2 (W2.alloc (.cells #[.int .i64 q.1,.int .i64 q.2.1,.int .i64 q.2.2.1,.string ⟨q.2.2.2.toArray⟩] 34)).drew:=((Ext.refl [] W2).alloc _).drew
  have hrd7:=(eQ_ (T:=34) W2 q).drew
  refine hK.out _ _ (fun _=> ⟨hE7.cell k1 (by simp),hE7.cell x0 (by simp),hE7.cell x1 (by simp),hE7.cell x2 (by simp),hE7.cell x3 (by simp)⟩) (fun _=> ?_)
  obtain⟨HE7,HRD7⟩:=h_2 hE7 hrd7
  clear hK hS x0 x1 x2 x3 hE7 hrd7 hD y4 k0 k1
  revert HE7 HRD7
  generalize World.drew _=W7
  intro HE7 HRD7
  refine a_ (i:=8) (by kernel_rfl) rfl (fun K hK=> ?_)
  (try simp only [Act.put,zA,zB,zC,List.setIfInBounds_toArray,zD,zE]);refine iw rfl ?_
  refine b_ (s:= .tmp 28) (x:= .tmp 31) (E:=EP) (T:=34) (zero:=(0,0,0,[])) (bytes:=40) (v:= .slice p gs.length c) (xs:=gs) (ys:= [q]) tiEP Tryz.underlying38 Tryz.underlying38 rfl rfl rfl (HKO.out.ext0 HE7.out) HRD7.out (by simp;omega) (by simp;omega) ?_
  intro v8 w8 how hext hnear _
  obtain⟨p8,c8,hv8,_⟩:=how.rd.len_eq
  subst hv8
  have hb7:=HE7.out.blk HKB.out (by simp)
  obtain⟨hcs9,hcf9⟩:=(HCS.out.ext0 HE7.out).more hb7 (HKO.out.ext0 HE7.out) HKG.out how hext hnear
  have hn7:=HN2.out.ext0 HE7.out
  have hn9:=NodeR.cf (HCS.out.ext0 HE7.out).sy hcf9 _ _ _ hn7
  have HCS9:=hi_ hcs9
  have HCF9:=hi_ ((HCF.out.trans (CF.of0 HE7.out)).trans hcf9)
  have HN9:=hi_ hn9
  have hb8:=hext.blk hb7 (fun hm=> (HKO.out.ext0 HE7.out).ne hb7 (by decide) cb hm rfl)
  have hfz8: ∀z,w8.frozen? ⟨cb,z,none⟩=false:=fun z=> frozen_of_row _ _ _ _ _ hb8
  have c18:w8.cell? ⟨cb,1,none⟩=some (.slice p gs.length c):=by rw [cell_of_row w8 cb 1 _ _ _ hb8];rfl
  refine nk hK ?_
  clear hK how hext hnear hb7 hcs9 hcf9 hn7 hn9 hb8 HE7 HRD7 HKB HKO HKG HCS HCF HN2 HB2
  refine PUq 9 ?_;(try go_frame)
  refine PUq 10 ?_;(try go_frame)
  simp only [zA,zB,zC,zD,zE]
  refine a_ (i:=11) (by kernel_rfl) rfl (fun K hK=> ?_)
  refine iw rfl ?_
  go_simp
  refine nk hK ?_
  refine c_ (by kernel_rfl) ?_ _
  clear hK hfz8 c18
  have hl1:(gs++ [q]).length=gs.length+1:=by simp
  try rw [hl1] at HCS9 HCF9 HN9
  revert HCS9 HCF9 HN9
  generalize World.setCell _ _ _=W9
  intro HCS9 HCF9 HN9
  go_wp2
  go_ret2
  exact⟨bn,v2,rfl,HN9.out,HCS9.out,HSM.out,HCF9.out⟩
theorem fV_ (W0:World) (x:Rfm):ERf.Rd (W0.alloc (.cells #[.int .i64 x.1.1,.int .i64 x.1.2.1,.int .i64 x.1.2.2.1,.string ⟨x.1.2.2.2.toArray⟩,ptV x.2] T)) (.slice (some ⟨W0.heap.size,0,none⟩) 1 1) [x]:=by
 refine .inr ⟨W0.heap.size,0,1,rfl,Nat.le_refl _,by simp,fun j u hj=> ?_⟩
 rw [cell_of_row _ W0.heap.size _ _ _ _ (heap_alloc_new _ _),Nat.zero_add,<-hj]
 simp [ERf,Enc.flat]
theorem keys_step {xs:List Pcm} (h1:1<=i) (hi:i < xs.length):((xs.take (i+1)).drop 1).map (·.2)=((xs.take i).drop 1).map (·.2)++ [xs[i].2]:=by
 rw [List.take_succ_eq_append_getElem hi,List.drop_append_of_le_length (by rw [List.length_take];omega),List.map_append]
 simp
theorem kids_step {xs:List Pcm} (hi:i < xs.length):(xs.take (i+1)).map (·.1)=(xs.take i).map (·.1)++ [xs[i].1]:=by
 rw [List.take_succ_eq_append_getElem hi,List.map_append]
 simp
theorem PcsR.node {xs:List Pcm} {l:List (Pc n)} (h:PcsR (NodeR w n) xs l) (hb:NodeB w b false [] ((xs.drop 1).map (·.2)) (xs.map (·.1))):NodeR w (n+1) b l:=by
 have hk:o_ l=(xs.drop 1).map (·.2):=by
  rw [o_]
  apply List.ext_getElem
  ·simp [h.1]
  ·intro i h1 h2
   simp only [List.getElem_map,List.getElem_drop]
   have hi:1+i < l.length:=by simp at h1;omega
   have hi2:1+i < xs.length:=by rw [h.1];exact hi
   exact((h.2 (1+i) _ _ (List.getElem?_eq_getElem hi2) (List.getElem?_eq_getElem hi)).2).symm
 refine⟨xs.map (·.1),by rw [hk];exact hb,by simp [h.1],fun i y x hy hx=> ?_⟩
 rw [List.getElem?_map] at hy
 cases he:xs[i]? with
 | none=> rw [he] at hy;simp at hy
 | some z=>
  rw [he] at hy
  simp at hy
  subst hy
  exact(h.2 i z x he hx).1
theorem fA_ (v:Value) (xs:List Pcm) (w:World) (hv:EPc.Rd w v xs) (hl:xs.length<=100000):
  Calls Tryz.prog 101 #[v] w fun e w'=> ∃b,e= .returned (.pointer (some ⟨b,0,none⟩))/\NodeB w' b false [] ((xs.drop 1).map (·.2)) (xs.map (·.1))/\Ext [] w w':=by
 obtain⟨p,cap,rfl,hcap⟩:=hv.len_eq
 obtain⟨M,hM⟩: ∃M,M=xs.length:=⟨_,rfl⟩
 rw [<-hM] at hv hl hcap ⊢
 obtain⟨HM,HV⟩:=h_2 hM hv
 obtain⟨KF,hKF⟩: ∃l,l=(xs.drop 1).map (·.2):=⟨_,rfl⟩
 obtain⟨RF,hRF⟩: ∃l,l=xs.map (·.1):=⟨_,rfl⟩
 rw [<-hKF,<-hRF]
 obtain⟨HKF,HRF⟩:=h_2 hKF hRF
 clear hv hM hKF hRF
 go_enter Tryz.func101,Tryz.ntmps101
 go_wp2_with fail
 have hb0:=heap_alloc_new w (.cells #[.bool false,.slice none 0 0,.slice none 0 0,.slice none 0 0] 125)
 have hEb:Ext [] w (w.alloc (.cells #[.bool false,.slice none 0 0,.slice none 0 0,.slice none 0 0] 125)):=(Ext.refl [] w).alloc _
 have hnb:NodeU w.heap.size (w.alloc (.cells #[.bool false,.slice none 0 0,.slice none 0 0,.slice none 0 0] 125)) w.heap.size false [] [] []:=⟨Nat.le_refl _,_,_,_,hb0,.inl ⟨rfl,rfl⟩,.inl ⟨rfl,rfl⟩,.inl ⟨rfl,rfl⟩,by simp [blkL],by simp [blkL],by simp [blkL]⟩
 obtain⟨wo,hwo⟩: ∃wo,wo=w:=⟨_,rfl⟩
 obtain⟨bn,hbn⟩: ∃b,b=w.heap.size:=⟨_,rfl⟩
 obtain⟨HNB,HEb⟩:=h_2 hnb hEb
 have HBN:Hid (bn=wo.heap.size):=hi_ (by rw [hwo];exact hbn)
 have HWO:Hid (Ext [] w wo):=hi_ (by rw [hwo];exact Ext.refl _ _)
 clear hnb hb0 hEb
 revert HNB HEb
 generalize World.alloc _ _=W2
 rw [<-hbn,<-hwo]
 rw [<-hwo] at HV
 intro HNB HEb
 try simp only [<-hbn]
 clear hbn hwo
 go_loopw [4,5,10] (fun _ _ iv wr=> ∃(i:Nat) (ks:List Ky) (rs:List Rfm),i<=M/\iv= .int .i64 i/\Hid (ks=((xs.take i).drop 1).map (·.2))/\Hid (rs=(xs.take i).map (·.1))/\Hid (NodeU bn wr bn false [] ks rs)/\Hid (Ext [] wo wr)) (fun _ _ iv _=> M - (intOf iv).toNat)
 case atStart=> exact⟨0,[],[],Nat.zero_le _,rfl,hi_ (by simp),hi_ (by simp),HNB,HEb⟩
 case round=>
  obtain⟨i,ks,rs,hi,rfl,HKi,HRi,HN,HE⟩:=hrel
  by_cases hlt:i < M
  ·have y1:(i:Int) < (M:Int):=by omega
   have hix:i < xs.length:=by rw [<-HM.out];exact hlt
   obtain⟨g,o,rfl⟩: ∃g o,p=some ⟨g,o,none⟩:=by
    rcases HV.out with ⟨h,_⟩ | ⟨g,o,c,h,_⟩
    ·simp only [Value.slice.injEq] at h;omega
    ·simp only [Value.slice.injEq] at h;exact⟨g,_,h.1⟩
   obtain⟨m0,m1,m2,m3,m4,m5⟩:=gs_ (HV.out.ext0 HE.out) i hix
   have hx:xs.getD i (R0,[])=xs[i]:=by simp [List.getD,hix]
   rw [hx] at m0 m1 m2 m3 m4 m5
   have hR1:=kids_step hix
   have hRL:rs.length=i:=by rw [HRi.out,List.length_map,List.length_take];omega
   have hK1:1<=i->_:=fun h=> keys_step h hix
   obtain⟨x,hxx⟩: ∃x,x=xs[i]:=⟨_,rfl⟩
   rw [<-hxx] at m0 m1 m2 m3 m4 m5 hR1 hK1
   have HRS1:Hid ((xs.take (i+1)).map (·.1)=rs++ [x.1]):=hi_ (by rw [hR1,<-HRi.out])
   have HRL:=hi_ hRL
   have HRL2:Hid (((xs.take (i+1)).map (·.1)).length=i+1):=hi_ (by rw [List.length_map,List.length_take];omega)
   have HKS:=hi_ hK1
   simp only [ptV] at m4
   obtain⟨pv,hpv⟩: ∃q,q=Option.map (fun b=> (⟨b,0,none⟩:Addr)) x.1.2:=⟨_,rfl⟩
   rw [<-hpv] at m4
   have HPV:=hi_ hpv
   clear hx hxx hR1 hRL hK1 hpv
   have hbx:=heap_alloc_new wr (.cells #[.int .i64 x.1.1.1,.int .i64 x.1.1.2.1,.int .i64 x.1.1.2.2.1,.string ⟨x.1.1.2.2.2.toArray⟩,.pointer pv,.string ⟨x.2.toArray⟩] 184)
   have hEx:Ext [] wr (wr.alloc (.cells #[.int .i64 x.1.1.1,.int .i64 x.1.1.2.1,.int .i64 x.1.1.2.2.1,.string ⟨x.1.1.2.2.2.toArray⟩,.pointer pv,.string ⟨x.2.toArray⟩] 184)):=(Ext.refl [] wr).alloc _
   have HNx:=hi_ (HN.out.ext0 hEx)
   have HEx:=hi_ (HE.out.trans hEx)
   have HBX:=hi_ hbx
   obtain⟨bx,hbxe⟩: ∃b,b=wr.heap.size:=⟨_,rfl⟩
   clear hbx hEx HN HE
   by_cases h0:i=0
   ·have y0: ¬((0:Int) < (i:Int)):=by omega
    have HK1:Hid (ks=((xs.take (i+1)).drop 1).map (·.2)):=hi_ (by rw [HKi.out,h0];cases xs <;> simp)
    clear h0
    go_wp2_with fail
    rw [<-hbxe] at HBX
    try simp only [<-hbxe]
    clear hbxe
    revert HNx HEx HBX
    generalize World.alloc _ _=W3
    intro HNx HEx HBX
    have x0:W3.cell? ⟨bx,0,none⟩=some (.int .i64 x.1.1.1):=by rw [cell_of_row _ bx 0 _ _ _ HBX.out];rfl
    have x1:W3.cell? ⟨bx,1,none⟩=some (.int .i64 x.1.1.2.1):=by rw [cell_of_row _ bx 1 _ _ _ HBX.out];rfl
    have x2:W3.cell? ⟨bx,2,none⟩=some (.int .i64 x.1.1.2.2.1):=by rw [cell_of_row _ bx 2 _ _ _ HBX.out];rfl
    have x3:W3.cell? ⟨bx,3,none⟩=some (.string ⟨x.1.1.2.2.2.toArray⟩):=by rw [cell_of_row _ bx 3 _ _ _ HBX.out];rfl
    have x4:W3.cell? ⟨bx,4,none⟩=some (.pointer pv):=by rw [cell_of_row _ bx 4 _ _ _ HBX.out];rfl
    have x5:W3.cell? ⟨bx,5,none⟩=some (.string ⟨x.2.toArray⟩):=by rw [cell_of_row _ bx 5 _ _ _ HBX.out];rfl
    obtain⟨pp,cp,pk,ck,pr,cr, -, -, -,c3,hps,hks,hrs,hbb,hu1,hu2,hu3⟩:=(HNx).out.cells
    rw [HRL.out] at c3 hrs hbb hu3
    obtain⟨HPS,HKS,HRS,HBB,HU1,HU2,HU3⟩:=h_7 hps hks hrs hbb hu1 hu2 hu3
    have hbl9:bn < (W3).heap.size:=g_ hbb
    clear hps hks hrs hbb hu1 hu2 hu3
    go_wp2_with fail
    have hD:=(Ext.refl [] W3).drew
    refine e_ (fun W=> W.cell? ⟨bn,3,none⟩=some (.slice pr i cr)/\W.cell? ⟨bx,0,none⟩=some (.int .i64 x.1.1.1)/\W.cell? ⟨bx,1,none⟩=some (.int .i64 x.1.1.2.1)/\W.cell? ⟨bx,2,none⟩=some (.int .i64 x.1.1.2.2.1)/\W.cell? ⟨bx,3,none⟩=some (.string ⟨x.1.1.2.2.2.toArray⟩)/\W.cell? ⟨bx,4,none⟩=some (.pointer pv)) (fun i=> i==4 || i==6 || i==7) (by kernel_rfl) ⟨hD.cell c3 (by simp),hD.cell x0 (by simp),hD.cell x1 (by simp),hD.cell x2 (by simp),hD.cell x3 (by simp),hD.cell x4 (by simp)⟩ (fun hS=> ?_)
    refine PUq 0 ?_;(try go_frame)
    refine PUq 1 ?_;(try go_frame)
    refine PUq 2 ?_;(try go_frame)
    refine PUq 3 ?_;(try go_frame)
    refine PUq 5 ?_;(try go_frame)
    refine ta 4 ?_;(try go_frame)
    refine ta 6 ?_;(try go_frame)
    refine a_ (i:=7) (by kernel_rfl) rfl (fun K hK=> ?_)
    (try simp only [Act.put,zA,zB,zC,List.setIfInBounds_toArray,zD,zE]);refine iw rfl ?_
    go_simp
    have hE7:Ext [] W3 ((W3).alloc (.cells #[.int .i64 x.1.1.1,.int .i64 x.1.1.2.1,.int .i64 x.1.1.2.2.1,.string ⟨x.1.1.2.2.2.toArray⟩,.pointer pv] 89)).drew:=((Ext.refl [] W3).alloc _).drew
    have hrd7:=(fV_ (T:=89) W3 x.1).drew
    simp only [ptV] at hrd7
    rw [<-HPV.out] at hrd7
    refine hK.out _ _ (fun _=> ⟨hE7.cell c3 (by simp),hE7.cell x0 (by simp),hE7.cell x1 (by simp),hE7.cell x2 (by simp),hE7.cell x3 (by simp),hE7.cell x4 (by simp)⟩) (fun _=> ?_)
    obtain⟨HE7,HRD7⟩:=h_2 hE7 hrd7
    clear hK hS c3 x0 x1 x2 x3 x4 hE7 hrd7 hD
    revert HE7 HRD7
    generalize World.drew _=W7
    intro HE7 HRD7
    refine a_ (i:=8) (by kernel_rfl) rfl (fun K hK=> ?_)
    (try simp only [Act.put,zA,zB,zC,List.setIfInBounds_toArray,zD,zE]);refine iw rfl ?_
    refine b_ (s:= .tmp 32) (x:= .tmp 35) (E:=ERf) (T:=89) (zero:=R0) (bytes:=48) (v:= .slice pr i cr) (xs:=rs) (ys:= [x.1]) tiRf Tryz.underlying123 Tryz.underlying123 rfl rfl rfl (HRS.out.ext0 HE7.out) HRD7.out (by have:=HRL.out;simp;omega) (by have:=HRL.out;simp;omega) ?_
    intro v8 w8 how hext hnear _
    rw [<-HRS1.out] at how
    obtain⟨p8,c8,hv8,_⟩:=how.rd.len_eq
    rw [HRL2.out] at hv8
    subst hv8
    have hpb: ∀q∈blkL (.slice pr i cr),q≠bn:=HRS.out.ne HBB.out (by decide)
    have hb8:=hext.blk (HE7.out.blk HBB.out (by simp)) (fun hm=> hpb bn hm rfl)
    have hps8:=(HPS.out.ext0 HE7.out).apart (HRS.out.ext0 HE7.out) hext (by decide)
    have hks8:=(HKS.out.ext0 HE7.out).apart (HRS.out.ext0 HE7.out) hext (by decide)
    obtain⟨hE8,hu8⟩:=bY_ hext hnear (Nat.le_trans (Nat.le_of_lt hbl9) HE7.out.size) HU3.out wo HBN.out.symm ((HEx).out.trans HE7.out) (by simp)
    have hnode:=NodeU.setKids (Nat.le_refl bn) hb8 hps8 hks8 how HU1.out HU2.out hu8
    have HN8:=hi_ hnode
    have HE8:Hid (Ext [] wo (w8.setCell ⟨bn,3,none⟩ (.slice p8 (i+1) c8))):=hi_ (hE8.setCell (.inr (show wo.heap.size<=bn by have:=HBN.out;omega)) _)
    have hfz8: ∀q,w8.frozen? ⟨bn,q,none⟩=false:=fun q=> frozen_of_row _ _ _ _ _ hb8
    have c38:w8.cell? ⟨bn,3,none⟩=some (.slice pr i cr):=by rw [cell_of_row w8 bn 3 _ _ _ hb8];rfl
    refine nk hK ?_
    clear hK how hext hnear hpb hb8 hps8 hks8 hE8 hu8 hnode HE7 HRD7 HBB HPS HKS HRS HU1 HU2 HU3
    refine PUq 9 ?_;(try go_frame)
    refine PUq 10 ?_;(try go_frame)
    simp only [zA,zB,zC,zD,zE]
    refine a_ (i:=11) (by kernel_rfl) rfl (fun K hK=> ?_)
    refine iw rfl ?_
    go_simp
    refine nk hK ?_
    refine c_ (by kernel_rfl) ?_ _
    clear hK hfz8 c38
    revert HN8 HE8
    generalize World.setCell _ _ _=W9
    intro HN8 HE8
    go_wp2_with fail
    go_roundw
    case rel=> exact⟨i+1,_,_,by omega,by go_num,HK1,hi_ rfl,HN8,HE8⟩
    case measure=> simp [intOf];omega
   ·have y0:(0:Int) < (i:Int):=by omega
    have HK1:Hid (((xs.take (i+1)).drop 1).map (·.2)=ks++ [x.2]):=hi_ (by rw [HKS.out (by omega),HKi.out])
    have HKL:Hid (ks.length=i - 1):=hi_ (by rw [HKi.out,List.length_map,List.length_drop,List.length_take];omega)
    have HKL2:Hid ((((xs.take (i+1)).drop 1).map (·.2)).length=i):=hi_ (by rw [List.length_map,List.length_drop,List.length_take];omega)
    have hi1:1<=i:=by omega
    clear h0
    go_wp2_with fail
    rw [<-hbxe] at HBX
    try simp only [<-hbxe]
    clear hbxe
    revert HNx HEx HBX
    generalize World.alloc _ _=W3
    intro HNx HEx HBX
    have x0:W3.cell? ⟨bx,0,none⟩=some (.int .i64 x.1.1.1):=by rw [cell_of_row _ bx 0 _ _ _ HBX.out];rfl
    have x1:W3.cell? ⟨bx,1,none⟩=some (.int .i64 x.1.1.2.1):=by rw [cell_of_row _ bx 1 _ _ _ HBX.out];rfl
    have x2:W3.cell? ⟨bx,2,none⟩=some (.int .i64 x.1.1.2.2.1):=by rw [cell_of_row _ bx 2 _ _ _ HBX.out];rfl
    have x3:W3.cell? ⟨bx,3,none⟩=some (.string ⟨x.1.1.2.2.2.toArray⟩):=by rw [cell_of_row _ bx 3 _ _ _ HBX.out];rfl
    have x4:W3.cell? ⟨bx,4,none⟩=some (.pointer pv):=by rw [cell_of_row _ bx 4 _ _ _ HBX.out];rfl
    have x5:W3.cell? ⟨bx,5,none⟩=some (.string ⟨x.2.toArray⟩):=by rw [cell_of_row _ bx 5 _ _ _ HBX.out];rfl
    obtain⟨pp,cp,pk,ck,pr,cr, -, -,c2, -,hps,hks,hrs,hbb,hu1,hu2,hu3⟩:=HNx.out.cells
    rw [HKL.out] at c2 hks hbb hu2
    obtain⟨HPS,HKS,HRS,HBB,HU1,HU2,HU3⟩:=h_7 hps hks hrs hbb hu1 hu2 hu3
    have hbl9:bn < W3.heap.size:=g_ hbb
    clear hps hks hrs hbb hu1 hu2 hu3
    have hD:=(Ext.refl [] W3).drew
    refine e_ (fun W=> W.cell? ⟨bn,2,none⟩=some (.slice pk (i - 1) ck)/\W.cell? ⟨bx,5,none⟩=some (.string ⟨x.2.toArray⟩)) (fun i=> i==4 || i==6 || i==7) (by kernel_rfl) ⟨hD.cell c2 (by simp),hD.cell x5 (by simp)⟩ (fun hS=> ?_)
    refine PUq 0 ?_;(try go_frame)
    refine PUq 1 ?_;(try go_frame)
    refine PUq 2 ?_;(try go_frame)
    refine PUq 3 ?_;(try go_frame)
    refine PUq 5 ?_;(try go_frame)
    refine ta 4 ?_;(try go_frame)
    refine ta 6 ?_;(try go_frame)
    refine a_ (i:=7) (by kernel_rfl) rfl (fun K hK=> ?_)
    (try simp only [Act.put,zA,zB,zC,List.setIfInBounds_toArray,zD,zE]);refine iw rfl ?_
    go_simp
    have hE7:Ext [] W3 (W3.alloc (.cells #[.string ⟨x.2.toArray⟩] 9)).drew:=((Ext.refl [] W3).alloc _).drew
    have hrd7:=(hz_ (T:=9) W3 x.2).drew
    refine hK.out _ _ (fun _=> ⟨hE7.cell c2 (by simp),hE7.cell x5 (by simp)⟩) (fun _=> ?_)
    obtain⟨HE7,HRD7⟩:=h_2 hE7 hrd7
    clear hK hS c2 x0 x1 x2 x3 x4 x5 hE7 hrd7 hD
    revert HE7 HRD7
    generalize World.drew _=W7
    intro HE7 HRD7
    refine a_ (i:=8) (by kernel_rfl) rfl (fun K hK=> ?_)
    (try simp only [Act.put,zA,zB,zC,List.setIfInBounds_toArray,zD,zE]);refine iw rfl ?_
    refine b_ (s:= .tmp 21) (x:= .tmp 24) (E:=EKy) (T:=9) (zero:= []) (bytes:=16) (v:= .slice pk (i - 1) ck) (xs:=ks) (ys:= [x.2]) tiKy Tryz.underlying122 Tryz.underlying122 rfl rfl rfl (HKS.out.ext0 HE7.out) HRD7.out (by have:=HKL.out;simp;omega) (by have:=HKL.out;simp;omega) ?_
    intro v8 w8 how hext hnear _
    rw [<-HK1.out] at how
    obtain⟨p8,c8,hv8,_⟩:=how.rd.len_eq
    rw [HKL2.out] at hv8
    subst hv8
    have hpb: ∀q∈blkL (.slice pk (i - 1) ck),q≠bn:=HKS.out.ne HBB.out (by decide)
    have hb8:=hext.blk (HE7.out.blk HBB.out (by simp)) (fun hm=> hpb bn hm rfl)
    have hbx8:=hext.blk (HE7.out.blk HBX.out (by simp)) (fun hm=> (HKS.out.ext0 HE7.out).ne (HE7.out.blk HBX.out (by simp)) (by decide) bx hm rfl)
    have hps8:=(HPS.out.ext0 HE7.out).apart (HKS.out.ext0 HE7.out) hext (by decide)
    have hrs8:=(HRS.out.ext0 HE7.out).apart (HKS.out.ext0 HE7.out) hext (by decide)
    obtain⟨hE8,hu8⟩:=bY_ hext hnear (Nat.le_trans (Nat.le_of_lt hbl9) HE7.out.size) HU2.out wo HBN.out.symm (HEx.out.trans HE7.out) (by simp)
    have hnode:=NodeU.setKeys (Nat.le_refl bn) hb8 hps8 how hrs8 HU1.out hu8 HU3.out
    have HN6:=hi_ hnode
    have HE6:Hid (Ext [] wo (w8.setCell ⟨bn,2,none⟩ (.slice p8 i c8))):=hi_ (hE8.setCell (.inr (show wo.heap.size<=bn by have:=HBN.out;omega)) _)
    have hbn8:bx≠bn:=fun e=> by
     have h1:=d_ hbx8
     rw [e,d_ hb8] at h1
     cases h1
    have HBX6:Hid ((w8.setCell ⟨bn,2,none⟩ (.slice p8 i c8)).heap[bx]? =some (.cells #[.int .i64 x.1.1.1,.int .i64 x.1.1.2.1,.int .i64 x.1.1.2.2.1,.string ⟨x.1.1.2.2.2.toArray⟩,.pointer pv,.string ⟨x.2.toArray⟩] 184 (0,0))):=hi_ (((Ext.refl [bn] w8).setCell (.inl (by simp)) _).blk hbx8 (by simpa using hbn8))
    have hfz8: ∀q,w8.frozen? ⟨bn,q,none⟩=false:=fun q=> frozen_of_row _ _ _ _ _ hb8
    have c28:w8.cell? ⟨bn,2,none⟩=some (.slice pk (i - 1) ck):=by rw [cell_of_row w8 bn 2 _ _ _ hb8];rfl
    refine nk hK ?_
    clear hK how hext hnear hpb hb8 hbx8 hbn8 hps8 hrs8 hE8 hu8 hnode HE7 HRD7 HBB HPS HKS HRS HU1 HU2 HU3 HNx HEx HBX hbl9
    refine PUq 9 ?_;(try go_frame)
    refine PUq 10 ?_;(try go_frame)
    simp only [zA,zB,zC,zD,zE]
    refine a_ (i:=11) (by kernel_rfl) rfl (fun K hK=> ?_)
    refine iw rfl ?_
    go_simp
    refine nk hK ?_
    refine c_ (by kernel_rfl) ?_ _
    clear hK hfz8 c28
    revert HN6 HE6 HBX6
    generalize World.setCell _ _ _=W6
    intro HN6 HE6 HBX6
    have x0:W6.cell? ⟨bx,0,none⟩=some (.int .i64 x.1.1.1):=by rw [cell_of_row _ bx 0 _ _ _ HBX6.out];rfl
    have x1:W6.cell? ⟨bx,1,none⟩=some (.int .i64 x.1.1.2.1):=by rw [cell_of_row _ bx 1 _ _ _ HBX6.out];rfl
    have x2:W6.cell? ⟨bx,2,none⟩=some (.int .i64 x.1.1.2.2.1):=by rw [cell_of_row _ bx 2 _ _ _ HBX6.out];rfl
    have x3:W6.cell? ⟨bx,3,none⟩=some (.string ⟨x.1.1.2.2.2.toArray⟩):=by rw [cell_of_row _ bx 3 _ _ _ HBX6.out];rfl
    have x4:W6.cell? ⟨bx,4,none⟩=some (.pointer pv):=by rw [cell_of_row _ bx 4 _ _ _ HBX6.out];rfl
    obtain⟨pp,cp,pk,ck,pr,cr, -, -, -,c3,hps,hks,hrs,hbb,hu1,hu2,hu3⟩:=(HN6).out.cells
    rw [HRL.out] at c3 hrs hbb hu3
    obtain⟨HPS,HKS,HRS,HBB,HU1,HU2,HU3⟩:=h_7 hps hks hrs hbb hu1 hu2 hu3
    have hbl9:bn < (W6).heap.size:=g_ hbb
    clear hps hks hrs hbb hu1 hu2 hu3
    go_wp2_with fail
    have hD:=(Ext.refl [] W6).drew
    refine e_ (fun W=> W.cell? ⟨bn,3,none⟩=some (.slice pr i cr)/\W.cell? ⟨bx,0,none⟩=some (.int .i64 x.1.1.1)/\W.cell? ⟨bx,1,none⟩=some (.int .i64 x.1.1.2.1)/\W.cell? ⟨bx,2,none⟩=some (.int .i64 x.1.1.2.2.1)/\W.cell? ⟨bx,3,none⟩=some (.string ⟨x.1.1.2.2.2.toArray⟩)/\W.cell? ⟨bx,4,none⟩=some (.pointer pv)) (fun i=> i==4 || i==6 || i==7) (by kernel_rfl) ⟨hD.cell c3 (by simp),hD.cell x0 (by simp),hD.cell x1 (by simp),hD.cell x2 (by simp),hD.cell x3 (by simp),hD.cell x4 (by simp)⟩ (fun hS=> ?_)
    refine PUq 0 ?_;(try go_frame)
    refine PUq 1 ?_;(try go_frame)
    refine PUq 2 ?_;(try go_frame)
    refine PUq 3 ?_;(try go_frame)
    refine PUq 5 ?_;(try go_frame)
    refine ta 4 ?_;(try go_frame)
    refine ta 6 ?_;(try go_frame)
    refine a_ (i:=7) (by kernel_rfl) rfl (fun K hK=> ?_)
    (try simp only [Act.put,zA,zB,zC,List.setIfInBounds_toArray,zD,zE]);refine iw rfl ?_
    go_simp
    have hE7:Ext [] W6 ((W6).alloc (.cells #[.int .i64 x.1.1.1,.int .i64 x.1.1.2.1,.int .i64 x.1.1.2.2.1,.string ⟨x.1.1.2.2.2.toArray⟩,.pointer pv] 89)).drew:=((Ext.refl [] W6).alloc _).drew
    have hrd7:=(fV_ (T:=89) W6 x.1).drew
    simp only [ptV] at hrd7
    rw [<-HPV.out] at hrd7
    refine hK.out _ _ (fun _=> ⟨hE7.cell c3 (by simp),hE7.cell x0 (by simp),hE7.cell x1 (by simp),hE7.cell x2 (by simp),hE7.cell x3 (by simp),hE7.cell x4 (by simp)⟩) (fun _=> ?_)
    obtain⟨HE7,HRD7⟩:=h_2 hE7 hrd7
    clear hK hS c3 x0 x1 x2 x3 x4 hE7 hrd7 hD
    revert HE7 HRD7
    generalize World.drew _=W7
    intro HE7 HRD7
    refine a_ (i:=8) (by kernel_rfl) rfl (fun K hK=> ?_)
    (try simp only [Act.put,zA,zB,zC,List.setIfInBounds_toArray,zD,zE]);refine iw rfl ?_
    refine b_ (s:= .tmp 32) (x:= .tmp 35) (E:=ERf) (T:=89) (zero:=R0) (bytes:=48) (v:= .slice pr i cr) (xs:=rs) (ys:= [x.1]) tiRf Tryz.underlying123 Tryz.underlying123 rfl rfl rfl (HRS.out.ext0 HE7.out) HRD7.out (by have:=HRL.out;simp;omega) (by have:=HRL.out;simp;omega) ?_
    intro v8 w8 how hext hnear _
    rw [<-HRS1.out] at how
    obtain⟨p8,c8,hv8,_⟩:=how.rd.len_eq
    rw [HRL2.out] at hv8
    subst hv8
    have hpb: ∀q∈blkL (.slice pr i cr),q≠bn:=HRS.out.ne HBB.out (by decide)
    have hb8:=hext.blk (HE7.out.blk HBB.out (by simp)) (fun hm=> hpb bn hm rfl)
    have hps8:=(HPS.out.ext0 HE7.out).apart (HRS.out.ext0 HE7.out) hext (by decide)
    have hks8:=(HKS.out.ext0 HE7.out).apart (HRS.out.ext0 HE7.out) hext (by decide)
    obtain⟨hE8,hu8⟩:=bY_ hext hnear (Nat.le_trans (Nat.le_of_lt hbl9) HE7.out.size) HU3.out wo HBN.out.symm ((HE6).out.trans HE7.out) (by simp)
    have hnode:=NodeU.setKids (Nat.le_refl bn) hb8 hps8 hks8 how HU1.out HU2.out hu8
    have HN8:=hi_ hnode
    have HE8:Hid (Ext [] wo (w8.setCell ⟨bn,3,none⟩ (.slice p8 (i+1) c8))):=hi_ (hE8.setCell (.inr (show wo.heap.size<=bn by have:=HBN.out;omega)) _)
    have hfz8: ∀q,w8.frozen? ⟨bn,q,none⟩=false:=fun q=> frozen_of_row _ _ _ _ _ hb8
    have c38:w8.cell? ⟨bn,3,none⟩=some (.slice pr i cr):=by rw [cell_of_row w8 bn 3 _ _ _ hb8];rfl
    refine nk hK ?_
    clear hK how hext hnear hpb hb8 hps8 hks8 hE8 hu8 hnode HE7 HRD7 HBB HPS HKS HRS HU1 HU2 HU3
    refine PUq 9 ?_;(try go_frame)
    refine PUq 10 ?_;(try go_frame)
    simp only [zA,zB,zC,zD,zE]
    refine a_ (i:=11) (by kernel_rfl) rfl (fun K hK=> ?_)
    refine iw rfl ?_
    go_simp
    refine nk hK ?_
    refine c_ (by kernel_rfl) ?_ _
    clear hK hfz8 c38
    revert HN8 HE8
    generalize World.setCell _ _ _=W9
    intro HN8 HE8
    go_wp2_with fail
    go_roundw
    case rel=> exact⟨i+1,_,_,by omega,by go_num,hi_ rfl,hi_ rfl,HN8,HE8⟩
    case measure=> simp [intOf];omega
  ·have y1: ¬((i:Int) < (M:Int)):=by omega
   have hiM:i=M:=by omega
   have e1:xs.take i=xs:=List.take_of_length_le (by rw [<-HM.out];omega)
   have hn:=HN.out.node
   rw [HKi.out,HRi.out,e1,<-HKF.out,<-HRF.out] at hn
   have HND:=hi_ hn
   clear hn e1
   go_wp2
   go_ret
   exact⟨bn,rfl,HND.out,HWO.out.trans HE.out⟩
theorem do_ (n:Nat):n_ n ([]:List (Pc n))=([],[]):=by rw [n_]
theorem bC_ (x:Pc n):n_ n [x]=([x],[]):=by rw [n_]
theorem bK_ {x y:Pc n} (r:List (Pc n)) (h1:x.2.1.isSome=true) (h2:y.2.1.isSome=true):n_ n (x::y::r)=(x::(n_ n (y::r)).1,(n_ n (y::r)).2):=by
 rw [n_]
 simp only [h1,h2,Bool.and_self,if_true]
theorem bf_ {x y:Pc n} (r:List (Pc n)) (h: ¬szF n (s_ n x.2.2 y.1 y.2.2)<=1024):n_ n (x::y::r)=(x::(n_ n (y::r)).1,(n_ n (y::r)).2):=by
 rw [n_]
 split <;> first | rfl | (rw [if_neg h])
theorem aS_ {x y:Pc n} (r:List (Pc n)) (h0: ¬(x.2.1.isSome=true/\y.2.1.isSome=true)) (h:szF n (s_ n x.2.2 y.1 y.2.2)<=1024):
  n_ n (x::y::r)=((n_ n ((x.1,none,s_ n x.2.2 y.1 y.2.2)::r)).1,x.2.1.toList++y.2.1.toList++(n_ n ((x.1,none,s_ n x.2.2 y.1 y.2.2)::r)).2):=by
 rw [n_]
 rw [if_neg (by simpa using h0),if_pos h]
structure TInv (n:Nat) (ps:List (Pc n)) (i:Nat) (cur:List (Pc n)) (G:List Ptr4):Prop where
 le:i<=cur.length
 eq:n_ n ps=(cur.take i++(n_ n (cur.drop i)).1,G++(n_ n (cur.drop i)).2)
theorem TInv.start (n:Nat) (ps:List (Pc n)):TInv n ps 0 ps []:=⟨Nat.zero_le _,by simp⟩
theorem drop2 {α:Type} {l:List α} {x y:α} (hx:l[i]? =some x) (hy:l[i+1]? =some y):l.drop i=x::y::l.drop (i+2):=by
 obtain⟨h1,e1⟩:=List.getElem?_eq_some_iff.1 hx
 obtain⟨h2,e2⟩:=List.getElem?_eq_some_iff.1 hy
 rw [List.drop_eq_getElem_cons h1,List.drop_eq_getElem_cons h2,e1,e2]
theorem TInv.skip {ps cur:List (Pc n)} {G:List Ptr4} {x y:Pc n} (h:TInv n ps i cur G) (hx:cur[i]? =some x) (hy:cur[i+1]? =some y) (hc:(x.2.1.isSome=true/\y.2.1.isSome=true)\/ ¬szF n (s_ n x.2.2 y.1 y.2.2)<=1024):TInv n ps (i+1) cur G:=by
 have hd:=drop2 hx hy
 have hd1:cur.drop (i+1)=y::cur.drop (i+2):=by
  obtain⟨h2,e2⟩:=List.getElem?_eq_some_iff.1 hy
  rw [List.drop_eq_getElem_cons h2,e2]
 have ht:cur.take (i+1)=cur.take i++ [x]:=by rw [List.take_add_one,hx];rfl
 have h0:=h.eq
 refine⟨by have:=(List.getElem?_eq_some_iff.1 hy).1;omega, ?_⟩
 rw [h0,ht,hd1,hd]
 rcases hc with hc | hc
 ·rw [bK_ _ hc.1 hc.2];simp
 ·rw [bf_ _ hc];simp
theorem TInv.join {ps cur:List (Pc n)} {G:List Ptr4} {x y:Pc n} (h:TInv n ps i cur G) (hx:cur[i]? =some x) (hy:cur[i+1]? =some y) (h0: ¬(x.2.1.isSome=true/\y.2.1.isSome=true)) (hc:szF n (s_ n x.2.2 y.1 y.2.2)<=1024):
  TInv n ps i (cur.take i++ [(x.1,none,s_ n x.2.2 y.1 y.2.2)]++cur.drop (i+2)) (G++(x.2.1.toList++y.2.1.toList)):=by
 have hd:=drop2 hx hy
 have hl:=(List.getElem?_eq_some_iff.1 hy).1
 have hti:(cur.take i).length=i:=by rw [List.length_take];omega
 refine⟨by simp;omega, ?_⟩
 rw [h.eq,hd,aS_ _ h0 hc]
 have e1:(cur.take i++ [(x.1,none,s_ n x.2.2 y.1 y.2.2)]++cur.drop (i+2)).take i=cur.take i:=by
  rw [List.append_assoc,List.take_append_of_le_length (by omega),List.take_take,Nat.min_self]
 have e2:(cur.take i++ [(x.1,none,s_ n x.2.2 y.1 y.2.2)]++cur.drop (i+2)).drop i=(x.1,none,s_ n x.2.2 y.1 y.2.2)::cur.drop (i+2):=by
  rw [List.append_assoc,List.drop_append_of_le_length (by omega),List.drop_of_length_le (by omega)]
  rfl
 rw [e1,e2]
 simp [List.append_assoc]
theorem TInv.done {ps cur:List (Pc n)} {G:List Ptr4} (h:TInv n ps i cur G) (hi:cur.length<=i+1):n_ n ps=(cur,G):=by
 rw [h.eq]
 have hs:=List.take_append_drop i cur
 cases hd:cur.drop i with
 | nil=> rw [do_];rw [hd,List.append_nil] at hs;simp [hs]
 | cons a r=>
  have hl:(cur.drop i).length<=1:=by rw [List.length_drop];omega
  rw [hd] at hl
  have hl2:r.length=0:=by rw [List.length_cons] at hl;omega
  obtain rfl:r= []:=List.eq_nil_of_length_eq_zero hl2
  rw [bC_]
  rw [hd] at hs
  simp [hs]
theorem bM_ (v u:Value) (xs:List Pcm) (y:Pcm) (i:Nat) (w:World) (hv:EPc.Ow 184 w v xs) (hu:EPc.Ow 184 w u [y]) (hne: ∀b∈blkL u,b∉blkL v) (hi:i+2<=xs.length) (hl:xs.length<=100000):
  Calls Tryz.prog 134 #[v,.int .i64 i,.int .i64 (i+2:Nat),u] w (z_ EPc 184 v (xs.take i++ [y]++xs.drop (i+2)) w):=by
 rcases hv with ⟨rfl,rfl⟩ | ⟨g,q,cap,l,rfl,h1,h2,h3,h4⟩
 ·simp at hi
 ·by_cases hj:i+2=xs.length
  ·exact eK_ g q cap l u xs [y] i (i+2) w h1 h2 h3 h4 hu (fun b hb=> by have:=hne b hb;simpa [blkL] using this) (by omega) hi (by simp;omega) hj
  ·exact eJ_ g q cap l u xs [y] i (i+2) w h1 h2 h3 h4 hu (fun b hb=> by have:=hne b hb;simpa [blkL] using this) (by omega) hi (by simp;omega) hj (by simp;omega) (by simp)
theorem gR_ (l:List Itm):2*l.length<=(encL l).length:=by
 induction l with
 | nil=> simp
 | cons a l ih=>
  rw [q_,List.length_append,List.length_cons]
  have h:2<=(encI a).length:=by
   cases a with
   | num k=> have:=(x_ (2*k) (2*k) (Nat.lt_of_lt_of_le (Nat.lt_two_pow_self) (Nat.le_trans (Nat.pow_le_pow_right (by omega) (Nat.le_succ _)) (Nat.pow_le_pow_left (by omega) _)))).1;simp [encI];omega
   | txt s=> have:=(x_ s.length s.length (Nat.lt_of_lt_of_le (Nat.lt_two_pow_self) (Nat.le_trans (Nat.pow_le_pow_right (by omega) (Nat.le_succ _)) (Nat.pow_le_pow_left (by omega) _)))).1;simp [encI];omega
  omega
theorem gc_ (t:List Pr):(V_ t).length=1+2*t.length:=by
 simp only [V_,List.length_cons]
 rw [aw_ (fun p:Pr=> Itm.txt p.1) (fun p=> Itm.txt p.2) t];omega
theorem items1_ln (t:List (Pc n)):2*t.length<=(G_ t).length:=by
 simp only [G_,List.length_cons,List.length_drop]
 rw [aw_ (fun k:Pc n=> Itm.txt k.1) (fun k=> Itm.txt (kidB k)) t];omega
theorem S_ {t:List (El n)} (h:szF n t<=1024):t.length<=256:=by
 cases n with
 | zero=>
  have h1:=gR_ (V_ t)
  have h2:(encL (V_ t)).length<=1024:=h
  have h3:=gc_ t
  have h4:List.length (α:=Pr) t=t.length:=rfl
  omega
 | succ n=>
  have h1:=gR_ (G_ (n:=n) t)
  have h2:(encL (G_ (n:=n) t)).length<=1024:=h
  have h3:=items1_ln (n:=n) t
  have h4:List.length (α:=Pc n) t=t.length:=rfl
  omega
structure GoodPc (L:List Blk) (n:Nat) (k:Pc n):Prop where
 dk:DskK L n k.2
 good:GoodT n k.2.2
 ne:k.2.2≠ []
 sz:szF n k.2.2<=1024
 key:k.1.length<=24
theorem fu_ {t:List (Pc n)} {x:Pc n} (h:x∈j_ key t):(∃z∈t,x=(key,z.2))\/x∈t:=by
 cases t with
 | nil=> exact .inr h
 | cons a r=>
  rcases List.mem_cons.1 h with rfl | h
  ·exact .inl ⟨a,by simp,rfl⟩
  ·exact .inr (List.mem_cons_of_mem _ h)
theorem GoodT.join {s t:List (El n)} (h:GoodT n s) (k:GoodT n t) (hk:key.length<=24) (h1:s.length<=256) (h2:t.length<=256):GoodT n (s_ n s key t):=by
 have hl:(s_ n s key t).length<=900:=by rw [s_,List.length_append,gw_];omega
 cases n with
 | zero=>
  refine⟨hl,fun p hp=> ?_⟩
  have hp':p∈HAppend.hAppend (α:=List Pr) (β:=List Pr) (γ:=List Pr) s t:=hp
  rcases List.mem_append.1 hp' with h3 | h3
  ·exact h.2 p h3
  ·exact k.2 p h3
 | succ n=>
  refine⟨hl,fun p hp=> ?_⟩
  have hp':p∈HAppend.hAppend (α:=List (Pc n)) (β:=List (Pc n)) (γ:=List (Pc n)) s (j_ key t):=by
   rw [<-cM_ (n:=n) key t];exact hp
  rcases List.mem_append.1 hp' with h3 | h3
  ·exact h.2 p h3
  ·rcases fu_ h3 with ⟨z,hz,rfl⟩ | h3
   ·exact⟨hk,(k.2 z hz).2⟩
   ·exact k.2 p h3
theorem hD_ {s t:List (El n)} (h:s≠ []):s_ n s key t≠ []:=by
 rw [s_];simp [h]
theorem GoodPc.join {x z:Pc n} (h:GoodPc L n x) (k:GoodPc L n z) (hs:szF n (s_ n x.2.2 z.1 z.2.2)<=1024):GoodPc L n (x.1,none,s_ n x.2.2 z.1 z.2.2):=
 ⟨fun q hq=> (by cases hq),h.good.join k.good k.key (S_ h.sz) (S_ k.sz),hD_ h.ne,hs,h.key⟩
structure TidS (y:Sy) (v v':Sv) (L:List Blk) (cb:Nat) (gs:List Ptr4) (n:Nat) (lv:Value) (xs:List Pcm) (cur:List (Pc n)) (w0 w:World):Prop where
 cs:CS y v' L cb gs w
 ow:EPc.Ow 184 w lv xs
 pcs:PcsR (NodeR w n) xs cur
 same:SameV v v'
 cf:CF y cb w0 w
theorem TidS.step {v v' v2:Sv} {gs gs2:List Ptr4} {lv:Value} {xs:List Pcm} {cur:List (Pc n)} {w0 w w2:World} (h:TidS y v v' L cb gs n lv xs cur w0 w) (hc:CS y v2 L cb gs2 w2) (hs:SameV v' v2) (hf:CF y cb w w2):TidS y v v2 L cb gs2 n lv xs cur w0 w2:=by
 obtain⟨S,h1,h2⟩:=hf.noNode h.cs.sy
 exact⟨hc,h.ow.ext h1 (fun g hg hm=> h2 g hm _ (by decide) (h.ow.tagOf g hg)),h.pcs.mono (fun b t hn=> NodeR.cf h.cs.sy hf _ b t hn),h.same.trans hs,h.cf.trans hf⟩
theorem TidS.ext0 {lv:Value} {xs:List Pcm} {cur:List (Pc n)} {w0 w w2:World} (h:TidS y v v' L cb gs n lv xs cur w0 w) (he:Ext [] w w2):TidS y v v' L cb gs n lv xs cur w0 w2:=
 h.step (h.cs.ext0 he) (SameV.refl _) (CF.of0 he)
end Go.Proofs.YtkpgjkekmdecbaaGreat
