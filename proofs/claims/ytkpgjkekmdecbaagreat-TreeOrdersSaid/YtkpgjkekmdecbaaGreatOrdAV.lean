/- Lemmas for the claim. No conditions beside those that each states. -/
import Derived.Test.YtkpgjkekmdecbaaGreatOrdAU
import Derived.Test.YtkpgjkekmdecbaaGreatOrdAP
import Derived.Test.YtkpgjkekmdecbaaGreatOrdAM
set_option maxRecDepth 100000
set_option maxHeartbeats 8000000
set_option linter.all false

namespace Go.Proofs.YtkpgjkekmdecbaaGreat
open Go.RowKit
variable {w w':World} {n i cb:Nat} {l:List Pr} {f:List Pr -> Except Int (List Pr)} {y:Sy} {v:Sv} {L:List Blk} {r:Root}
def Sp2 {n:Nat} (x y:Pc n):Prop:=(∀p∈prs n x.2.2,p.1 < y.1)/\(∀p∈prs n y.2.2,¬p.1 < y.1)
def SpW {n:Nat} (l:List (Pc n)):Prop:=l.Pairwise Sp2
def NdT (L:List Blk):(n:Nat)->List (El n)->Prop
 | 0,t=> (t:List Pr)≠ []/\szF 0 t<=1024/\SrtK t/\ ∀p∈(t:List Pr),bd_ p
 | n+1,t=> (t:List (Pc n))≠ []/\szF (n+1) t<=1024/\SpW (n:=n) t/\ ∀k∈(t:List (Pc n)),k.1.length<=24/\DskK L n k.2/\NdT L n k.2.2
structure PcOk (L:List Blk) (n:Nat) (k:Pc n):Prop where
 key:k.1.length<=24
 dk:DskK L n k.2
 nd:NdT L n k.2.2
structure PcsOk (L:List Blk) (n:Nat) (l:List (Pc n)):Prop where
 sp:SpW l
 all: ∀k∈l,PcOk L n k
def NbT (L:List Blk):(n:Nat)->List (El n)->Prop
 | 0,t=> SrtK t/\ ∀p∈(t:List Pr),bd_ p
 | n+1,t=> PcsOk L n t
theorem NdT.sz {t:List (El n)} (h:NdT L n t):szF n t<=1024:=by
 cases n with
 | zero=> exact h.2.1
 | succ n=> exact h.2.1
theorem NdT.nil {t:List (El n)} (h:NdT L n t):t≠ []:=by
 cases n with
 | zero=> exact h.1
 | succ n=> exact h.1
theorem NdT.nb {t:List (El n)} (h:NdT L n t):NbT L n t:=by
 cases n with
 | zero=> exact h.2.2
 | succ n=> exact⟨h.2.2.1,fun k hk=> ⟨(h.2.2.2 k hk).1,(h.2.2.2 k hk).2.1,(h.2.2.2 k hk).2.2⟩⟩
theorem NbT.nd {t:List (El n)} (h:NbT L n t) (h0:t≠ []) (hs:szF n t<=1024):NdT L n t:=by
 cases n with
 | zero=> exact⟨h0,hs,h⟩
 | succ n=> exact⟨h0,hs,h.sp,fun k hk=> ⟨(h.all k hk).key,(h.all k hk).dk,(h.all k hk).nd⟩⟩
theorem NdT.kid {t:List (Pc n)} (h:NdT L (n+1) t) {k:Pc n} (hk:k∈t):PcOk L n k:=h.nb.all k hk
theorem prsP_ne {t:List (Pc n)} (h0:t≠ []) (h: ∀k∈t,prs n k.2.2≠ []):prsP t≠ []:=by
 cases t with
 | nil=> exact absurd rfl h0
 | cons k r=>
  intro e
  rw [u_] at e
  exact h k (by simp) (List.append_eq_nil_iff.1 e).1
theorem NdT.ne:{L:List Blk}->{n:Nat}->{t:List (El n)}->NdT L n t->prs n t≠ []
 | _,0,_,h=> h.1
 | _,n+1,t,h=> prsP_ne (n:=n) (t:=t) h.1 (fun k hk=> NdT.ne (h.2.2.2 k hk).2.2)
theorem NdT.good:{L:List Blk}->{n:Nat}->{t:List (El n)}->NdT L n t->GoodT n t
 | _,0,t,h=> ⟨by have:=S_ h.sz;show t.length<=900;omega,h.2.2.2⟩
 | _,n+1,t,h=> ⟨by have:=S_ h.sz;show t.length<=900;omega,fun k hk=> ⟨(h.2.2.2 k hk).1,fun q hq=> ((h.2.2.2 k hk).2.1 q hq).2.2.1,NdT.good (h.2.2.2 k hk).2.2⟩⟩
theorem NbT.good {t:List (El n)} (h:NbT L n t) (hl:t.length<=900):GoodT n t:=by
 cases n with
 | zero=> exact⟨hl,h.2⟩
 | succ n=> exact⟨hl,fun k hk=> ⟨(h.all k hk).key,fun q hq=> ((h.all k hk).dk q hq).2.2.1,(h.all k hk).nd.good⟩⟩
theorem PcOk.good {k:Pc n} (h:PcOk L n k):GoodPc L n k:=⟨h.dk,h.nd.good,h.nd.nil,h.nd.sz,h.key⟩
theorem NdT.dsk:{L:List Blk}->{n:Nat}->{t:List (El n)}->NdT L n t->DskT L n t
 | _,0,_,_=> trivial
 | _,_+1,_,h=> fun k hk=> ⟨(h.2.2.2 k hk).2.1,NdT.dsk (h.2.2.2 k hk).2.2⟩
theorem NdT.neT:{L:List Blk}->{n:Nat}->{t:List (El n)}->NdT L n t->NeT n t
 | _,0,_,h=> h.1
 | _,_+1,_,h=> ⟨h.1,fun k hk=> NdT.neT (h.2.2.2 k hk).2.2⟩
theorem ne_ex (h:l≠ []): ∃p,p∈l:=by
 cases l with
 | nil=> exact absurd rfl h
 | cons a r=> exact⟨a,by simp⟩
theorem Sp2.key {x y z:Pc n} (h:Sp2 x y) (k:Sp2 y z) (hy:prs n y.2.2≠ []):y.1 < z.1:=by
 obtain⟨p,hp⟩:=ne_ex hy
 exact bP_ (h.2 p hp) (k.1 p hp)
theorem SpW.keys {t:List (Pc n)} (h:SpW t) (hn: ∀k∈t,prs n k.2.2≠ []):SrtS (o_ t):=by
 cases t with
 | nil=> exact List.Pairwise.nil
 | cons a r=>
  obtain⟨h1,h2⟩:=List.pairwise_cons.1 h
  show ((r:List (Pc n)).map (fun e=> e.1)).Pairwise _
  rw [List.pairwise_map]
  exact h2.imp_of_mem (fun {x y} hx hy hxy=> (h1 x hx).key hxy (hn x (List.mem_cons_of_mem _ hx)))
theorem SpW.sep {t:List (Pc n)} (h:SpW t):SepL t:=by
 have h':=List.pairwise_iff_getElem.1 h
 refine⟨fun i j x y hij hx hy=> ?_,fun i x hi hx=> ?_⟩
 ·obtain⟨h1,rfl⟩:=List.getElem?_eq_some_iff.1 hx
  obtain⟨h2,rfl⟩:=List.getElem?_eq_some_iff.1 hy
  exact(h' i j h1 h2 hij).1
 ·obtain⟨h1,rfl⟩:=List.getElem?_eq_some_iff.1 hx
  exact(h' 0 i (by omega) h1 hi).2
theorem NdT.wf:{L:List Blk}->{n:Nat}->{t:List (El n)}->NdT L n t->WfT n t
 | _,0,_,h=> h.2.2.1
 | _,_+1,_,h=> ⟨SpW.keys h.2.2.1 (fun k hk=> (h.2.2.2 k hk).2.2.ne),SpW.sep h.2.2.1,fun k hk=> NdT.wf (h.2.2.2 k hk).2.2⟩
theorem SpW.app {A r:List (Pc n)} {b:Pc n} (hA:SpW A) (hB:SpW (b::r)) (hne:prs n b.2.2≠ []) (h1: ∀p∈prsP A,p.1 < b.1) (h2:A≠ []-> ∀p∈prs n b.2.2,¬p.1 < b.1):SpW (A++b::r):=by
 refine List.pairwise_append.2 ⟨hA,hB,fun x hx y hy=> ?_⟩
 have hA0:A≠ []:=fun e=> by rw [e] at hx;cases hx
 have hpx: ∀p∈prs n x.2.2,p.1 < b.1:=fun p hp=> h1 p (bu_.2 ⟨x,hx,hp⟩)
 rcases List.mem_cons.1 hy with rfl | hy
 ·exact⟨hpx,h2 hA0⟩
 ·have hb:=(List.pairwise_cons.1 hB).1 y hy
  obtain⟨q,hq⟩:=ne_ex hne
  have hby:b.1 < y.1:=bP_ (h2 hA0 q hq) (hb.1 q hq)
  exact⟨fun p hp=> T_ (hpx p hp) hby,hb.2⟩
theorem SpW.head {a:Pc n} {r:List (Pc n)} (h:SpW (a::r)) (k:Ky):SpW ((k,a.2)::r):=by
 obtain⟨h1,h2⟩:=List.pairwise_cons.1 h
 exact List.pairwise_cons.2 ⟨h1,h2⟩
theorem PcsOk.head {a:Pc n} {r:List (Pc n)} (h:PcsOk L n (a::r)) {k:Ky} (hk:k.length<=24):PcsOk L n ((k,a.2)::r):=by
 refine⟨h.sp.head k,fun x hx=> ?_⟩
 rcases List.mem_cons.1 hx with rfl | hx
 ·have:=h.all a (by simp)
  exact⟨hk,this.dk,this.nd⟩
 ·exact h.all x (List.mem_cons_of_mem _ hx)
theorem PcsOk.withKey {l:List (Pc n)} (h:PcsOk L n l) {k:Ky} (hk:k.length<=24):PcsOk L n (j_ k l):=by
 cases l with
 | nil=> exact h
 | cons a r=> exact h.head hk
theorem ap_ (k:Ky) (l:List (Pc n)):prsP (j_ k l)=prsP l:=by cases l <;> rfl
theorem dI_ (k:Ky) (l:List (Pc n)):bkP (j_ k l)=bkP l:=by cases l <;> rfl
theorem PcsOk.sub {l m:List (Pc n)} (h:PcsOk L n l) (hs:m.Sublist l):PcsOk L n m:=⟨List.Pairwise.sublist hs h.sp,fun k hk=> h.all k (hs.subset hk)⟩
theorem PcsOk.nil (L:List Blk) (n:Nat):PcsOk L n []:=⟨List.Pairwise.nil,fun _ h=> by cases h⟩
theorem PcsOk.one {x:Pc n} (h:PcOk L n x):PcsOk L n [x]:=⟨List.pairwise_singleton _ _,fun k hk=> by rw [List.mem_singleton.1 hk];exact h⟩
theorem PcsOk.app {A r:List (Pc n)} {b:Pc n} (hA:PcsOk L n A) (hB:PcsOk L n (b::r)) (h1: ∀p∈prsP A,p.1 < b.1) (h2:A≠ []-> ∀p∈prs n b.2.2,¬p.1 < b.1):PcsOk L n (A++b::r):=
 ⟨hA.sp.app hB.sp (hB.all b (by simp)).nd.ne h1 h2,fun k hk=> (List.mem_append.1 hk).elim (hA.all k) (hB.all k)⟩
theorem NbT.take {t:List (El n)} (h:NbT L n t) (i:Nat):NbT L n (t.take i):=by
 cases n with
 | zero=> exact⟨List.Pairwise.sublist (List.take_sublist i (t:List Pr)) h.1,fun p hp=> h.2 p (List.mem_of_mem_take hp)⟩
 | succ n=> exact PcsOk.sub (l:=t) h (List.take_sublist i _)
theorem NbT.drop {t:List (El n)} (h:NbT L n t) (i:Nat):NbT L n (t.drop i):=by
 cases n with
 | zero=> exact⟨List.Pairwise.sublist (List.drop_sublist i (t:List Pr)) h.1,fun p hp=> h.2 p (List.mem_of_mem_drop hp)⟩
 | succ n=> exact PcsOk.sub (l:=t) h (List.drop_sublist i _)
theorem PcsOk.cut {A r:List (Pc n)} {b:Pc n} (h:PcsOk L n (A++b::r)):(∀p∈prsP A,p.1 < b.1)/\(A≠ []-> ∀p∈prsP (b::r),¬p.1 < b.1)/\(∀y∈r,∀p∈prs n b.2.2,p.1 < y.1):=by
 obtain⟨h1,h2,h3⟩:=List.pairwise_append.1 h.sp
 obtain⟨h4,h5⟩:=List.pairwise_cons.1 h2
 refine⟨fun p hp=> ?_,fun hA p hp=> ?_,fun y hy=> (h4 y hy).1⟩
 ·obtain⟨x,hx,hp⟩:=bu_.1 hp
  exact(h3 x hx b (by simp)).1 p hp
 ·have ha: ∃a,a∈A:=by
   cases A with
   | nil=> exact absurd rfl hA
   | cons a _=> exact⟨a,by simp⟩
  obtain⟨a,ha⟩:=ha
  have hb:=(h3 a ha b (by simp)).2
  rw [u_] at hp
  rcases List.mem_append.1 hp with hp | hp
  ·exact hb p hp
  ·obtain⟨x,hx,hp⟩:=bu_.1 hp
   obtain⟨q,hq⟩:=ne_ex (h.all b (by simp)).nd.ne
   have hbx:b.1 < x.1:=bP_ (hb q hq) ((h4 x hx).1 q hq)
   exact fun hlt=> (h4 x hx).2 p hp (T_ hlt hbx)
theorem SrtK.cut {t:List Pr} (h:SrtK t) (hg: ∀p∈t,bd_ p) (hi:i < t.length):(∀p∈t.take i,p.1 < bV_ (n:=0) t i)/\(∀p∈t.drop i,¬p.1 < bV_ (n:=0) t i)/\(bV_ (n:=0) t i).length<=24:=by
 have hk:bV_ (n:=0) t i=(t[i]).1:=by
  show ((t[i]?).elim [] (fun e:Pr=> e.1))=_
  rw [List.getElem?_eq_getElem hi];rfl
 rw [hk]
 have hs:=List.pairwise_iff_getElem.1 h
 refine⟨fun p hp=> ?_,fun p hp=> ?_,(hg _ (List.getElem_mem hi)).2.1⟩
 ·obtain⟨j,hj,rfl⟩:=List.mem_iff_getElem.1 hp
  rw [List.length_take] at hj
  rw [List.getElem_take]
  exact hs j i (by omega) hi (by omega)
 ·obtain⟨j,hj,rfl⟩:=List.mem_iff_getElem.1 hp
  rw [List.length_drop] at hj
  rw [List.getElem_drop]
  by_cases h0:j=0
  ·subst h0;exact al_ _
  ·exact bQ_ (hs i (i+j) hi (by omega) (by omega))
theorem PcsOk.cutAt {t:List (Pc n)} (h:PcsOk L n t) (hi:i < t.length) (h1:1<=i):(∀p∈prsP (t.take i),p.1 < y_ t i)/\(∀p∈prsP (t.drop i),¬p.1 < y_ t i)/\(y_ t i).length<=24:=by
 have e:t=t.take i++t[i]::t.drop (i+1):=by rw [<-List.drop_eq_getElem_cons hi,List.take_append_drop]
 have hk:y_ t i=(t[i]).1:=by rw [y_,List.getElem?_eq_getElem hi];rfl
 have hc:=PcsOk.cut (e ▸ h:PcsOk L n (t.take i++t[i]::t.drop (i+1)))
 rw [hk]
 refine⟨hc.1,fun p hp=> ?_,(h.all _ (List.getElem_mem hi)).key⟩
 rw [List.drop_eq_getElem_cons hi] at hp
 exact hc.2.1 (fun e=> by have:=congrArg List.length e;rw [List.length_take,List.length_nil] at this;omega) p hp
theorem NbT.cut {t:List (El n)} (h:NbT L n t) (hi:i < t.length) (h1:1<=i):(∀p∈prs n (t.take i),p.1 < bV_ t i)/\(∀p∈prs n (t.drop i),¬p.1 < bV_ t i)/\(bV_ t i).length<=24:=by
 cases n with
 | zero=> exact SrtK.cut (t:=t) h.1 h.2 hi
 | succ n=> exact PcsOk.cutAt (t:=t) h hi h1
theorem srtP {l:List (Pc n)} (hs:SpW l) (h: ∀k∈l,SrtK (prs n k.2.2)/\ ∀p∈prs n k.2.2,bd_ p):SrtK (prsP l)/\ ∀p∈prsP l,bd_ p:=by
 induction l with
 | nil=> exact⟨List.Pairwise.nil,fun p hp=> by cases hp⟩
 | cons a r ih=>
  obtain⟨h1,h2⟩:=List.pairwise_cons.1 hs
  obtain⟨i1,i2⟩:=ih h2 (fun k hk=> h k (List.mem_cons_of_mem _ hk))
  obtain⟨a1,a2⟩:=h a (by simp)
  rw [u_]
  refine⟨List.pairwise_append.2 ⟨a1,i1,fun p hp q hq=> ?_⟩,fun p hp=> (List.mem_append.1 hp).elim (a2 p) (i2 p)⟩
  obtain⟨y,hy,hq⟩:=bu_.1 hq
  exact cn_ ((h1 y hy).1 p hp) ((h1 y hy).2 q hq)
theorem NdT.srt:{L:List Blk}->{n:Nat}->{t:List (El n)}->NdT L n t->SrtK (prs n t)/\ ∀p∈prs n t,bd_ p
 | _,0,_,h=> h.2.2
 | _,_+1,t,h=> srtP (l:=t) h.2.2.1 (fun k hk=> NdT.srt (h.2.2.2 k hk).2.2)
structure PcsOf (L:List Blk) (n:Nat) (t:List (El n)) (key:Ky) (l:List (Pc n)):Prop where
 ok:PcsOk L n l
 pr:prsP l=prs n t
 bk:bkP l=bkT n t
 new: ∀x∈l,x.2.1=none
 head:t≠ []-> ∃x r,l=x::r/\x.1=key
theorem take_ne {α:Type} {t:List α} (h1:1<=i) (h:i < t.length):t.take i≠ []:=fun e=> by
 have:=congrArg List.length e;rw [List.length_take,List.length_nil] at this;omega
theorem drop_ne {α:Type} {t:List α} (h:i < t.length):t.drop i≠ []:=fun e=> by
 have:=congrArg List.length e;rw [List.length_drop,List.length_nil] at this;omega
theorem av_: ∀(m:Nat) (t:List (El n)) (key:Ky),t.length<=m->NbT L n t->t.length<=900->key.length<=24->PcsOf L n t key (i_ n t key)
 | m,t,key,hm,h,hl,hk=> by
  by_cases h0:t= []
  ·subst h0
   rw [X_]
   exact⟨PcsOk.nil L n,by rw [prs_nil];rfl,by rw [bkT_nil];rfl,fun x hx=> (by cases hx),fun h=> absurd rfl h⟩
  by_cases hs:szF n t<=1024
  ·rw [K_ key h0 hs]
   refine⟨PcsOk.one ⟨hk,fun q hq=> (by cases hq),h.nd h0 hs⟩, ?_, ?_, ?_,fun _=> ⟨_,_,rfl,rfl⟩⟩
   ·rw [u_,ck_,List.append_nil]
   ·rw [aR_];simp [bkP]
   ·intro x hx;rw [List.mem_singleton.1 hx]
  ·have h2:2<=t.length:=by
    rcases Nat.lt_or_ge t.length 2 with h1 | h1
    ·have h3:=List.length_pos_iff.2 h0
     exact absurd (GoodT.one (h.good hl) (by omega)) hs
    ·exact h1
   obtain⟨c1,c2⟩:=cu_ n t.length h2
   rw [bt_ key h2 hs]
   obtain⟨i,hi⟩: ∃i,i=cutI n t.length:=⟨_,rfl⟩
   rw [<-hi] at c1 c2 ⊢
   obtain⟨k1,k2,k3⟩:=h.cut c2 c1
   have hta:(t.take i).length < t.length:=by rw [List.length_take];omega
   have htd:(t.drop i).length < t.length:=by rw [List.length_drop];omega
   match m,hm with
   | 0,hm=> omega
   | m+1,hm=>
   have ha:=av_ m (t.take i) key (by omega) (h.take i) (by omega) hk
   have hb:=av_ m (t.drop i) (bV_ t i) (by omega) (h.drop i) (by omega) k3
   obtain⟨x,r,hx,hx1⟩:=hb.head (drop_ne c2)
   have hprA:=ha.pr
   have hbpr:=hb.pr
   refine⟨?_,by rw [ad_,ha.pr,hb.pr,<-ee_,List.take_append_drop],by rw [bT_,ha.bk,hb.bk,<-er_,List.take_append_drop],fun y hy=> (List.mem_append.1 hy).elim (ha.new y) (hb.new y),fun _=> ?_⟩
   ·have hbo:=hb.ok
    rw [hx] at hbo hbpr ⊢
    refine ha.ok.app hbo (fun p hp=> ?_) (fun _ p hp=> ?_)
    ·rw [hprA] at hp;rw [hx1];exact k1 p hp
    ·rw [hx1]
     refine k2 p ?_
     rw [<-hbpr,u_]
     exact List.mem_append_left _ hp
   ·obtain⟨z,r',hz,hz1⟩:=ha.head (take_ne c1 c2)
    exact⟨z,r'++i_ n (t.drop i) (bV_ t i),by rw [hz];rfl,hz1⟩
theorem em_ (A B:List (Pc n)) (k:Ky):s_ (n+1) A k B=(A++j_ k B:List (Pc n)):=by cases B <;> rfl
theorem PcsOk.joinP {A B:List (Pc n)} {key:Ky} (hA:PcsOk L n A) (hB:PcsOk L n B) (hne:B≠ []) (hk:key.length<=24) (h1: ∀p∈prsP A,p.1 < key) (h2: ∀p∈prsP B,¬p.1 < key):PcsOk L n (A++j_ key B):=by
 cases B with
 | nil=> exact absurd rfl hne
 | cons b r=> exact hA.app (hB.head hk) h1 (fun _ p hp=> h2 p (by rw [u_];exact List.mem_append_left _ hp))
theorem NbT.join {x y:Pc n} (hx:PcOk L n x) (hy:PcOk L n y) (h:Sp2 x y):NbT L n (s_ n x.2.2 y.1 y.2.2):=by
 cases n with
 | zero=>
  show SrtK (HAppend.hAppend (α:=List Pr) (β:=List Pr) (γ:=List Pr) x.2.2 y.2.2)/\ ∀p∈HAppend.hAppend (α:=List Pr) (β:=List Pr) (γ:=List Pr) x.2.2 y.2.2,bd_ p
  refine⟨List.pairwise_append.2 ⟨hx.nd.2.2.1,hy.nd.2.2.1,fun p hp q hq=> cn_ (h.1 p hp) (h.2 q hq)⟩,fun p hp=> ?_⟩
  exact(List.mem_append.1 hp).elim (hx.nd.2.2.2 p) (hy.nd.2.2.2 p)
 | succ n=>
  have e:=em_ (n:=n) x.2.2 y.2.2 y.1
  show PcsOk L n (s_ (n+1) x.2.2 y.1 y.2.2)
  rw [e]
  exact PcsOk.joinP (A:=x.2.2) (B:=y.2.2) hx.nd.nb hy.nd.nb hy.nd.nil hy.key h.1 h.2
structure TidyOk (L:List Blk) (n:Nat) (l:List (Pc n)):Prop where
 ok:PcsOk L n (n_ n l).1
 pr:prsP (n_ n l).1=prsP l
 bk:(bkP (n_ n l).1++(n_ n l).2).Perm (bkP l)
 head:(n_ n l).1.head?.map (fun x=> x.1)=l.head?.map (fun x=> x.1)
 len:(n_ n l).1.length<=l.length
theorem TidyOk.keep {x y:Pc n} {r:List (Pc n)} (h:PcsOk L n (x::y::r)) (ih:TidyOk L n (y::r)) (he:n_ n (x::y::r)=(x::(n_ n (y::r)).1,(n_ n (y::r)).2)):TidyOk L n (x::y::r):=by
 have h1:=(List.pairwise_cons.1 h.sp).1
 refine⟨?_, ?_, ?_,by rw [he];rfl,by rw [he];have:=ih.len;simp only [List.length_cons] at this ⊢;omega⟩
 ·rw [he]
  have hh:=ih.head
  have hp:=ih.pr
  have ho:=ih.ok
  cases hT:(n_ n (y::r)).1 with
  | nil=> rw [hT] at hh;simp at hh
  | cons b r'=>
   rw [hT] at hh hp ho
   simp only [List.head?_cons,Option.map_some,Option.some.injEq] at hh
   refine(PcsOk.one (h.all x (by simp))).app ho (fun p hp2=> ?_) (fun _ p hp2=> ?_)
   ·rw [u_,ck_,List.append_nil] at hp2
    rw [hh]
    exact(h1 y (by simp)).1 p hp2
   ·rw [hh]
    have hp3:p∈prsP (y::r):=by rw [<-hp,u_];exact List.mem_append_left _ hp2
    exact(PcsOk.cut (A:= [x]) (b:=y) (r:=r) h).2.1 (by simp) p hp3
 ·rw [he,u_,ih.pr,<-u_]
 ·rw [he]
  show (bkP (x::(n_ n (y::r)).1)++(n_ n (y::r)).2).Perm _
  rw [aR_,aR_,List.append_assoc]
  exact List.Perm.append_left _ ih.bk
theorem bs_: ∀(m:Nat) (l:List (Pc n)),l.length<=m->PcsOk L n l->TidyOk L n l
 | m,[],_,h=> by
  have e:=do_ n
  exact⟨by rw [e];exact h,by rw [e],by rw [e];exact .refl _,by rw [e],by rw [e];exact Nat.le_refl _⟩
 | m,[x],_,h=> by
  have e:=bC_ x
  exact⟨by rw [e];exact h,by rw [e],by rw [e];simp,by rw [e],by rw [e];exact Nat.le_refl _⟩
 | 0,_::_::_,hm,_=> by simp at hm
 | m+1,x::y::r,hm,h=> by
  have hsub:PcsOk L n (y::r):=h.sub (List.sublist_cons_self _ _)
  have hm':r.length+1<=m:=by simp only [List.length_cons] at hm;omega
  by_cases h1:x.2.1.isSome=true/\y.2.1.isSome=true
  ·exact TidyOk.keep h (bs_ m _ (by simpa using hm') hsub) (bK_ r h1.1 h1.2)
  by_cases h2:szF n (s_ n x.2.2 y.1 y.2.2)<=1024
  ·have e:=aS_ r h1 h2
   have hx:=h.all x (by simp)
   have hy:=h.all y (by simp)
   obtain⟨s1,s2⟩:=List.pairwise_cons.1 h.sp
   obtain⟨s3,s4⟩:=List.pairwise_cons.1 s2
   have hxy:=s1 y (by simp)
   have hj:=(NbT.join hx hy hxy).nd (hD_ hx.nd.nil) h2
   have hj':PcOk L n (x.1,none,s_ n x.2.2 y.1 y.2.2):=⟨hx.key,fun q hq=> (by cases hq),hj⟩
   have hok:PcsOk L n ((x.1,none,s_ n x.2.2 y.1 y.2.2)::r):=by
    refine⟨List.pairwise_cons.2 ⟨fun z hz=> ⟨fun p hp=> ?_,(s3 z hz).2⟩,s4⟩,fun k hk=> ?_⟩
    ·have hp':p∈prs n (s_ n x.2.2 y.1 y.2.2):=hp
     rw [co_] at hp'
     rcases List.mem_append.1 hp' with hp' | hp'
     ·exact(s1 z (List.mem_cons_of_mem _ hz)).1 p hp'
     ·exact(s3 z hz).1 p hp'
    ·rcases List.mem_cons.1 hk with rfl | hk
     ·exact hj'
     ·exact h.all k (List.mem_cons_of_mem _ (List.mem_cons_of_mem _ hk))
   have ih:=bs_ m _ (by simpa using hm') hok
   refine⟨by rw [e];exact ih.ok, ?_, ?_,by rw [e];exact ih.head,by rw [e];have:=ih.len;simp only [List.length_cons] at this ⊢;omega⟩
   ·rw [e]
    show prsP (n_ n ((x.1,none,s_ n x.2.2 y.1 y.2.2)::r)).1=_
    rw [ih.pr,u_,u_,u_,<-List.append_assoc]
    congr 1
    exact co_ n _ _ _
   ·rw [e]
    have hb:=ih.bk
    rw [aR_] at hb
    simp only [Option.toList_none,List.nil_append,joinF_bkT] at hb
    rw [aR_,aR_]
    rw [List.perm_iff_count] at hb ⊢
    intro a
    have:=hb a
    simp only [List.count_append] at this ⊢
    omega
  ·exact TidyOk.keep h (bs_ m _ (by simpa using hm') hsub) (bf_ r h2)
theorem aF_ (t:List (Pc n)) (i:Nat):y_ (j_ [] t) i=if i=0 then [] else y_ t i:=by
 cases t with
 | nil=> simp [j_,y_]
 | cons a r=>
  cases i with
  | zero=> simp [j_,y_]
  | succ i=> simp [j_,y_]
theorem bq_ (k:Ky) (t:List (Pc n)) (i:Nat):(j_ k t).take i=j_ k (t.take i):=by
 cases t with
 | nil=> simp [j_]
 | cons a r=>
  cases i with
  | zero=> simp [j_]
  | succ i=> simp [j_]
theorem el_ {t:List (Pc n)} (hi:i < t.length):y_ t i=t[i].1:=by
 rw [y_,List.getElem?_eq_getElem hi];rfl
theorem splitI {α:Type} {t:List α} (hi:i < t.length):t=t.take i++t[i]::t.drop (i+1):=by rw [<-List.drop_eq_getElem_cons hi,List.take_append_drop]
theorem hn_ {α:Type} {t:List α} {k:α} (hk:t[i]? =some k):t=t.take i++k::t.drop (i+1):=by
 obtain⟨hi,rfl⟩:=List.getElem?_eq_some_iff.1 hk
 exact splitI hi
theorem PcsOk.cutK {t:List (Pc n)} {k:Pc n} (h:PcsOk L n t) (hk:t[i]? =some k):(∀p∈prsP (t.take i),p.1 < k.1)/\(t.take i≠ []-> ∀p∈prs n k.2.2,¬p.1 < k.1)/\(∀y∈t.drop (i+1),∀p∈prs n k.2.2,p.1 < y.1):=by
 have e:=hn_ hk
 rw [e] at h
 have hc:=PcsOk.cut h
 exact⟨hc.1,fun hne p hp=> hc.2.1 hne p (by rw [u_];exact List.mem_append_left _ hp),hc.2.2⟩
theorem dz_ {t:List (Pc n)} (key:Ky) (h0:2<=t.length) (h: ¬szF (n+1) t<=1024):
  i_ (n+1) t key=i_ (n+1) (List.take (α:=Pc n) (t.length / 2) t) key++i_ (n+1) (List.drop (α:=Pc n) (t.length / 2) t) (y_ t (t.length / 2)):=by
 have e:=bt_ (n:=n+1) (t:=t) key h0 h
 have hi:cutI (n+1) (List.length (α:=El (n+1)) t)=t.length / 2:=by rw [cutI,if_neg (by omega)];rfl
 rw [hi] at e
 exact e
theorem all_ok {t sub:List (Pc n)} (h:PcsOk L n t) (hi:i < t.length) (hs:PcsOk L n sub) (hlo:0 < i-> ∀p∈prsP sub,¬p.1 < y_ t i) (hhi: ∀y∈t.drop (i+1),∀p∈prsP sub,p.1 < y.1):
  PcsOk L n (allF t i sub)/\prsP (allF t i sub)=prsP (t.take i)++prsP sub++prsP (t.drop (i+1))/\bkP (allF t i sub)=bkP (t.take i)++bkP sub++bkP (t.drop (i+1)):=by
 have hA:PcsOk L n (j_ [] (t.take i)):=(h.sub (List.take_sublist i t)).withKey (by simp)
 have hB:PcsOk L n (t.drop (i+1)):=h.sub (List.drop_sublist _ t)
 have hk:(y_ (j_ [] t) i).length<=24:=by
  rw [aF_]
  split
  ·simp
  ·rw [el_ hi];exact(h.all _ (List.getElem_mem hi)).key
 have hS:=hs.withKey hk
 have hcut:=h.cutK (List.getElem?_eq_getElem hi)
 refine⟨?_,by rw [allF,ad_,ad_,bq_,ap_,ap_],by rw [allF,bT_,bT_,bq_,dI_,dI_]⟩
 rw [allF,bq_]
 -- the second part behind the first
 have hAS:PcsOk L n (j_ [] (t.take i)++j_ (y_ (j_ [] t) i) sub):=by
  cases sub with
  | nil=> simpa [j_] using hA
  | cons b r=>
   refine hA.app hS (fun p hp=> ?_) (fun hne p hp=> ?_)
   ·rw [ap_] at hp
    have hi0:i≠0:=fun e=> by subst e;simp [prsP] at hp
    show p.1 < y_ (j_ [] t) i
    rw [aF_,if_neg hi0,el_ hi]
    exact hcut.1 p hp
   ·have hi0:i≠0:=fun e=> by subst e;simp [j_] at hne
    show¬p.1 < y_ (j_ [] t) i
    rw [aF_,if_neg hi0]
    refine hlo (by omega) p ?_
    rw [u_]
    exact List.mem_append_left _ hp
 cases hd:t.drop (i+1) with
 | nil=> simpa using hAS
 | cons b r=>
  rw [hd] at hB
  refine hAS.app hB (fun p hp=> ?_) (fun _ p hp=> ?_)
  ·rw [ad_,ap_,ap_] at hp
   rcases List.mem_append.1 hp with hp | hp
   ·-- ahead of the kid: below its key, which is below the next one's
    have h1:=hcut.1 p hp
    obtain⟨q,hq⟩:=ne_ex (h.all _ (List.getElem_mem hi)).nd.ne
    have hne:t.take i≠ []:=fun e=> by rw [e] at hp;cases hp
    have h2:=hcut.2.1 hne q hq
    have h3:=hcut.2.2 b (by rw [hd];simp) q hq
    exact T_ h1 (bP_ h2 h3)
   ·exact hhi b (by rw [hd];simp) p hp
  ·have hsp:=h.sp
   rw [splitI hi] at hsp
   have h2:=List.pairwise_append.1 hsp
   have h3:=(List.pairwise_cons.1 h2.2.1).1 b (by rw [hd];simp)
   exact h3.2 p hp
structure EdF (key:Ky) (f:List Pr->Except Int (List Pr)):Prop where
 loc: ∀A M B:List Pr,(∀p∈A,p.1 < key)->(∀p∈B,key < p.1)->f (A++M++B)=(f M).map (fun l=> A++l++B)
 ok: ∀l l',SrtK l->(∀p∈l,bd_ p)->f l= .ok l'->SrtK l'/\(∀p∈l',bd_ p)/\(∀p∈l',p∈l\/p.1=key)/\l'.length<=l.length+1
theorem aO_ (s:Ky) (h:s.length < 128):(encI (.txt s)).length=s.length+2:=by
 simp [encI,w_ h]
theorem gh_ (t:List (Pc n)) (h: ∀k∈t,k.1.length<=24/\(kidB k).length<=50):(encL (t.flatMap (fun k=> [Itm.txt k.1,Itm.txt (kidB k)]))).length<=78*t.length:=by
 induction t with
 | nil=> simp [encL]
 | cons a r ih=>
  obtain⟨h1,h2⟩:=h a (by simp)
  have ih:=ih (fun k hk=> h k (List.mem_cons_of_mem _ hk))
  rw [List.flatMap_cons,bw_,List.length_append,q_,q_,List.length_append,List.length_append,aO_ _ (by omega),aO_ _ (by omega),List.length_cons]
  simp only [encL,List.map_nil,List.flatten_nil,List.length_nil]
  simp only [encL] at ih
  omega
theorem iA_ (l:List Itm):(encL (l.drop 1)).length<=(encL l).length:=by
 cases l with
 | nil=> simp
 | cons a r=> rw [q_,List.length_append];simp
theorem fG_ {t:List (Pc n)} (h:PcsOk L n t):szF (n+1) t<=78*t.length+2:=by
 have h1:=gh_ t (fun k hk=> ⟨(h.all k hk).key,dc_ (fun q hq=> ((h.all k hk).dk q hq).2.2.1)⟩)
 have h2:=iA_ (t.flatMap (fun k=> [Itm.txt k.1,Itm.txt (kidB k)]))
 have e:szF (n+1) t=(encL (G_ t)).length:=rfl
 rw [e,G_,q_,List.length_append]
 have h3:(encI (.num 2)).length=2:=by simp [encI,w_]
 omega
theorem bi_: ∀(m:Nat) (t:List (Pc n)) (key:Ky),t.length<=m->PcsOk L n t->(i_ (n+1) t key).length<=1\/2*(i_ (n+1) t key).length<=t.length
 | m,t,key,hm,h=> by
  by_cases h0:t= []
  ·subst h0
   have e:=X_ (n+1) key
   exact .inl (by rw [show i_ (n+1) ([]:List (Pc n)) key= [] from e];simp)
  by_cases hs:szF (n+1) t<=1024
  ·have e:=K_ (n:=n+1) (t:=t) key h0 hs
   exact .inl (by rw [e];simp)
  ·have h2:4<=t.length:=by have:=fG_ h;omega
   have e:=dz_ (t:=t) key (by omega) hs
   match m,hm with
   | 0,hm=> omega
   | m+1,hm=>
   have ha:=bi_ m (t.take (t.length / 2)) key (by rw [List.length_take];omega) (h.sub (List.take_sublist _ _))
   have hb:=bi_ m (t.drop (t.length / 2)) (y_ t (t.length / 2)) (by rw [List.length_drop];omega) (h.sub (List.drop_sublist _ _))
   rw [List.length_take] at ha
   rw [List.length_drop] at hb
   refine .inr ?_
   rw [e,List.length_append]
   omega
structure EditOk (L:List Blk) (n:Nat) (r:Rf n) (l':List Pr) (sub:List (Pc n)) (g:List Ptr4):Prop where
 ok:PcsOk L n sub
 pr:prsP sub=l'
 bk:(bkP sub++g).Perm (bkR r)
 len:sub.length<=260
theorem bn_ (r:Rf 0) (key:Ky) (f:List Pr->Except Int (List Pr)):ay_ 0 r key f=(match f r.2 with | .error e=> .error e | .ok l=> .ok (i_ 0 l [],r.1.toList)):=rfl
theorem cI_ (r:Rf (n+1)) (key:Ky) (f:List Pr->Except Int (List Pr)) {k:Pc n} (hk:(r.2:List (Pc n))[kidF (n:=n) r.2 key]? =some k):
  ay_ (n+1) r key f=(match ay_ n k.2 key f with | .error e=> .error e | .ok (sub,g)=> .ok (i_ (n+1) (n_ n (allF (n:=n) r.2 (kidF (n:=n) r.2 key) sub)).1 [],r.1.toList++g++(n_ n (allF (n:=n) r.2 (kidF (n:=n) r.2 key) sub)).2)):=by
 rw [ay_]
 simp only [hk]
 rfl
theorem prs_at {t:List (Pc n)} {k:Pc n} (hk:t[i]? =some k):prsP t=prsP (t.take i)++prs n k.2.2++prsP (t.drop (i+1)):=by
 conv=> lhs;rw [hn_ hk]
 rw [ad_,u_,List.append_assoc]
theorem bk_at {t:List (Pc n)} {k:Pc n} (hk:t[i]? =some k):bkP t=bkP (t.take i)++bkR k.2++bkP (t.drop (i+1)):=by
 conv=> lhs;rw [hn_ hk]
 rw [bT_,aR_,bkR]
 simp only [List.append_assoc]
structure KidOk {n:Nat} (t:List (Pc n)) (key:Ky) (i:Nat):Prop where
 lt:i < t.length
 A: ∀p∈prsP (t.take i),p.1 < key
 B: ∀p∈prsP (t.drop (i+1)),key < p.1
 lo:0 < i-> ¬key < y_ t i
 hi: ∀y∈t.drop (i+1),key < y.1
theorem NdT.kidOk {t:List (Pc n)} (h:NdT L (n+1) t) (key:Ky):KidOk t key (kidF t key):=by
 have hnb:PcsOk L n t:=h.nb
 have hka:=kidAt (hnb.sp.keys (fun k hk=> (hnb.all k hk).nd.ne)) key (show t≠ [] from h.nil)
 rw [<-kidF_eq] at hka
 obtain⟨i,hi⟩: ∃i,i=kidF t key:=⟨_,rfl⟩
 rw [<-hi] at hka ⊢
 obtain⟨k,hk⟩: ∃k,t[i]? =some k:=⟨_,List.getElem?_eq_getElem hka.lt⟩
 have hcut:=hnb.cutK hk
 have hkk:y_ t i=k.1:=by rw [y_,hk];rfl
 have hlo:0 < i-> ¬key < k.1:=fun h0=> hka.lo i _ h0 (Nat.le_refl _) hk
 have hhi: ∀y∈t.drop (i+1),key < y.1:=fun y hy=> by
  obtain⟨j,hj⟩:=List.getElem?_of_mem hy
  rw [List.getElem?_drop] at hj
  exact hka.hi (i+1+j) y (by omega) hj
 refine⟨hka.lt,fun p hp=> ?_,fun p hp=> ?_,fun h0=> by rw [hkk];exact hlo h0,hhi⟩
 ·have h0:0 < i:=by
   rcases Nat.eq_zero_or_pos i with e | e
   ·rw [e] at hp;simp [prsP] at hp
   ·exact e
  exact cn_ (hcut.1 p hp) (hlo h0)
 ·obtain⟨y,hy,hp⟩:=bu_.1 hp
  have hsp:=hnb.sp
  rw [hn_ hk] at hsp
  have h1:=(List.pairwise_append.1 hsp).2.1
  have h2:=((List.pairwise_cons.1 h1).1 y hy).2 p hp
  exact cn_ (hhi y hy) h2
def EdLaw (L:List Blk) (key:Ky) (f:List Pr->Except Int (List Pr)) (n:Nat) (r:Rf n):Prop:=
 (∀e,f (prs n r.2)= .error e->ay_ n r key f= .error e)/\(∀l',f (prs n r.2)= .ok l'-> ∃sub g,ay_ n r key f= .ok (sub,g)/\EditOk L n r l' sub g)
theorem fi_ (t:List (Pc n)) (i:Nat) (sub:List (Pc n)) (hi:i < t.length):(allF t i sub).length+1=t.length+sub.length:=by
 rw [allF]
 simp only [List.length_append,List.length_take,List.length_drop,Q_]
 omega
theorem eX_ {key:Ky} (hf:EdF key f) {t:List (Pc n)} (h:NdT L (n+1) t) (hko:KidOk t key i) {k:Pc n} (hk:t[i]? =some k) {l2:List Pr} (hfk:f (prs n k.2.2)= .ok l2) {sub:List (Pc n)} {g:List Ptr4} (hok:EditOk L n k.2 l2 sub g):
  (PcsOk L n (allF t i sub)/\prsP (allF t i sub)=prsP (t.take i)++prsP sub++prsP (t.drop (i+1))/\bkP (allF t i sub)=bkP (t.take i)++bkP sub++bkP (t.drop (i+1)))/\(allF t i sub).length<=516:=by
 have hnb:PcsOk L n t:=h.nb
 have hpk:=hnb.all k (List.mem_of_getElem? hk)
 have hcut:=hnb.cutK hk
 have hkk:y_ t i=k.1:=by rw [y_,hk];rfl
 have hsrt:SrtK (prs n k.2.2)/\ ∀p∈prs n k.2.2,bd_ p:=hpk.nd.srt
 have hln:t.length<=256:=S_ h.sz
 obtain⟨-, -,hmem, -⟩:=hf.ok _ _ hsrt.1 hsrt.2 hfk
 refine⟨all_ok hnb hko.lt hok.ok (fun h0 p hp=> by
  rw [hok.pr] at hp
  rcases hmem p hp with hp | hp
  ·rw [hkk]
   exact hcut.2.1 (fun e=> by have:=congrArg List.length e;rw [List.length_take,List.length_nil] at this;have:=hko.lt;omega) p hp
  ·rw [hp];exact hko.lo h0) (fun y hy p hp=> by
  rw [hok.pr] at hp
  rcases hmem p hp with hp | hp
  ·exact hcut.2.2 y hy p hp
  ·rw [hp];exact hko.hi y hy), ?_⟩
 have h1:=hok.len
 have h2:=fi_ t i sub hko.lt
 omega
theorem edit_step {key:Ky} (hf:EdF key f) (o:Option Ptr4) (t:List (Pc n)) (h:NdT L (n+1) t) (ih: ∀k:Pc n,NdT L n k.2.2->EdLaw L key f n k.2):EdLaw L key f (n+1) (o,t):=by
 have hko:=h.kidOk key
 obtain⟨i,hi⟩: ∃i,i=kidF t key:=⟨_,rfl⟩
 have hie:=hi
 rw [<-hi] at hko
 have hnb:PcsOk L n t:=h.nb
 obtain⟨k,hk⟩: ∃k:Pc n,t[i]? =some k:=⟨_,List.getElem?_eq_getElem hko.lt⟩
 have hpk:=hnb.all k (List.mem_of_getElem? hk)
 obtain⟨ih1,ih2⟩:=ih k hpk.nd
 have hpr:prsP t=prsP (t.take i)++prs n k.2.2++prsP (t.drop (i+1)):=prs_at hk
 have hloc:=hf.loc _ (prs n k.2.2) _ hko.A hko.B
 rw [<-hpr] at hloc
 have hes:=cI_ (o,t) key f (k:=k) (by show t[kidF t key]? =some k;rw [<-hi];exact hk)
 have hes:ay_ (n+1) (o,t) key f=(match ay_ n k.2 key f with | .error e=> .error e | .ok (sub,g)=> .ok (i_ (n+1) (n_ n (allF t (kidF t key) sub)).1 [],o.toList++g++(n_ n (allF t (kidF t key) sub)).2)):=hes
 rw [<-hi] at hes
 have hln:t.length<=256:=S_ h.sz
 refine⟨fun e he=> ?_,fun l' hl=> ?_⟩
 ·have he:f (prsP t)= .error e:=he
  rw [hloc] at he
  cases hfk:f (prs n k.2.2) with
  | ok l2=> rw [hfk] at he;cases he
  | error e2=>
   rw [hfk] at he
   have e3:e2=e:=by simpa [Except.map] using he
   subst e3
   rw [hes,ih1 _ hfk]
 ·have hl:f (prsP t)= .ok l':=hl
  rw [hloc] at hl
  cases hfk:f (prs n k.2.2) with
  | error e2=> rw [hfk] at hl;cases hl
  | ok l2=>
   rw [hfk] at hl
   have e3:prsP (t.take i)++l2++prsP (t.drop (i+1))=l':=by simpa [Except.map] using hl
   obtain⟨sub,g,hed,hok⟩:=ih2 l2 hfk
   obtain⟨⟨ha1,ha2,ha3⟩,hal⟩:=eX_ hf h hko hk hfk hok
   have htd:=bs_ _ _ (Nat.le_refl _) ha1
   have htl:=htd.len
   have hp:=av_ (L:=L) (n:=n+1) _ (n_ n (allF t i sub)).1 [] (Nat.le_refl _) htd.ok (by show List.length (α:=Pc n) _<=900;omega) (by simp)
   have hpf:=bi_ (L:=L) (n:=n) _ (n_ n (allF t i sub)).1 [] (Nat.le_refl _) htd.ok
   refine⟨_,_,by rw [hes,hed],hp.ok, ?_, ?_, ?_⟩
   ·rw [hp.pr,hw_,htd.pr,ha2,hok.pr,e3]
   ·rw [hp.bk,hQ_]
    have h1:=htd.bk
    rw [ha3] at h1
    have h2:=hok.bk
    have h3:bkR (n:=n+1) (o,t)=o.toList++(bkP (t.take i)++bkR k.2++bkP (t.drop (i+1))):=by
     rw [bkR]
     show o.toList++bkP t=_
     rw [bk_at hk]
    rw [h3]
    rw [List.perm_iff_count] at h1 h2 ⊢
    intro a
    have:=h1 a
    have:=h2 a
    simp only [List.count_append] at*
    omega
   ·rcases hpf with h | h <;> omega
theorem cH_ {key:Ky} (hf:EdF key f): ∀(n:Nat) (r:Rf n),NdT L n r.2->EdLaw L key f n r
 | 0,r,h=> by
  refine⟨fun e he=> by rw [bn_];rw [show f r.2= .error e from he],fun l' hl=> ?_⟩
  have he:f r.2= .ok l':=hl
  obtain⟨h1,h2,h3,h4⟩:=hf.ok r.2 l' h.2.2.1 h.2.2.2 he
  have h5:=S_ h.sz
  have h6:List.length (α:=Pr) r.2=List.length (α:=El 0) r.2:=rfl
  have hp:=av_ (L:=L) (n:=0) l'.length l' [] (Nat.le_refl _) ⟨h1,h2⟩ (by show l'.length<=900;omega) (by simp)
  refine⟨_,_,by rw [bn_,he],hp.ok,hp.pr, ?_, ?_⟩
  ·rw [hp.bk]
   show (([]:List Ptr4)++r.1.toList).Perm (r.1.toList++ [])
   simp
  ·have:=aC_ (n:=0) l'.length l' [] (Nat.le_refl _)
   have h7:List.length (α:=El 0) l'=l'.length:=rfl
   omega
 | n+1,r,h=> edit_step hf r.1 r.2 h (fun k hk=> cH_ hf n k.2 hk)
def au_:Root->List Ptr4
 | none=> []
 | some ⟨_,r⟩=> bkR r
def RtOk (L:List Blk):Root->Prop
 | none=> True
 | some ⟨n,r⟩=> DskK L n r/\NdT L n r.2
def dN_ (L:List Blk) (n:Nat) (r:Rf n):Prop:=RtOk L (some (ae_ n r))/\p_ (some (ae_ n r))=prs n r.2/\au_ (some (ae_ n r))=bkR r
theorem aa_ (o:Option Ptr4) (t:List (Pc n)) (h:o.isSome=true\/2<=t.length\/t= []):ae_ (n+1) (o,t)=⟨n+1,(o,t)⟩:=by
 cases o with
 | some q=> rfl
 | none=>
  match t,h with
  | [],_=> rfl
  | [x],h=> simp at h
  | x::y::r,_=> rfl
theorem coll_step (o:Option Ptr4) (t:List (Pc n)) (h:DskK L (n+1) (o,t)) (k:NdT L (n+1) t) (ih: ∀x:Pc n,DskK L n x.2->NdT L n x.2.2->dN_ L n x.2):dN_ L (n+1) (o,t):=by
 have same:ae_ (n+1) (o,t)=⟨n+1,(o,t)⟩->dN_ L (n+1) (o,t):=fun e=> by
  rw [dN_,e]
  exact⟨⟨h,k⟩,rfl,rfl⟩
 cases o with
 | some q=> exact same (aa_ _ _ (.inl rfl))
 | none=>
  match t,h,k,same with
  | [],h,k,same=> exact absurd rfl k.nil
  | [x],h,k,same=>
   have hx:=k.kid (t:= [x]) (k:=x) (by simp)
   obtain⟨h1,h2,h3⟩:=ih x hx.dk hx.nd
   show RtOk L (some (ae_ n x.2))/\p_ (some (ae_ n x.2))=prsP [x]/\au_ (some (ae_ n x.2))= []++bkP [x]
   refine⟨h1, ?_, ?_⟩
   ·rw [h2,u_,ck_,List.append_nil]
   ·rw [h3,aR_]
    simp [bkP,bkR]
  | x::y::r,h,k,same=> exact same (aa_ _ _ (.inr (.inl (by simp))))
theorem coll_ok: ∀(n:Nat) (r:Rf n),DskK L n r->NdT L n r.2->dN_ L n r
 | 0,_,h,k=> ⟨⟨h,k⟩,rfl,rfl⟩
 | n+1,r,h,k=> coll_step r.1 r.2 h k (fun x hx hk=> coll_ok n x.2 hx hk)
structure GrowOk (L:List Blk) (n:Nat) (l:List (Pc n)) (r:Root) (g:List Ptr4):Prop where
 ok:RtOk L r
 pr:p_ r=prsP l
 bk:(au_ r++g).Perm (bkP l)
 none:r=none->l= []
theorem head_ok {l:List (Pc n)} (h:PcsOk L n l) (hl:l.length<=1):GrowOk L n l (gP_ l) []:=by
 cases l with
 | nil=> exact⟨trivial,rfl,.refl _,fun _=> rfl⟩
 | cons x r=>
  have hr:r= []:=List.eq_nil_of_length_eq_zero (by simp only [List.length_cons] at hl;omega)
  subst hr
  have hx:=h.all x (by simp)
  obtain⟨h1,h2,h3⟩:=coll_ok n x.2 hx.dk hx.nd
  refine⟨h1, ?_, ?_,fun e=> by cases e⟩
  ·show p_ (some (ae_ n x.2))=_
   rw [h2,u_,ck_,List.append_nil]
  ·show (au_ (some (ae_ n x.2))++ []).Perm _
   rw [h3,aR_]
   simp [bkP,bkR]
theorem aV_ (fuel:Nat) (l:List (Pc n)) (h:l.length<=1):O_ fuel n l=(gP_ l,[]):=by
 cases fuel with
 | zero=> rfl
 | succ f=> rw [O_,if_pos h]
theorem bR_ (fuel:Nat) (l:List (Pc n)) (h: ¬l.length<=1) (h1:(n_ n l).1.length<=1):O_ (fuel+1) n l=(gP_ (n_ n l).1,(n_ n l).2):=by
 rw [O_,if_neg h,if_pos h1]
theorem bS_ (fuel:Nat) (l:List (Pc n)) (h: ¬l.length<=1) (h1: ¬(n_ n l).1.length<=1):
  O_ (fuel+1) n l=((O_ fuel (n+1) (i_ (n+1) (n_ n l).1 [])).1,(n_ n l).2++(O_ fuel (n+1) (i_ (n+1) (n_ n l).1 [])).2):=by
 rw [O_,if_neg h,if_neg h1]
theorem dC_: ∀(fuel n:Nat) (l:List (Pc n)),PcsOk L n l->l.length<=fuel->l.length<=900->GrowOk L n l (O_ fuel n l).1 (O_ fuel n l).2
 | fuel,n,l,h,hf,h9=> by
  by_cases h1:l.length<=1
  ·rw [aV_ fuel l h1]
   exact head_ok h h1
  match fuel,hf with
  | 0,hf=> omega
  | fuel+1,hf=>
  have ht:=bs_ l.length l (Nat.le_refl _) h
  have htl:=ht.len
  have htn:(n_ n l).1= []->l= []:=fun e=> by
   have hh:=ht.head
   rw [e] at hh
   cases l with
   | nil=> rfl
   | cons a r=> simp at hh
  by_cases h2:(n_ n l).1.length<=1
  ·rw [bR_ fuel l h1 h2]
   have hh:=head_ok ht.ok h2
   refine⟨hh.ok,by rw [hh.pr,ht.pr], ?_,fun e=> htn (hh.none e)⟩
   have hb:=hh.bk
   rw [List.append_nil] at hb
   exact(hb.append_right _).trans ht.bk
  ·rw [bS_ fuel l h1 h2]
   have hp:=av_ (L:=L) (n:=n+1) _ (n_ n l).1 [] (Nat.le_refl _) ht.ok (by show List.length (α:=Pc n) _<=900;omega) (by simp)
   have hpf:=bi_ (L:=L) (n:=n) _ (n_ n l).1 [] (Nat.le_refl _) ht.ok
   have ih:=dC_ fuel (n+1) (i_ (n+1) (n_ n l).1 []) hp.ok (by rcases hpf with h | h <;> omega) (by rcases hpf with h | h <;> omega)
   refine⟨ih.ok,by rw [ih.pr,hp.pr,hw_,ht.pr], ?_,fun e=> ?_⟩
   ·have hb:=ih.bk
    rw [hp.bk,hQ_] at hb
    have hb2:=ht.bk
    rw [List.perm_iff_count] at hb hb2 ⊢
    intro a
    have:=hb a
    have:=hb2 a
    simp only [List.count_append] at*
    omega
   ·exfalso
    have h3:=ih.none e
    have hne:(n_ n l).1≠ []:=fun e=> by rw [e] at h2;simp at h2
    obtain⟨x,r,hx, -⟩:=hp.head hne
    rw [hx] at h3
    cases h3
structure DoOk (L:List Blk) (r:Root) (l':List Pr) (r':Root) (g:List Ptr4):Prop where
 ok:RtOk L r'
 pr:p_ r'=l'
 bk:(au_ r'++g).Perm (au_ r)
theorem do_ok {key:Ky} (hf:EdF key f) (r:Root) (h:RtOk L r):
  (∀e,f (p_ r)= .error e->doF r key f= .error e)/\(∀l',f (p_ r)= .ok l'-> ∃r' g,doF r key f= .ok (r',g)/\DoOk L r l' r' g):=by
 cases r with
 | none=>
  refine⟨fun e he=> ?_,fun l' hl=> ?_⟩
  ·have he:f []= .error e:=he
   rw [doF];simp only [he]
  ·have hl:f []= .ok l':=hl
   obtain⟨h1,h2, -,h4⟩:=hf.ok [] l' List.Pairwise.nil (fun p hp=> by cases hp) hl
   simp only [List.length_nil] at h4
   have hp:=av_ (L:=L) (n:=0) l'.length l' [] (Nat.le_refl _) ⟨h1,h2⟩ (by show l'.length<=900;omega) (by simp)
   have hl2:=aC_ (n:=0) l'.length l' [] (Nat.le_refl _)
   have hl3:List.length (α:=El 0) l'=l'.length:=rfl
   have hg:=dC_ (L:=L) (i_ 0 l' []).length 0 (i_ 0 l' []) hp.ok (Nat.le_refl _) (by omega)
   refine⟨(O_ (i_ 0 l' []).length 0 (i_ 0 l' [])).1,(O_ (i_ 0 l' []).length 0 (i_ 0 l' [])).2,by rw [doF];simp only [hl],hg.ok,by rw [hg.pr,hp.pr];rfl, ?_⟩
   have hb:=hg.bk
   rw [hp.bk] at hb
   exact hb
 | some x=>
  obtain⟨n,x⟩:=x
  obtain⟨e1,e2⟩:=cH_ hf n x h.2
  refine⟨fun e he=> ?_,fun l' hl=> ?_⟩
  ·rw [doF];simp only [e1 e he]
  ·obtain⟨sub,g,hs,hok⟩:=e2 l' hl
   have hg:=dC_ (L:=L) sub.length n sub hok.ok (Nat.le_refl _) (by have:=hok.len;omega)
   refine⟨(O_ sub.length n sub).1,g++(O_ sub.length n sub).2,by rw [doF];simp only [hs],hg.ok,by rw [hg.pr,hok.pr], ?_⟩
   have hb:=hg.bk
   have hb2:=hok.bk
   show (_++(g++_)).Perm (bkR x)
   rw [List.perm_iff_count] at hb hb2 ⊢
   intro a
   have:=hb a
   have:=hb2 a
   simp only [List.count_append] at*
   omega
theorem RtOk.good (h:RtOk L r):GoodRt L r:=by
 cases r with
 | none=> trivial
 | some x=> exact⟨h.1,h.2.dsk,h.2.good,h.2.wf,h.2.neT⟩
theorem RtOk.srt (h:RtOk L r):SrtK (p_ r)/\ ∀p∈p_ r,bd_ p:=by
 cases r with
 | none=> exact⟨List.Pairwise.nil,fun p hp=> by cases hp⟩
 | some x=> exact h.2.srt
theorem atF_loc {A M B:List Pr} {key:Ky} (hA: ∀p∈A,p.1 < key) (hB: ∀p∈B,key < p.1):atF (A++M++B) key=A.length+atF M key:=by
 have h1:A.countP (fun p=> decide (p.1 < key))=A.length:=List.countP_eq_length.2 (fun p hp=> by simpa using hA p hp)
 have h2:B.countP (fun p=> decide (p.1 < key))=0:=List.countP_eq_zero.2 (fun p hp=> by simpa using bQ_ (hB p hp))
 rw [atF,List.countP_append,List.countP_append,h1,h2];rfl
theorem hR_ (M:List Pr) (key:Ky):atF M key<=M.length:=List.countP_le_length
theorem ih_ {A M B:List Pr} {key:Ky} (hA: ∀p∈A,p.1 < key) (hB: ∀p∈B,key < p.1):U_ (A++M++B) key=U_ M key:=by
 rw [U_,U_,atF_loc hA hB,List.append_assoc,List.getElem?_append_right (by omega),Nat.add_sub_cancel_left]
 by_cases h:atF M key < M.length
 ·rw [List.getElem?_append_left h]
 ·rw [List.getElem?_append_right (by omega),List.getElem?_eq_none (by omega:M.length<=atF M key)]
  have e: ¬(B[atF M key - M.length]?.map (·.1)=some key):=fun e=> by
   cases hb:B[atF M key - M.length]? with
   | none=> rw [hb] at e;cases e
   | some p=>
    rw [hb] at e
    simp only [Option.map_some,Option.some.injEq] at e
    have:=hB p (List.mem_of_getElem? hb)
    rw [e] at this
    exact al_ _ this
  simp [e]
theorem dq_ {M:List Pr} {key:Ky} (h:U_ M key=true):atF M key < M.length:=by
 rw [U_] at h
 have h:=of_decide_eq_true h
 rcases Nat.lt_or_ge (atF M key) M.length with h1 | h1
 ·exact h1
 ·rw [List.getElem?_eq_none h1] at h;cases h
theorem take_loc {α:Type} (A M B:List α) (i:Nat) (h:i<=M.length):(A++M++B).take (A.length+i)=A++M.take i:=by
 rw [List.append_assoc,List.take_append,List.take_of_length_le (by omega),Nat.add_sub_cancel_left,List.take_append_of_le_length h]
theorem drop_loc {α:Type} (A M B:List α) (i:Nat) (h:i<=M.length):(A++M++B).drop (A.length+i)=M.drop i++B:=by
 rw [List.append_assoc,List.drop_append,List.drop_of_length_le (by omega),Nat.add_sub_cancel_left,List.drop_append_of_le_length h];rfl
theorem SrtK.at_spec {t:List Pr} (hs:SrtK t) (k:Ky):(∀p∈t.take (atF t k),p.1 < k)/\(∀p∈t.drop (atF t k),¬p.1 < k):=by
 obtain⟨h0,h1,h2⟩:=hs.atF_spec k
 refine⟨fun p hp=> ?_,fun p hp=> ?_⟩
 ·obtain⟨j,hj⟩:=List.getElem?_of_mem hp
  rw [List.getElem?_take] at hj
  split at hj
  ·exact h1 j p (by assumption) hj
  ·cases hj
 ·obtain⟨j,hj⟩:=List.getElem?_of_mem hp
  rw [List.getElem?_drop] at hj
  exact h2 _ p (by omega) hj
theorem SrtK.behind {t:List Pr} (hs:SrtK t) (k:Ky): ∀p∈t.drop (atF t k+(if U_ t k then 1 else 0)),k < p.1:=by
 intro p hp
 obtain⟨h1,h2⟩:=hs.at_spec k
 have hsd:SrtK (t.drop (atF t k)):=List.Pairwise.sublist (List.drop_sublist _ _) hs
 have h3:t.drop (atF t k+(if U_ t k then 1 else 0))=(t.drop (atF t k)).drop (if U_ t k then 1 else 0):=by rw [List.drop_drop]
 rw [h3] at hp
 have hge:=h2 p (List.mem_of_mem_drop hp)
 rcases ej_ k p.1 with h | h | h
 ·exact h
 ·exfalso
  by_cases ht:U_ t k=true
  ·rw [if_pos ht] at hp
   cases hd:t.drop (atF t k) with
   | nil=> rw [hd] at hp;cases hp
   | cons a r=>
    rw [hd] at hp hsd h2
    have hp':p∈r:=by simpa using hp
    have h4:=(List.pairwise_cons.1 hsd).1 p hp'
    rw [<-h] at h4
    exact h2 a (by simp) h4
  ·rw [if_neg ht,List.drop_zero] at hp
   apply ht
   cases hd:t.drop (atF t k) with
   | nil=> rw [hd] at hp;cases hp
   | cons a r=>
    rw [hd] at hp hsd h2
    have hak:a.1=k:=by
     rcases List.mem_cons.1 hp with rfl | hp'
     ·exact h.symm
     ·have h4:=(List.pairwise_cons.1 hsd).1 p hp'
      rw [<-h] at h4
      exact absurd h4 (h2 a (by simp))
    have hg:t[atF t k]? =some a:=by
     have h5:(t.drop (atF t k))[0]? =some a:=by rw [hd];rfl
     rw [List.getElem?_drop] at h5
     exact h5
    rw [U_,hg]
    simp [hak]
 ·exact absurd h hge
theorem ht_ {key val:Ky} (hk:key≠ []) (h1:key.length<=24) (h2:val.length<=300):EdF key (putF key val):=by
 refine⟨fun A M B hA hB=> ?_,fun l l' hs hg he=> ?_⟩
 ·have hle:atF M key+(if U_ M key then 1 else 0)<=M.length:=by
   have:=hR_ M key
   split
   ·rename_i h;have:=dq_ h;omega
   ·omega
  rw [putF,putF,atF_loc hA hB,ih_ hA hB,take_loc A M B _ (hR_ M key),Nat.add_assoc,drop_loc A M B _ hle]
  simp [Except.map]
 ·rw [putF] at he
  cases he
  obtain⟨ha,hb⟩:=hs.at_spec key
  have hbe:=hs.behind key
  refine⟨?_,fun p hp=> ?_,fun p hp=> ?_, ?_⟩
  ·rw [List.append_assoc]
   refine List.pairwise_append.2 ⟨List.Pairwise.sublist (List.take_sublist _ _) hs, ?_,fun p hp q hq=> ?_⟩
   ·exact List.pairwise_cons.2 ⟨fun q hq=> hbe q hq,List.Pairwise.sublist (List.drop_sublist _ _) hs⟩
   ·have hq':q=(key,val)\/q∈l.drop (atF l key+(if U_ l key then 1 else 0)):=by simpa using hq
    rcases hq' with rfl | hq'
    ·exact ha p hp
    ·exact T_ (ha p hp) (hbe q hq')
  ·rcases List.mem_append.1 hp with hp | hp
   ·rcases List.mem_append.1 hp with hp | hp
    ·exact hg p (List.mem_of_mem_take hp)
    ·rw [List.mem_singleton.1 hp];exact⟨hk,h1,h2⟩
   ·exact hg p (List.mem_of_mem_drop hp)
  ·rcases List.mem_append.1 hp with hp | hp
   ·rcases List.mem_append.1 hp with hp | hp
    ·exact .inl (List.mem_of_mem_take hp)
    ·rw [List.mem_singleton.1 hp];exact .inr rfl
   ·exact .inl (List.mem_of_mem_drop hp)
  ·have:=hR_ l key
   simp only [List.length_append,List.length_take,List.length_drop,List.length_singleton]
   omega
theorem ci_ (v u:Value) (xs:List Pr) (x:Pr) (i:Nat) (w:World) (hv:EPr.Ow 36 w v xs) (hu:EPr.Ow 36 w u [x]) (hne: ∀b∈blkL u,b∉blkL v) (hi:i<=xs.length) (hl:xs.length<=100000):
  Calls Tryz.prog 44 #[v,.int .i64 i,.int .i64 i,u] w (z_ EPr 36 v (xs.take i++ [x]++xs.drop i) w):=by
 have hins:=iw_ v u xs [x] i w hv hu hne hi (by simp;omega)
 obtain⟨p,c,rfl,hc⟩:=hv.rd.len_eq
 obtain⟨p2,c2,rfl,_⟩:=hu.rd.len_eq
 obtain⟨N,hN⟩: ∃N,N=xs.length:=⟨_,rfl⟩
 have HI:=hi_ hins
 rw [<-hN] at hi hc hl HI ⊢
 simp only [List.length_singleton] at HI ⊢
 have HN:=hi_ hN
 clear hins hv hu hne hN
 by_cases hci:c=i
 ·subst hci
  go_enter Tryz.func44,Tryz.ntmps44
  go_wp2_with fail
  refine HI.out.mono ?_
  rintro e w' ⟨v',rfl,how,hE,hn⟩
  go_wp2
  go_ret
  simp only [List.append_assoc,List.singleton_append] at how ⊢
  exact⟨v',rfl,how,hE,hn⟩
 ·go_enter Tryz.func44,Tryz.ntmps44
  go_wp2_with fail
  refine HI.out.mono ?_
  rintro e w' ⟨v',rfl,how,hE,hn⟩
  go_wp2
  go_ret
  simp only [List.append_assoc,List.singleton_append] at how ⊢
  exact⟨v',rfl,how,hE,hn⟩
theorem cT_ (v u:Value) (xs:List Pr) (x:Pr) (i:Nat) (w:World) (hv:EPr.Ow 36 w v xs) (hu:EPr.Ow 36 w u [x]) (hne: ∀b∈blkL u,b∉blkL v) (hi:i+1<=xs.length) (hl:xs.length<=100000):
  Calls Tryz.prog 44 #[v,.int .i64 i,.int .i64 (i+1:Nat),u] w (z_ EPr 36 v (xs.take i++ [x]++xs.drop (i+1)) w):=by
 rcases hv with ⟨rfl,rfl⟩ | ⟨g,q,cap,l,rfl,h1,h2,h3,h4⟩
 ·simp at hi
 ·have hne': ∀b∈blkL u,b≠g:=fun b hb=> by have:=hne b hb;simpa [blkL] using this
  by_cases hj:i+1=xs.length
  ·exact eI_ g q cap l u xs [x] i (i+1) w h1 h2 h3 h4 hu hne' (by omega) hi (by simp;omega) hj
  ·exact eH_ g q cap l u xs [x] i (i+1) w h1 h2 h3 h4 hu hne' (by omega) hi (by simp;omega) hj (by simp;omega) (by simp)
theorem db_ (W0:World) (x:Pr):EPr.Ow 36 (W0.alloc (.cells #[.string ⟨x.1.toArray⟩,.string ⟨x.2.toArray⟩] 36)) (.slice (some ⟨W0.heap.size,0,none⟩) 1 1) [x]:=
 .inr ⟨W0.heap.size,0,1,[x],by simp,heap_alloc_new _ _,by simp,by simp,by simp⟩
def FkPost (res:Except Int (List Pr)) (w:World) (e:Ending) (w':World):Prop:=
 match res with
 | .ok l'=> ∃u,e= .returned (.tuple #[u,.int .i64 0])/\EPr.Ow 36 w' u l'/\(∀g∈blkL u,w.heap.size<=g)/\Ext [] w w'
 | .error k=> e= .returned (.tuple #[.slice none 0 0,.int .i64 k])/\Ext [] w w'
abbrev strB (w:World) (b:Nat) (s:Ky):Prop:=w.heap[b]? =some (.cells #[.string ⟨s.toArray⟩] 9 (0,0))
theorem he_ (kb vb:Nat) (key val:Ky) (v:Value) (l:List Pr) (w:World) (hk:strB w kb key) (hv:strB w vb val) (hr:EPr.Rd w v l) (hs:SrtK l) (hl:l.length<=900):
  Calls Tryz.prog 42 #[v,.pointer (some ⟨kb,0,none⟩),.pointer (some ⟨vb,0,none⟩)] w (FkPost (putF key val l) w):=by
 obtain⟨p,c,rfl,hc⟩:=hr.len_eq
 have ck:w.cell? ⟨kb,0,none⟩=some (.string ⟨key.toArray⟩):=by rw [cell_of_row w kb 0 _ _ _ hk];rfl
 have cv:w.cell? ⟨vb,0,none⟩=some (.string ⟨val.toArray⟩):=by rw [cell_of_row w vb 0 _ _ _ hv];rfl
 have hat:=trat_c (.slice p l.length c) l key w (by omega) hr hs
 obtain⟨i,hi⟩: ∃i,i=atF l key:=⟨_,rfl⟩
 obtain⟨th,hth⟩: ∃b,b=U_ l key:=⟨_,rfl⟩
 have hil:i<=l.length:=by rw [hi];exact hR_ l key
 have hit:th=true->i < l.length:=fun h=> by rw [hi];exact dq_ (by rw [<-hth];exact h)
 unfold fq_ at hat
 rw [<-hi,<-hth] at hat
 obtain⟨N,hN⟩: ∃N,N=l.length:=⟨_,rfl⟩
 rw [<-hN] at hat hr hc hil hit hl ⊢
 obtain⟨HAT,HR,HN,HI,HTH⟩:=h_5 hat hr hN hi hth
 obtain⟨d,hd⟩: ∃d:Nat,d=if th=true then 1 else 0:=⟨_,rfl⟩
 have hd1:d<=1:=by rw [hd];split <;> omega
 have hid:i+d<=N:=by
  rw [hd]
  split
  ·rename_i h;have:=hit h;omega
  ·omega
 have hput:putF key val l= .ok (l.take i++ [(key,val)]++l.drop (i+d)):=by rw [putF,hd,hth,hi]
 rw [hput]
 have HD:=hi_ hd
 clear hk hv hr hs hat hi hth hN hput hd
 go_enter Tryz.func42,Tryz.ntmps42
 go_wp2_with fail
 refine HAT.out.mono ?_
 rintro e W1 ⟨rfl,hE1⟩
 have ck:=hE1.cell ck (by simp)
 have cv:=hE1.cell cv (by simp)
 have HR1:=hi_ (HR.out.ext0 hE1)
 have HE1:=hi_ hE1
 clear hE1 HR HAT
 cases th with
 | true=>
  have hit:=hit rfl
  obtain rfl:d=1:=HD.out
  go_wp2_with fail
  have hD:=(Ext.refl [] W1).drew
  refine e_ (fun W=> W.cell? ⟨kb,0,none⟩=some (.string ⟨key.toArray⟩)/\W.cell? ⟨vb,0,none⟩=some (.string ⟨val.toArray⟩)) (fun k=> k==1 || k==4 || k==5) (by kernel_rfl) ⟨hD.cell ck (by simp),hD.cell cv (by simp)⟩ (fun hS=> ?_)
  refine PUq 0 ?_;(try go_frame);refine PUq 2 ?_;(try go_frame);refine PUq 3 ?_;(try go_frame)
  refine ta 4 ?_;(try go_frame);refine ta 5 ?_;(try go_frame)
  refine PUq 6 ?_;(try go_frame);(try simp only [zA,zB,zC,zD,zE])
  refine an_ (i:=1) (j:=7) (by kernel_rfl) rfl rfl (fun K hK=> ?_) (fun K hK=> ?_)
  ·(try simp only [Act.put,zA,zB,zC,List.setIfInBounds_toArray,zD,zE]);refine iw rfl ?_
   go_simp
   refine(aZ_ _ l _ (by rw [<-HN.out];omega) (HR1.out.ext0 hD)).mono ?_
   rintro e W5 ⟨u5,rfl,how5,hE5,hf5, -⟩
   obtain⟨p5,c5,rfl,_⟩:=how5.rd.len_eq
   rw [<-HN.out] at how5 hf5 ⊢
   have HO5:=hi_ how5
   have HF5:Hid (∀b∈blkL (.slice p5 N c5),W1.heap.size<=b):=hi_ (fun b hb=> Nat.le_trans hD.size (hf5 b hb))
   refine hK.out _ _ (fun _=> ⟨hE5.cell hS.1 (by simp),hE5.cell hS.2 (by simp)⟩) (fun _=> ?_)
   clear hK hS how5 hf5
   refine a_ (i:=7) (by kernel_rfl) rfl (fun K hK=> ?_)
   (try simp only [Act.put,zA,zB,zC,List.setIfInBounds_toArray,zD,zE]);refine iw rfl ?_
   go_simp
   have hEa:Ext [] W5 (W5.alloc (.cells #[.string ⟨key.toArray⟩,.string ⟨val.toArray⟩] 36)):=(Ext.refl [] W5).alloc _
   have hoa:=db_ W5 (key,val)
   have HOA:=hi_ hoa
   have HO6:=hi_ (HO5.out.ext0 hEa)
   have HE6:=hi_ ((hD.trans hE5).trans hEa)
   have HNE:Hid (∀b∈blkL (.slice (some ⟨W5.heap.size,0,none⟩) 1 1),b∉blkL (.slice p5 N c5)):=hi_ (fun b hb hb2=> by
    simp [blkL] at hb
    have:=HO5.out.lt b hb2
    omega)
   refine nk hK ?_
   clear hK hoa hE5 hEa HO5
   refine a_ (i:=8) (by kernel_rfl) rfl (fun K hK=> ?_)
   (try simp only [Act.put,zA,zB,zC,List.setIfInBounds_toArray,zD,zE]);refine iw rfl ?_
   go_simp
   refine(cT_ (.slice p5 N c5) (.slice (some ⟨W5.heap.size,0,none⟩) 1 1) l (key,val) i  _ HO6.out HOA.out HNE.out (by rw [<-HN.out];exact hid) (by rw [<-HN.out];omega)).mono ?_
   rintro e W7 ⟨v7,rfl,how7,hE7,hn7⟩
   have HE9:Hid (Ext [] W1 W7):=hi_ (HE6.out.trans' hE7 (by simp) (fun b hb=> .inr (HF5.out b hb)))
   have HF9:Hid (∀b∈blkL v7,W1.heap.size<=b):=hi_ (fun b hb=> by
    rcases hn7 b hb with h | h
    ·exact HF5.out b h
    ·exact Nat.le_trans HE6.out.size h)
   have HO9:=hi_ how7
   refine nk hK ?_
   clear hK how7 hE7 hn7 HNE HOA HO6 HE6 HF5
   refine PUq 9 ?_;(try go_frame);(try simp only [zA,zB,zC,zD,zE]);refine PUq 10 ?_;(try go_frame);(try simp only [zA,zB,zC,zD,zE])
   refine c_ (by kernel_rfl) ?_ _
   go_wp2
   go_ret2
   exact⟨v7,rfl,HO9.out,fun g hg=> Nat.le_trans HE1.out.size (HF9.out g hg),HE1.out.trans HE9.out⟩
  ·(try simp only [Act.put,zA,zB,zC,List.setIfInBounds_toArray,zD,zE]);refine iw rfl ?_
   go_simp
   have hEa:Ext [] W1 (W1.alloc (.cells #[.string ⟨key.toArray⟩,.string ⟨val.toArray⟩] 36)).drew:=((Ext.refl [] W1).alloc _).drew
   have hoa:=(db_ W1 (key,val)).ext0 ((Ext.refl [] _).drew)
   refine nk hK ?_
   clear hK
   refine a_ (i:=1) (by kernel_rfl) rfl (fun K hK=> ?_)
   (try simp only [Act.put,zA,zB,zC,List.setIfInBounds_toArray,zD,zE]);refine iw rfl ?_
   go_simp
   refine(aZ_ _ l _ (by rw [<-HN.out];omega) (HR1.out.ext0 hEa)).mono ?_
   rintro e W5 ⟨u5,rfl,how5,hE5,hf5, -⟩
   obtain⟨p5,c5,rfl,_⟩:=how5.rd.len_eq
   rw [<-HN.out] at how5 hf5 ⊢
   have HO6:=hi_ how5
   have HOA:=hi_ (hoa.ext0 hE5)
   have HE6:=hi_ (hEa.trans hE5)
   have HF5:Hid (∀b∈blkL (.slice p5 N c5),W1.heap.size<=b):=hi_ (fun b hb=> Nat.le_trans hEa.size (hf5 b hb))
   have HNE:Hid (∀b∈blkL (.slice (some ⟨W1.heap.size,0,none⟩) 1 1),b∉blkL (.slice p5 N c5)):=hi_ (fun b hb hb2=> by
    simp [blkL] at hb
    have h1:=hf5 b hb2
    have h2:W1.heap.size+1<=(W1.alloc (.cells #[.string ⟨key.toArray⟩,.string ⟨val.toArray⟩] 36)).drew.heap.size:=by simp
    omega)
   refine hK.out _ _ (fun _=> ⟨hE5.cell (hEa.cell ck (by simp)) (by simp),hE5.cell (hEa.cell cv (by simp)) (by simp)⟩) (fun _=> ?_)
   clear hK hS hoa hE5 hEa how5 hf5
   refine a_ (i:=8) (by kernel_rfl) rfl (fun K hK=> ?_)
   (try simp only [Act.put,zA,zB,zC,List.setIfInBounds_toArray,zD,zE]);refine iw rfl ?_
   go_simp
   refine(cT_ (.slice p5 N c5) (.slice (some ⟨W1.heap.size,0,none⟩) 1 1) l (key,val) i  _ HO6.out HOA.out HNE.out (by rw [<-HN.out];exact hid) (by rw [<-HN.out];omega)).mono ?_
   rintro e W7 ⟨v7,rfl,how7,hE7,hn7⟩
   have HE9:Hid (Ext [] W1 W7):=hi_ (HE6.out.trans' hE7 (by simp) (fun b hb=> .inr (HF5.out b hb)))
   have HF9:Hid (∀b∈blkL v7,W1.heap.size<=b):=hi_ (fun b hb=> by
    rcases hn7 b hb with h | h
    ·exact HF5.out b h
    ·exact Nat.le_trans HE6.out.size h)
   have HO9:=hi_ how7
   refine nk hK ?_
   clear hK how7 hE7 hn7 HNE HOA HO6 HE6 HF5
   refine PUq 9 ?_;(try go_frame);(try simp only [zA,zB,zC,zD,zE]);refine PUq 10 ?_;(try go_frame);(try simp only [zA,zB,zC,zD,zE])
   refine c_ (by kernel_rfl) ?_ _
   go_wp2
   go_ret2
   exact⟨v7,rfl,HO9.out,fun g hg=> Nat.le_trans HE1.out.size (HF9.out g hg),HE1.out.trans HE9.out⟩
 | false=>
  obtain rfl:d=0:=HD.out
  go_wp2_with fail
  have hD:=(Ext.refl [] W1).drew
  refine e_ (fun W=> W.cell? ⟨kb,0,none⟩=some (.string ⟨key.toArray⟩)/\W.cell? ⟨vb,0,none⟩=some (.string ⟨val.toArray⟩)) (fun k=> k==1 || k==4 || k==5) (by kernel_rfl) ⟨hD.cell ck (by simp),hD.cell cv (by simp)⟩ (fun hS=> ?_)
  refine PUq 0 ?_;(try go_frame);refine PUq 2 ?_;(try go_frame);refine PUq 3 ?_;(try go_frame)
  refine ta 4 ?_;(try go_frame);refine ta 5 ?_;(try go_frame)
  refine PUq 6 ?_;(try go_frame);(try simp only [zA,zB,zC,zD,zE])
  refine an_ (i:=1) (j:=7) (by kernel_rfl) rfl rfl (fun K hK=> ?_) (fun K hK=> ?_)
  ·(try simp only [Act.put,zA,zB,zC,List.setIfInBounds_toArray,zD,zE]);refine iw rfl ?_
   go_simp
   refine(aZ_ _ l _ (by rw [<-HN.out];omega) (HR1.out.ext0 hD)).mono ?_
   rintro e W5 ⟨u5,rfl,how5,hE5,hf5, -⟩
   obtain⟨p5,c5,rfl,_⟩:=how5.rd.len_eq
   rw [<-HN.out] at how5 hf5 ⊢
   have HO5:=hi_ how5
   have HF5:Hid (∀b∈blkL (.slice p5 N c5),W1.heap.size<=b):=hi_ (fun b hb=> Nat.le_trans hD.size (hf5 b hb))
   refine hK.out _ _ (fun _=> ⟨hE5.cell hS.1 (by simp),hE5.cell hS.2 (by simp)⟩) (fun _=> ?_)
   clear hK hS how5 hf5
   refine a_ (i:=7) (by kernel_rfl) rfl (fun K hK=> ?_)
   (try simp only [Act.put,zA,zB,zC,List.setIfInBounds_toArray,zD,zE]);refine iw rfl ?_
   go_simp
   have hEa:Ext [] W5 (W5.alloc (.cells #[.string ⟨key.toArray⟩,.string ⟨val.toArray⟩] 36)):=(Ext.refl [] W5).alloc _
   have hoa:=db_ W5 (key,val)
   have HOA:=hi_ hoa
   have HO6:=hi_ (HO5.out.ext0 hEa)
   have HE6:=hi_ ((hD.trans hE5).trans hEa)
   have HNE:Hid (∀b∈blkL (.slice (some ⟨W5.heap.size,0,none⟩) 1 1),b∉blkL (.slice p5 N c5)):=hi_ (fun b hb hb2=> by
    simp [blkL] at hb
    have:=HO5.out.lt b hb2
    omega)
   refine nk hK ?_
   clear hK hoa hE5 hEa HO5
   refine a_ (i:=8) (by kernel_rfl) rfl (fun K hK=> ?_)
   (try simp only [Act.put,zA,zB,zC,List.setIfInBounds_toArray,zD,zE]);refine iw rfl ?_
   go_simp
   refine(ci_ (.slice p5 N c5) (.slice (some ⟨W5.heap.size,0,none⟩) 1 1) l (key,val) i  _ HO6.out HOA.out HNE.out (by rw [<-HN.out];exact hid) (by rw [<-HN.out];omega)).mono ?_
   rintro e W7 ⟨v7,rfl,how7,hE7,hn7⟩
   have HE9:Hid (Ext [] W1 W7):=hi_ (HE6.out.trans' hE7 (by simp) (fun b hb=> .inr (HF5.out b hb)))
   have HF9:Hid (∀b∈blkL v7,W1.heap.size<=b):=hi_ (fun b hb=> by
    rcases hn7 b hb with h | h
    ·exact HF5.out b h
    ·exact Nat.le_trans HE6.out.size h)
   have HO9:=hi_ how7
   refine nk hK ?_
   clear hK how7 hE7 hn7 HNE HOA HO6 HE6 HF5
   refine PUq 9 ?_;(try go_frame);(try simp only [zA,zB,zC,zD,zE]);refine PUq 10 ?_;(try go_frame);(try simp only [zA,zB,zC,zD,zE])
   refine c_ (by kernel_rfl) ?_ _
   go_wp2
   go_ret2
   exact⟨v7,rfl,HO9.out,fun g hg=> Nat.le_trans HE1.out.size (HF9.out g hg),HE1.out.trans HE9.out⟩
  ·(try simp only [Act.put,zA,zB,zC,List.setIfInBounds_toArray,zD,zE]);refine iw rfl ?_
   go_simp
   have hEa:Ext [] W1 (W1.alloc (.cells #[.string ⟨key.toArray⟩,.string ⟨val.toArray⟩] 36)).drew:=((Ext.refl [] W1).alloc _).drew
   have hoa:=(db_ W1 (key,val)).ext0 ((Ext.refl [] _).drew)
   refine nk hK ?_
   clear hK
   refine a_ (i:=1) (by kernel_rfl) rfl (fun K hK=> ?_)
   (try simp only [Act.put,zA,zB,zC,List.setIfInBounds_toArray,zD,zE]);refine iw rfl ?_
   go_simp
   refine(aZ_ _ l _ (by rw [<-HN.out];omega) (HR1.out.ext0 hEa)).mono ?_
   rintro e W5 ⟨u5,rfl,how5,hE5,hf5, -⟩
   obtain⟨p5,c5,rfl,_⟩:=how5.rd.len_eq
   rw [<-HN.out] at how5 hf5 ⊢
   have HO6:=hi_ how5
   have HOA:=hi_ (hoa.ext0 hE5)
   have HE6:=hi_ (hEa.trans hE5)
   have HF5:Hid (∀b∈blkL (.slice p5 N c5),W1.heap.size<=b):=hi_ (fun b hb=> Nat.le_trans hEa.size (hf5 b hb))
   have HNE:Hid (∀b∈blkL (.slice (some ⟨W1.heap.size,0,none⟩) 1 1),b∉blkL (.slice p5 N c5)):=hi_ (fun b hb hb2=> by
    simp [blkL] at hb
    have h1:=hf5 b hb2
    have h2:W1.heap.size+1<=(W1.alloc (.cells #[.string ⟨key.toArray⟩,.string ⟨val.toArray⟩] 36)).drew.heap.size:=by simp
    omega)
   refine hK.out _ _ (fun _=> ⟨hE5.cell (hEa.cell ck (by simp)) (by simp),hE5.cell (hEa.cell cv (by simp)) (by simp)⟩) (fun _=> ?_)
   clear hK hS hoa hE5 hEa how5 hf5
   refine a_ (i:=8) (by kernel_rfl) rfl (fun K hK=> ?_)
   (try simp only [Act.put,zA,zB,zC,List.setIfInBounds_toArray,zD,zE]);refine iw rfl ?_
   go_simp
   refine(ci_ (.slice p5 N c5) (.slice (some ⟨W1.heap.size,0,none⟩) 1 1) l (key,val) i  _ HO6.out HOA.out HNE.out (by rw [<-HN.out];exact hid) (by rw [<-HN.out];omega)).mono ?_
   rintro e W7 ⟨v7,rfl,how7,hE7,hn7⟩
   have HE9:Hid (Ext [] W1 W7):=hi_ (HE6.out.trans' hE7 (by simp) (fun b hb=> .inr (HF5.out b hb)))
   have HF9:Hid (∀b∈blkL v7,W1.heap.size<=b):=hi_ (fun b hb=> by
    rcases hn7 b hb with h | h
    ·exact HF5.out b h
    ·exact Nat.le_trans HE6.out.size h)
   have HO9:=hi_ how7
   refine nk hK ?_
   clear hK how7 hE7 hn7 HNE HOA HO6 HE6 HF5
   refine PUq 9 ?_;(try go_frame);(try simp only [zA,zB,zC,zD,zE]);refine PUq 10 ?_;(try go_frame);(try simp only [zA,zB,zC,zD,zE])
   refine c_ (by kernel_rfl) ?_ _
   go_wp2
   go_ret2
   exact⟨v7,rfl,HO9.out,fun g hg=> Nat.le_trans HE1.out.size (HF9.out g hg),HE1.out.trans HE9.out⟩
theorem fB_ (kb:Nat) (key:Ky) (v:Value) (l:List Pr) (w:World) (hk:strB w kb key) (hr:EPr.Rd w v l) (hs:SrtK l) (hl:l.length<=900):
  Calls Tryz.prog 54 #[v,.pointer (some ⟨kb,0,none⟩)] w (FkPost (dropF key l) w):=by
 obtain⟨p,c,rfl,hc⟩:=hr.len_eq
 have ck:w.cell? ⟨kb,0,none⟩=some (.string ⟨key.toArray⟩):=by rw [cell_of_row w kb 0 _ _ _ hk];rfl
 have hat:=trat_c (.slice p l.length c) l key w (by omega) hr hs
 obtain⟨i,hi⟩: ∃i,i=atF l key:=⟨_,rfl⟩
 obtain⟨th,hth⟩: ∃b,b=U_ l key:=⟨_,rfl⟩
 have hit:th=true->i < l.length:=fun h=> by rw [hi];exact dq_ (by rw [<-hth];exact h)
 unfold fq_ at hat
 rw [<-hi,<-hth] at hat
 obtain⟨N,hN⟩: ∃N,N=l.length:=⟨_,rfl⟩
 rw [<-hN] at hat hr hc hit hl ⊢
 obtain⟨HAT,HR,HN⟩:=h_3 hat hr hN
 have hdr:dropF key l=if th=true then .ok (l.take i++l.drop (i+1)) else .error 7:=by rw [dropF,hth,hi]
 rw [hdr]
 clear hk hr hs hat hi hth hN hdr
 cases th with
 | true=>
  have hit:=hit rfl
  simp only [if_true]
  go_enter Tryz.func54,Tryz.ntmps54
  go_wp2_with fail
  refine HAT.out.mono ?_
  rintro e W1 ⟨rfl,hE1⟩
  have HR1:=hi_ (HR.out.ext0 hE1)
  have HE1:=hi_ hE1
  clear hE1 HR HAT ck
  go_wp2_with fail
  refine(aZ_ _ l _ (by rw [<-HN.out];omega) HR1.out).mono ?_
  rintro e W5 ⟨u5,rfl,how5,hE5,hf5, -⟩
  rcases how5 with ⟨rfl,h0⟩ | ⟨g,q,cap,l5,rfl,h1,h2,h3,h4⟩
  ·exfalso
   have h9:=HN.out
   rw [h0] at h9
   simp at h9
   omega
  rw [<-HN.out] at hf5 ⊢
  have HDL:=hi_ (iC_ g q cap l5 l i (i+1) W5 h1 h2 h3 h4 (by omega) (by rw [<-HN.out];omega) (by rw [<-HN.out];omega))
  rw [<-HN.out] at HDL
  obtain⟨HF5,HE5⟩:=h_2 hf5 hE5
  have hc2:N<=cap:=by rw [HN.out];exact h2
  clear hf5 hE5 h1 h2 h3 h4 HR1
  go_wp2_with fail
  refine HDL.out.mono ?_
  rintro e W7 ⟨v7,rfl,how7,hE7,hn7⟩
  have HE9:Hid (Ext [] W1 W7):=hi_ (HE5.out.trans' hE7 (by simp) (fun b hb=> .inr (HF5.out b hb)))
  have HF9:Hid (∀b∈blkL v7,W1.heap.size<=b):=hi_ (fun b hb=> by
   rcases hn7 b hb with h | h
   ·exact HF5.out b h
   ·exact Nat.le_trans HE5.out.size h)
  have HO9:=hi_ how7
  clear how7 hE7 hn7 HDL HF5 HE5
  go_wp2
  go_ret2
  exact⟨v7,rfl,HO9.out,fun g hg=> Nat.le_trans HE1.out.size (HF9.out g hg),HE1.out.trans HE9.out⟩
 | false=>
  simp only [Bool.false_eq_true,if_false]
  go_enter Tryz.func54,Tryz.ntmps54
  go_wp2_with fail
  refine HAT.out.mono ?_
  rintro e W1 ⟨rfl,hE1⟩
  go_wp2
  go_ret2
  exact⟨rfl,hE1⟩
inductive Fk where
 | put (kb vb:Nat)
 | drop (kb:Nat)
def fkV:Fk->Value
 | .put kb vb=> .func (.func 42) #[] #[.pointer (some ⟨kb,0,none⟩),.pointer (some ⟨vb,0,none⟩)]
 | .drop kb=> .func (.func 54) #[] #[.pointer (some ⟨kb,0,none⟩)]
def FkR (w:World) (key:Ky) (f:List Pr->Except Int (List Pr)):Fk->Prop
 | .put kb vb=> ∃val,strB w kb key/\strB w vb val/\f=putF key val
 | .drop kb=> strB w kb key/\f=dropF key
theorem FkR.cf {key:Ky} {k:Fk} (h:FkR w key f k) (hy:SyR w y v) (hf:CF y cb w w'):FkR w' key f k:=by
 obtain⟨S,h1,h2⟩:=hf.noNode hy
 cases k with
 | put kb vb=>
  obtain⟨val,a,b,c⟩:=h
  exact⟨val,h1.blk a (fun hm=> h2 kb hm _ (by decide) (d_ a)),h1.blk b (fun hm=> h2 vb hm _ (by decide) (d_ b)),c⟩
 | drop kb=>
  obtain⟨a,c⟩:=h
  exact⟨h1.blk a (fun hm=> h2 kb hm _ (by decide) (d_ a)),c⟩
theorem FkR.ext0 {key:Ky} {k:Fk} (h:FkR w key f k) (he:Ext [] w w'):FkR w' key f k:=by
 cases k with
 | put kb vb=>
  obtain⟨val,a,b,c⟩:=h
  exact⟨val,he.blk a (by simp),he.blk b (by simp),c⟩
 | drop kb=>
  obtain⟨a,c⟩:=h
  exact⟨he.blk a (by simp),c⟩
end Go.Proofs.YtkpgjkekmdecbaaGreat
