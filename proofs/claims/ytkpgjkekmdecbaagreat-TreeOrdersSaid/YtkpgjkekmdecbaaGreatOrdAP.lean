/- Lemmas for the claim. No conditions beside those that each states. -/
import Derived.Test.YtkpgjkekmdecbaaGreatOrdAL
import Derived.Test.YtkpgjkekmdecbaaGreatOrdAN
import Derived.Test.YtkpgjkekmdecbaaGreatOrdAF
import Derived.Test.YtkpgjkekmdecbaaGreatOrdAC
set_option maxRecDepth 100000
set_option maxHeartbeats 8000000
set_option linter.all false

namespace Go.Proofs.YtkpgjkekmdecbaaGreat
open Go.RowKit
variable {w:World} {T:TypeId} {n:Nat}
theorem remL_find {m:List Mno} {p:Mno->Bool} {k:Mno} (h:m.find? p=some k):k∈m:=List.mem_of_find?_eq_some h
structure HitRel (v v':Sv) (k:Mno):Prop where
 ws:v'.ws=v.ws
 spc:v'.spc=v.spc
 st:v'.st={v.st with mem:=remL v.st.mem k,gets:=wr64 (v.st.gets+1),hits:=wr64 (v.st.hits+1)}
theorem stget_hit (y:Sy) (v:Sv) (pa size birth:Int) (sum:List UInt8) (k:Mno) (w:World) (h:SyR w y v) (hf:v.st.mem.find? (hitB pa size sum)=some k) (hkl:k.2.2.length<=1000000):
  Calls Tryz.prog 92 #[.pointer (some ⟨y.b,0,none⟩),pagg pa size birth sum] w fun e w'=> ∃u v',e= .returned (.tuple #[u,.int .i64 0])/\EB.Ow 5 w' u k.2.2/\SyR w' y v'/\HitRel v v' k/\SyF y w w':=by
 have hEa:Ext [] w (w.alloc (.cells #[.int .i64 pa,.int .i64 size,.int .i64 birth,.string ⟨sum.toArray⟩] 34)):=(Ext.refl [] w).alloc _
 have hrc:=hs_ y.b y.a y.sp v.st pa size birth sum _ (h.st.ext0 hEa) (by have:=h.mem;omega)
 have HRC:=hi_ hrc
 have HS:=hi_ (h.ext0 hEa)
 have hb3:=heap_alloc_new w (.cells #[.int .i64 pa,.int .i64 size,.int .i64 birth,.string ⟨sum.toArray⟩] 34)
 obtain⟨v0,v1,v2,v3,_⟩:=M_ hb3
 have HF:=hi_ hf
 rw [pagg]
 clear h hrc hf hb3
 go_enter Tryz.func92,Tryz.ntmps92
 go_wp2_with fail
 refine HRC.out.mono ?_
 rintro e W1 ⟨hE1,⟨hno, -⟩ | ⟨x,bs,hfi,hxb,rfl⟩⟩
 ·rw [HF.out] at hno;cases hno
 ·rw [HF.out] at hfi
  simp only [Option.some.injEq] at hfi
  have HK:=hi_ hfi
  have HX1:=hi_ (hxb.ext0 hE1)
  have HS1:=hi_ (HS.out.ext0 hE1)
  have hE01:=hEa.trans hE1
  have HE01:=hi_ hE01
  clear hfi hxb v0 v1 v2 v3 hEa hE1 HS hE01 HRC HF
  rw [kagg]
  go_wp2_with fail
  have hEb:Ext [] W1 (W1.alloc (.cells #[.int .i64 x.1,.string ⟨x.2.1.toArray⟩,.slice x.2.2.1 x.2.2.2.1 x.2.2.2.2] 175)):=(Ext.refl [] W1).alloc _
  have hbb:=heap_alloc_new W1 (.cells #[.int .i64 x.1,.string ⟨x.2.1.toArray⟩,.slice x.2.2.1 x.2.2.2.1 x.2.2.2.2] 175)
  obtain⟨mv,hmv⟩:=HS1.out.st
  obtain⟨l1,l2⟩:=hmv.lt
  refine(ec_ y.b y.a y.sp mv v.st x bs _ (hmv.ext0 hEb) HS1.out.mem (HX1.out.ext0 hEb)).mono ?_
  rintro e W2 ⟨rfl,mv',hst2,hE2, -⟩
  have hE2':=(hmv.ext0 hEb).frame hE2
  have hs2:=(HS1.out.ext0 hEb).onSt hE2' ⟨mv',hst2⟩ (cj_ _ _)
  have hF2:SyF y w W2:=(SyF.of0 (HE01.out.trans hEb)).trans (SyF.st hE2')
  have hb2:=hE2.blk hbb (fun hmem=> by
   rcases List.mem_cons.1 hmem with h | h
   ·omega
   ·have:=l2 _ h;omega)
  have hx2:=(HX1.out.ext0 hEb).ext hE2 (fun g hg hg2=> by
   obtain⟨c,hc⟩:=(HX1.out.ext0 hEb).tag g hg
   rcases List.mem_cons.1 hg2 with h | h
   ·subst h
    rw [(hmv.ext0 hEb).1] at hc
    simp only [Option.some.injEq,Obj.cells.injEq] at hc
    exact absurd hc.2.1 (by decide)
   ·obtain⟨_,⟨zs',b2,_⟩,_⟩:=hmv.ext0 hEb
    obtain⟨c',hc'⟩:=b2.tag g h
    rw [hc] at hc'
    simp only [Option.some.injEq,Obj.cells.injEq] at hc'
    exact absurd hc'.2.1 (by decide))
  obtain⟨bx,hbx⟩: ∃b,b=W1.heap.size:=⟨_,rfl⟩
  rw [<-hbx] at hb2
  simp only [<-hbx]
  have hbxy:bx≠y.b:=by omega
  obtain⟨_,_,_,c4,_,_,_,_,hfz⟩:=hs2.st.cells
  simp only at c4
  have h3:=hs2.st.setAt (s':={v.st with mem:=remL v.st.mem (x.1,x.2.1,bs),gets:=wr64 (v.st.gets+1)}) 4 (.int .i64 (wr64 (v.st.gets+1))) rfl (fun mv=> rfl)
  obtain⟨HS2,HF2,HB2,HX2,H3⟩:=h_5 hs2 hF2 hb2 hx2 h3
  clear hs2 hF2 hb2 hx2 h3 hE2 hE2' hst2 hEb hbb hbx hmv l1 l2 HS1 HX1 HE01
  go_wp2_with fail
  refine(cq_ ⟨y.b,4,none⟩ v.st.gets _ c4 (hfz 4)).mono ?_
  rintro e W3 ⟨rfl,rfl⟩
  have hs3:=HS2.out.onSt H3.out.2 H3.out.1 (cj_ _ _)
  have hF3:=HF2.out.trans (SyF.st H3.out.2)
  have hEs:Ext [y.b] W2 (W2.setCell ⟨y.b,4,none⟩ (.int .i64 (wr64 (v.st.gets+1)))):=(Ext.refl _ _).setCell (.inl (by simp)) _
  have hb3:=hEs.blk HB2.out (by simpa using hbxy)
  have hx3:=HX2.out.ext hEs (fun g hg=> by
   obtain⟨mv3,hm3⟩:=HS2.out.st
   simpa using HX2.out.ne hm3.1 (by decide) g hg)
  obtain⟨HS3,HF3,HB3,HX3⟩:=h_4 hs3 hF3 hb3 hx3
  clear hs3 hF3 hEs hb3 hx3 hfz c4 H3 HX2 HB2 HF2 HS2
  revert HS3 HF3 HB3 HX3
  generalize World.setCell _ _ _=W3
  intro HS3 HF3 HB3 HX3
  obtain⟨_,_,_,_,c5,_,_,_,hfz⟩:=HS3.out.st.cells
  simp only at c5
  have h4:=HS3.out.st.setAt (s':={v.st with mem:=remL v.st.mem (x.1,x.2.1,bs),gets:=wr64 (v.st.gets+1),hits:=wr64 (v.st.hits+1)}) 5 (.int .i64 (wr64 (v.st.hits+1))) rfl (fun mv=> rfl)
  have H4:=hi_ h4
  clear h4
  go_wp2_with fail
  refine(cq_ ⟨y.b,5,none⟩ v.st.hits _ c5 (hfz 5)).mono ?_
  rintro e W4 ⟨rfl,rfl⟩
  have hs4:=HS3.out.onSt H4.out.2 H4.out.1 (cj_ _ _)
  have hF4:=HF3.out.trans (SyF.st H4.out.2)
  have hEs:Ext [y.b] W3 (W3.setCell ⟨y.b,5,none⟩ (.int .i64 (wr64 (v.st.hits+1)))):=(Ext.refl _ _).setCell (.inl (by simp)) _
  have hb4:=hEs.blk HB3.out (by simpa using hbxy)
  have hx4:=HX3.out.ext hEs (fun g hg=> by
   obtain⟨mv3,hm3⟩:=HS3.out.st
   simpa using HX3.out.ne hm3.1 (by decide) g hg)
  obtain⟨HS4,HF4,HB4,HX4⟩:=h_4 hs4 hF4 hb4 hx4
  clear hs4 hF4 hEs hb4 hx4 hfz c5 H4 HX3 HB3 HF3 HS3
  revert HS4 HF4 HB4 HX4
  generalize World.setCell _ _ _=W4
  intro HS4 HF4 HB4 HX4
  have k2:W4.cell? ⟨bx,2,none⟩=some (.slice x.2.2.1 x.2.2.2.1 x.2.2.2.2):=by rw [cell_of_row _ _ 2 _ _ _ HB4.out];rfl
  have hbl:bs.length<=1000000:=by rw [HK.out] at hkl;exact hkl
  go_wp2_with fail
  refine(cx_ _ bs _ hbl HX4.out.rd).mono ?_
  rintro e W5 ⟨u,rfl,how,hE5, -, -⟩
  have HS5:=hi_ (HS4.out.ext0 hE5)
  have HF5:=hi_ (HF4.out.trans (SyF.of0 hE5))
  have HO:=hi_ how
  clear hE5 how k2
  go_wp2
  go_ret2
  refine⟨_,⟨_,v.ws,v.spc⟩,rfl, ?_,HS5.out,⟨rfl,rfl, ?_⟩,HF5.out⟩
  ·rw [HK.out];exact HO.out
  ·rw [HK.out]
def SrtS (l:List Ky):Prop:=l.Pairwise (fun a b=> a < b)
theorem SrtS.at {l:List Ky} (h:SrtS l) {i j:Nat} (hij:i < j) (hj:j < l.length):l.getD i [] < l.getD j []:=by
 have:=List.pairwise_iff_getElem.1 h i j (by omega) hj hij
 simpa [List.getD,hj,show i < l.length by omega] using this
def atK (l:List Ky) (key:Ky):Nat:=l.countP (fun k=> decide (k < key))
def dp_ (l:List Ky) (key:Ky):Bool:=decide (l[atK l key]? =some key)
def leK (l:List Ky) (key:Ky):Nat:=l.countP (fun k=> decide (¬key < k))
theorem atK_of {s:List Ky} {k:Ky} {a:Nat} (ha:a<=s.length) (h1: ∀i,i < a->s.getD i [] < k) (h2: ∀i,a<=i->i < s.length-> ¬s.getD i [] < k):atK s k=a:=by
 refine cJ_ _ s a ha (fun i x hi hx=> ?_) (fun i x hi hx=> ?_)
 ·have:=h1 i hi
  simpa [List.getD,hx] using this
 ·have hl:=(List.getElem?_eq_some_iff.1 hx).1
  have:=h2 i hi hl
  simpa [List.getD,hx] using this
theorem leK_of {s:List Ky} {k:Ky} {a:Nat} (ha:a<=s.length) (h1: ∀i,i < a-> ¬k < s.getD i []) (h2: ∀i,a<=i->i < s.length->k < s.getD i []):leK s k=a:=by
 refine cJ_ _ s a ha (fun i x hi hx=> ?_) (fun i x hi hx=> ?_)
 ·have:=h1 i hi
  simpa [List.getD,hx] using this
 ·have hl:=(List.getElem?_eq_some_iff.1 hx).1
  have:=h2 i hi hl
  simpa [List.getD,hx] using this
structure CutK (s:List Ky) (k:Ky) (a:Nat):Prop where
 le:a<=s.length
 lo: ∀i,i < a->s.getD i [] < k
 hi: ∀i,a<=i->i < s.length-> ¬s.getD i [] < k
theorem CutK.at {s:List Ky} {k:Ky} {a:Nat} (h:CutK s k a):atK s k=a:=atK_of h.le h.lo h.hi
theorem CutK.there {s:List Ky} {k:Ky} {a:Nat} (h:CutK s k a):dp_ s k=(decide (a < s.length) && (s.getD a []==k)):=by
 rw [dp_,h.at]
 by_cases hl:a < s.length
 ·have e:s.getD a []=s[a]:=by simp [List.getD,hl]
  rw [List.getElem?_eq_getElem hl,e,decide_eq_true hl,Bool.true_and]
  by_cases hk:s[a]=k <;> simp [hk]
 ·rw [List.getElem?_eq_none (by omega),decide_eq_false hl]
  simp
theorem CutK.le' {s:List Ky} {k:Ky} {a:Nat} (h:CutK s k a) (hs:SrtS s):leK s k=a+(if dp_ s k then 1 else 0):=by
 rw [h.there]
 by_cases hl:a < s.length
 ·rw [decide_eq_true hl,Bool.true_and]
  by_cases hk:s.getD a []=k
  ·rw [if_pos (by simpa using hk)]
   refine leK_of (by omega) (fun i hi=> ?_) (fun i hi hil=> ?_)
   ·by_cases h2:i=a
    ·subst h2;rw [hk];exact al_ k
    ·exact bQ_ (h.lo i (by omega))
   ·have:=hs.at (i:=a) (j:=i) (by omega) hil
    rwa [hk] at this
  ·rw [if_neg (by simpa using hk)]
   refine leK_of h.le (fun i hi=> bQ_ (h.lo i hi)) (fun i hi hil=> ?_)
   have h1:k < s.getD a []:=by
    rcases ej_ (s.getD a []) k with h3 | h3 | h3
    ·exact absurd h3 (h.hi a (Nat.le_refl _) hl)
    ·exact absurd h3 hk
    ·exact h3
   by_cases h2:i=a
   ·subst h2;exact h1
   ·exact T_ h1 (hs.at (i:=a) (j:=i) (by omega) hil)
 ·rw [decide_eq_false hl,Bool.false_and]
  refine leK_of h.le (fun i hi=> bQ_ (h.lo i hi)) (fun i hi hil=> by omega)
theorem kidF_eq (t:List (Pc n)) (key:Ky):kidF t key=leK (o_ t) key:=by
 rw [kidF,leK,o_,List.countP_map]
 rfl
theorem bsS_c (v:Value) (s:List Ky) (k:Ky) (w:World) (hl:s.length<=1000000) (hv:EKy.Rd w v s) (hs:SrtS s):
  Calls Tryz.prog 111 #[v,.string ⟨k.toArray⟩] w fun e w'=> ∃a:Nat,e= .returned (.tuple #[.int .i64 a,.bool (dp_ s k)])/\CutK s k a/\w'=w:=by
 have HS:=hi_ hs
 clear hs
 have hv0:=hi_ hv
 rcases hv with ⟨rfl,rfl⟩ | ⟨g,o,cap,rfl,h1,hg,_⟩
 ·have hcut:CutK [] k 0:=⟨Nat.le_refl _,fun i h=> by omega,fun i _ h=> by simp at h⟩
  have hth:dp_ [] k=false:=hcut.there
  rw [hth]
  have HC:=hi_ hcut
  clear hcut hth
  go_enter Tryz.func111,Tryz.ntmps111
  go_wp2
  go_loopw [7,8,9] (fun lo hi _ wr=> lo= .int .i64 0/\hi= .int .i64 0/\wr=w) (fun _ _ _ _=> 0)
  case atStart=> exact⟨rfl,rfl,rfl⟩
  case round=>
   obtain⟨rfl,rfl,rfl⟩:=hrel
   go_wp2
   go_ret2
   exact⟨0,rfl,HC.out,rfl⟩
 ·obtain⟨n,hn⟩: ∃n,n=s.length:=⟨_,rfl⟩
  rw [<-hn] at h1 hl ⊢
  have HN:=hi_ hn
  clear hn
  go_enter Tryz.func111,Tryz.ntmps111
  go_wp2
  go_loopw [7,8,9] (fun lo hi _ wr=> ∃a b:Nat,lo= .int .i64 a/\hi= .int .i64 b/\a<=b/\b<=n/\Hid (∀i,i < a->s.getD i [] < k)/\Hid (∀i,b<=i->i < s.length-> ¬s.getD i [] < k)/\wr=w)
   (fun lo hi _ _=> (intOf hi).toNat - (intOf lo).toNat)
  case atStart=> exact⟨0,n,rfl,rfl,Nat.zero_le _,Nat.le_refl _,hi_ (fun i h=> by omega),hi_ (fun i h1 h2=> by rw [<-HN.out] at h2;omega),rfl⟩
  case round=>
   obtain⟨a,b,rfl,rfl,hab,hbn,h1,h2,rfl⟩:=hrel
   have hv1:=hv0.out
   rw [<-HN.out] at hv1
   by_cases hlt:a < b
   ·have hm1:=bz_ hv1 ((a+b)/2) (by rw [<-HN.out];omega)
    obtain⟨x,hx⟩: ∃x,x=s.getD ((a+b)/2) []:=⟨_,rfl⟩
    rw [<-hx] at hm1
    have HX:=hi_ hx
    clear hx
    go_wp2_with fail
    refine(lessS_c _ _ _).mono ?_
    rintro e w1 ⟨rfl,rfl⟩
    clear hm1 hv1
    by_cases hx2:x < k
    ·rw [decide_eq_true hx2]
     have HX2:=hi_ hx2
     clear hx2
     go_wp2
     go_roundw
     case rel=> exact⟨(a+b)/2+1,b,by go_num,rfl,by omega,hbn,hi_ (fun i hi=> by
       have e:=HX.out
       by_cases hi':i=(a+b)/2
       ·subst hi';rw [<-e];exact HX2.out
       ·have:=HS.out.at (i:=i) (j:=(a+b)/2) (by omega) (by rw [<-HN.out];omega);rw [<-e] at this;exact T_ this HX2.out),h2,trivial⟩
     case measure=> simp [intOf];omega
    ·rw [decide_eq_false hx2]
     have HX2:=hi_ hx2
     clear hx2
     go_wp2
     go_roundw
     case rel=> exact⟨a,(a+b)/2,rfl,by go_num,by omega,by omega,h1,hi_ (fun i hi hi2=> by
       have e:=HX.out
       by_cases hi':i=(a+b)/2
       ·subst hi';rw [<-e];exact HX2.out
       ·have:=HS.out.at (i:=(a+b)/2) (j:=i) (by omega) hi2;rw [<-e] at this;exact fun hh=> HX2.out (T_ this hh)),trivial⟩
     case measure=> simp [intOf];omega
   ·have hab':a=b:=by omega
    subst hab'
    have hcut:CutK s k a:=⟨by rw [<-HN.out];exact hbn,h1.out,h2.out⟩
    have hth:=hcut.there
    rw [<-HN.out] at hth
    have HC:=hi_ hcut
    clear hcut
    by_cases hal:a < n
    ·have hm1:=bz_ hv1 a (by rw [<-HN.out];exact hal)
     obtain⟨x,hx⟩: ∃x,x=s.getD a []:=⟨_,rfl⟩
     rw [<-hx] at hm1 hth
     rw [decide_eq_true hal,Bool.true_and] at hth
     have HTH:=hi_ hth
     clear hx hth
     have za:(a:Int) < (n:Int):=by omega
     by_cases hxk:x=k
     ·have hb:(x==k)=true:=by simpa using hxk
      have HHB:=hi_ hb
      clear hxk
      go_wp2_with fail
      go_ret2
      refine⟨a, ?_,HC.out,rfl⟩
      rw [HTH.out,HHB.out]
      rfl
     ·have hb:(x==k)=false:=by simpa using hxk
      have HHB:=hi_ hb
      clear hxk
      go_wp2_with fail
      refine(isNaNSl_c _ _).mono ?_
      rintro e w1 ⟨rfl,rfl⟩
      go_wp2_with fail
      go_ret2
      refine⟨a, ?_,HC.out,rfl⟩
      rw [HTH.out,HHB.out]
      rfl
    ·rw [decide_eq_false hal,Bool.false_and] at hth
     have HTH:=hi_ hth
     clear hth
     have za: ¬((a:Int) < (n:Int)):=by omega
     go_wp2_with fail
     go_ret2
     refine⟨a, ?_,HC.out,rfl⟩
     rw [HTH.out]
     rfl
theorem trkid_c (b:Nat) (ks:List Ky) (rs:List Rfm) (ps:List Pr) (leaf:Bool) (k:Ky) (w:World) (h:NodeB w b leaf ps ks rs) (hl:ks.length<=1000000) (hs:SrtS ks):
  Calls Tryz.prog 82 #[.pointer (some ⟨b,0,none⟩),.string ⟨k.toArray⟩] w fun e w'=> e= .returned (.int .i64 (leK ks k))/\w'=w:=by
 obtain⟨pp,cp,pk,ck,pr,cr, -, -,c2, -, -,hks, -, -⟩:=h.cells
 obtain⟨HK,HS,HL⟩:=h_3 hks hs hl
 clear h hks hs hl
 go_enter Tryz.func82,Tryz.ntmps82
 go_wp2_with fail
 refine(bsS_c _ ks k _ HL.out HK.out.rd HS.out).mono ?_
 rintro e W1 ⟨a,rfl,hcut,rfl⟩
 have hle:=hcut.le' HS.out
 have hal:a<=1000000:=by have:=hcut.le;have:=HL.out;omega
 have HLE:=hi_ hle
 clear hcut hle c2
 by_cases hth:dp_ ks k=true
 ·have HTH:=hi_ hth
  rw [hth]
  clear hth
  go_wp2
  go_ret
  refine⟨?_,rfl⟩
  rw [HLE.out,HTH.out]
  rfl
 ·have hth:dp_ ks k=false:=by simpa using hth
  have HTH:=hi_ hth
  rw [hth]
  clear hth
  go_wp2
  go_ret
  refine⟨?_,rfl⟩
  rw [HLE.out,HTH.out]
  rfl
@[simp] theorem EPr_k:EPr.k=2:=rfl
theorem dS_ (w:World) (a b:Addr) (la ca lb cb:Nat) (hne:a.block≠b.block) (tA tB:TypeId) (cA cB:Array Value)
  (hA:w.heap[a.block]? =some (.cells cA tA (0,0))) (hB:w.heap[b.block]? =some (.cells cB tB (0,0))) (hk:cB.size≠0):
  (callFunc 76 #[.slice (some a) la ca,.slice (some b) lb cb]).run Tryz.prog w= .ok (.value (.bool false)) w:=by
 have hf:Tryz.prog.funcs[76]? =some Tryz.f76:=by kernel_rfl
 have hz: ∀w,(Go.sizeOf 36).run Tryz.prog w= .ok 2 w:=fun w=> by
  obtain⟨i,z,hi,_,hs,_⟩:=tiEPr.row
  simp [sizeOf,typeInfo,hi,hs]
 have hsA:w.shape? a.block=some (tA,cA.size):=by simp [World.shape?,hA]
 have hsB:w.shape? b.block=some (tB,cB.size):=by simp [World.shape?,hB]
 have h:=Lib.run_overlaps_apart (P:=Tryz.prog) w 22 4 36 Tryz.underlying22 2 hz a b la ca lb cb hne tA tB cA.size cB.size hsA hsB hk (by simp [World.frozen?,hA]) (by simp [World.frozen?,hA])
 rw [run_callFunc_extern (e:=Extern.SlicesOverlaps.overlaps #[22,22] #[4]) hf (by kernel_rfl) (by kernel_rfl) (by kernel_rfl) (by kernel_rfl),h]
 rfl
theorem szPr:(Tryz.prog.info? 36).map (·.size)=some EPr.k:=by kernel_rfl
theorem ge_ (u:Value) (ys:List Pr) (w:World) (hu:EPr.Ow 36 w u ys) (hl:ys.length<=1000000):
  Calls Tryz.prog 75 #[.slice none 0 0,.int .i64 0,u] w (z_ EPr 36 (.slice none 0 0) ys w):=by
 obtain⟨p,cu,rfl,hcu⟩:=hu.rd.len_eq
 by_cases hy:ys.length=0
 ·obtain rfl:ys= []:=List.eq_nil_of_length_eq_zero hy
  go_enter Tryz.func75,Tryz.ntmps75
  go_wp2
  go_ret
  exact⟨_,rfl,.inl ⟨rfl,rfl⟩,Ext.refl _ _,by simp [Near,blkL]⟩
 ·have hy':0 < ys.length:=by omega
  have HU:=hi_ hu
  clear hu
  go_enter Tryz.func75,Tryz.ntmps75
  go_wp2_with (with_reducible refine f_ (d:=25) ?_)
  refine k_ rfl fun K hK=> b_ (E:=EPr) (T:=36) (zero:=([],[])) (bytes:=32) (v:= .slice none 0 0) (xs:= []) (ys:=ys) tiEPr Tryz.underlying22 Tryz.underlying22 rfl rfl rfl (.inl ⟨rfl,rfl⟩) HU.out.rd (by simp;omega) (by simp;omega) ?_
  intro v' w' how hext hnear hnn
  refine hK _ _ ?_
  clear hK
  go_wp2
  go_ret
  exact⟨_,rfl,how,hext,hnear⟩
theorem gd_ (g q cap:Nat) (l:List Pr) (u:Value) (xs ys:List Pr) (i:Nat) (w:World) (hg:w.heap[g]? =some (.cells (EPr.flat l).toArray 36 (0,0))) (hcap:xs.length<=cap) (hq:q+cap<=l.length) (hxs:win l q xs.length=xs)
  (hu:EPr.Ow 36 w u ys) (hne: ∀b∈blkL u,b≠g) (hi:i<=xs.length) (hl:xs.length+ys.length<=1000000):
  Calls Tryz.prog 75 #[.slice (some ⟨g,q*2,none⟩) xs.length cap,.int .i64 i,u] w (z_ EPr 36 (.slice (some ⟨g,q*2,none⟩) xs.length cap) (xs.take i++ys++xs.drop i) w):=by
 have hv:EPr.Ow 36 w (.slice (some ⟨g,q*2,none⟩) xs.length cap) xs:= .inr ⟨g,q,cap,l,rfl,hg,hcap,hq,hxs⟩
 obtain⟨HV,HU,HG,HX⟩:=h_4 hv hu hg hxs
 obtain⟨p,cu,rfl,hcu⟩:=hu.rd.len_eq
 clear hu hv hg hxs
 by_cases hy:ys.length=0
 ·obtain rfl:ys= []:=List.eq_nil_of_length_eq_zero hy
  by_cases hci:cap=i
  ·subst hci
   go_enter Tryz.func75,Tryz.ntmps75
   go_wp2
   go_ret
   exact⟨_,rfl,by simpa using HV.out,Ext.refl _ _,fun x hx=> .inl hx⟩
  ·go_enter Tryz.func75,Tryz.ntmps75
   go_wp2
   go_ret
   exact⟨_,rfl,by simpa using HV.out,Ext.refl _ _,fun x hx=> .inl hx⟩
 ·have hy':0 < ys.length:=by omega
  by_cases hin:i=xs.length
  ·subst hin
   have fin: ∀(w':World) (v':Value),EPr.Ow 36 w' v' (xs++ys)->Ext [g] w w'->Near w (.slice (some ⟨g,q*2,none⟩) xs.length cap) v'->z_ EPr 36 (.slice (some ⟨g,q*2,none⟩) xs.length cap) (xs.take xs.length++ys++xs.drop xs.length) w (.returned v') w':=
    fun w' v' h1 h2 h3=> ⟨v',rfl,by simpa using h1,h2,h3⟩
   by_cases hci:cap=xs.length
   ·subst hci
    go_enter Tryz.func75,Tryz.ntmps75
    go_wp2_with (with_reducible refine f_ (d:=25) ?_)
    refine k_ rfl fun K hK=> b_ (E:=EPr) (T:=36) (zero:=([],[])) (bytes:=32) (v:= .slice (some ⟨g,q*2,none⟩) xs.length xs.length) (xs:=xs) (ys:=ys) tiEPr Tryz.underlying22 Tryz.underlying22 rfl rfl rfl HV.out HU.out.rd (by omega) (by omega) ?_
    intro v' w' how hext hnear hnn
    refine hK _ _ ?_
    clear hK
    go_wp2
    go_ret
    exact fin _ _ how hext hnear
   ·go_enter Tryz.func75,Tryz.ntmps75
    go_wp2_with (with_reducible refine f_ (d:=25) ?_)
    refine k_ rfl fun K hK=> b_ (E:=EPr) (T:=36) (zero:=([],[])) (bytes:=32) (v:= .slice (some ⟨g,q*2,none⟩) xs.length cap) (xs:=xs) (ys:=ys) tiEPr Tryz.underlying22 Tryz.underlying22 rfl rfl rfl HV.out HU.out.rd (by omega) (by omega) ?_
    intro v' w' how hext hnear hnn
    refine hK _ _ ?_
    clear hK
    go_wp2
    go_ret
    exact fin _ _ how hext hnear
  ·have hin':i < xs.length:=by omega
   have hvi:EPr.Ow 36 w (.slice (some ⟨g,q*2,none⟩) i cap) (xs.take i):=by
    have e:(xs.take i).length=i:=by simp;omega
    refine .inr ⟨g,q,cap,l,by rw [e];rfl,HG.out,by omega,hq, ?_⟩
    rw [e,<-HX.out,win,List.take_take,show min i xs.length=i from by omega]
   by_cases hroom:cap < xs.length+ys.length
   ·have HVI:=hi_ hvi
    clear hvi
    have e1:(xs.take i).length=i:=by simp;omega
    go_enter Tryz.func75,Tryz.ntmps75
    go_wp2_with (with_reducible refine f_ (d:=40) ?_)
    refine k_ rfl fun K hK=> L_ (E:=EPr) (T:=36) (zero:=([],[])) (bytes:=32) (v:= .slice (some ⟨g,q*2,none⟩) i cap) (xs:=xs.take i) (n:=xs.length+ys.length - i) tiEPr Tryz.underlying22 Tryz.underlying3 rfl rfl ?_ HVI.out (by rw [e1];omega) (by rw [e1];omega) ?_
    ·show Value.int _ _=_
     congr 1;omega
    intro v2 w2 how hext hnear hfresh
    obtain⟨hext0,hfr⟩:=hfresh _ cap (by rw [e1]) (by rw [e1];omega)
    have hu2:=HU.out.ext0 hext0
    have hg2:=hext0.blk HG.out (by simp)
    clear hext hnear hfresh HVI
    rcases how with ⟨_,h⟩ | ⟨g2,q2,cap2,l2,rfl,hb2,hc2,hq2,hw2⟩
    ·have:=congrArg List.length h;simp at this;omega
    have hlen:(xs.take i++List.replicate (xs.length+ys.length - i) (([],[]):Pr)).length=xs.length+ys.length:=by simp;omega
    rw [hlen] at hc2 hw2 ⊢
    have hfr2:w.heap.size<=g2:=hfr g2 (by simp [blkL])
    have hg2lt:g < w.heap.size:=g_ HG.out
    obtain⟨HB2,HW2,HU2,HG2⟩:=h_4 hb2 hw2 hu2 hg2
    clear hb2 hw2 hu2 hg2 hfr
    refine hK _ _ ?_
    clear hK
    go_wp2_with (with_reducible refine f_ (d:=45) ?_)
    obtain⟨pu,ou,hpu,hsrc⟩: ∃g' o':Nat,p=some ⟨g',o',none⟩/\ ∀j u,(EPr.flat ys)[j]? =some u->w2.cell? ⟨g',o'+j,none⟩=some u:=by
     rcases HU2.out.rd with ⟨_,h⟩ | ⟨g',o',c',h,_,_,h3⟩
     ·subst h;simp at hy'
     ·cases h;exact⟨g',o',rfl,h3⟩
    refine k_ rfl fun K hK=> N_ (E:=EPr) (T:=36) (g:=g2) (q:=q2+i) (l:=l2) (ys:=ys) Tryz.underlying22 szPr rfl rfl rfl HB2.out (by omega) (fun _=> ⟨by simp [Nat.add_mul],pu,ou,hpu,hsrc⟩) (by omega) ?_
    intro w3 hb3 hext3
    have hg3:=hext3.blk HG2.out (by simp;omega)
    have HB3:=hi_ hb3
    have hsrc2: ∀j u,(EPr.flat (xs.drop i))[j]? =some u->w3.cell? ⟨g,q*2+i*2+j,none⟩=some u:=by
     intro j u hj
     rw [EPr.flat_drop,<-HX.out,win,EPr.flat_take,EPr.flat_drop,List.getElem?_drop,List.getElem?_take] at hj
     split at hj
     ·rw [List.getElem?_drop] at hj
      rw [cell_of_row w3 g _ _ _ _ hg3]
      simpa [Nat.add_assoc] using hj
     ·cases hj
    clear hb3 hg3
    refine hK _ _ ?_
    clear hK
    go_wp2_with fail
    have ew:IntKind.i64.wrap ((i:Int)+(ys.length:Int))=(i:Int)+(ys.length:Int):=IntWalk.i64_in _ (by omega)
    have hn1: ¬cap2=i+ys.length:=by omega
    have hn2: ¬cap=i:=by omega
    have hn4:(0:Int)<=(i:Int)+(ys.length:Int):=by omega
    have hn5:((i:Int)+(ys.length:Int)).toNat=i+ys.length:=by omega
    go_region_law ((try simp only [Act.put,zA,zB,zC,List.setIfInBounds_toArray,zD,zE]);refine iw rfl ?_;refine(N_ (s:= .tmp 50) (x:= .tmp 53) (dT:=22) (sT:=22) (E:=EPr) (T:=36) (g:=g2) (q:=q2+i+ys.length) (l:=splice l2 (q2+i) ys) (ys:=xs.drop i) Tryz.underlying22 szPr (by rfl) (by rfl) (by rfl) (by exact HB3.out) (by simp;omega) (by exact fun _=> ⟨by simp [Nat.add_mul,Nat.add_assoc],g,q*2+i*2,rfl,hsrc2⟩) (by rw [length_splice _ _ _ (by omega)];simp;omega) ?_);intro w4 hb4 hext4)
    have hE3:Ext [] w w3:=hext0.trans' hext3 (by simp) (by simp;omega)
    have hE:Ext [] w w4:=hE3.drew.trans' hext4 (by simp) (by simp;omega)
    have hL1:(splice l2 (q2+i) ys).length=l2.length:=length_splice _ _ _ (by omega)
    have hL2:(splice (splice l2 (q2+i) ys) (q2+i+ys.length) (xs.drop i)).length=l2.length:=by rw [length_splice _ _ _ (by rw [hL1];simp;omega),hL1]
    have fin:z_ EPr 36 (.slice (some ⟨g,q*2,none⟩) xs.length cap) (xs.take i++ys++xs.drop i) w (.returned (.slice (some ⟨g2,q2*2,none⟩) (xs.length+ys.length) cap2)) w4:=by
     have e3:(xs.take i++ys++xs.drop i).length=xs.length+ys.length:=by simp;omega
     refine⟨_,rfl,.inr ⟨g2,q2,cap2,_,by rw [e3];rfl,hb4,by rw [e3];exact hc2,by rw [hL2];exact hq2, ?_⟩,hE.nil,fun x hx=> .inr (by simp [blkL] at hx;omega)⟩
     rw [e3]
     show win _ _ _=_
     rw [Nat.add_assoc,I_ _ _ _ _ _ (by simp;omega) (by rw [length_splice _ _ _ (by omega)];omega),I_ _ _ _ _ _ (by omega) (by omega),win,HW2.out]
     exact bD_ _ _ _ _ _ e1 (by simp;omega)
    clear hb4 hext4 hext3 hE
    go_wp2
    go_ret
    exact fin
   ·clear hvi
    have hu:=HU.out
    rcases hu with ⟨h,_⟩ | ⟨gu,qu,cu',lu,h,hbu,hcu1,hqu,hwu⟩
    ·simp at h;omega
    cases h
    have hgu:gu≠g:=hne gu (by simp [blkL])
    have hov:=fun W (h1:W.heap[gu]? =some (.cells (EPr.flat lu).toArray 36 (0,0))) (h2:W.heap[g]? =some (.cells (EPr.flat l).toArray 36 (0,0))) (o1 o2 la ca lb cb:Nat)=>
     dS_ W ⟨gu,o1,none⟩ ⟨g,o2,none⟩ la ca lb cb hgu _ _ _ _ h1 h2 (by simp [Enc.length_flat];omega)
    have hov':=hov w hbu HG.out
    have HBU:=hi_ hbu
    clear hov hbu hwu
    go_enter Tryz.func75,Tryz.ntmps75
    go_wp2_with fail
    have hsrc2: ∀j u,(EPr.flat (xs.drop i))[j]? =some u->w.cell? ⟨g,q*2+i*2+j,none⟩=some u:=by
     intro j u hj
     rw [EPr.flat_drop,<-HX.out,win,EPr.flat_take,EPr.flat_drop,List.getElem?_drop,List.getElem?_take] at hj
     split at hj
     ·rw [List.getElem?_drop] at hj
      rw [cell_of_row w g _ _ _ _ HG.out]
      simpa [Nat.add_assoc] using hj
     ·cases hj
    have ew:IntKind.i64.wrap ((i:Int)+(ys.length:Int))=(i:Int)+(ys.length:Int):=IntWalk.i64_in _ (by omega)
    have hn1: ¬cap=i+ys.length:=by omega
    have hn2: ¬cap=i:=by omega
    have hn4:(0:Int)<=(i:Int)+(ys.length:Int):=by omega
    have hn5:((i:Int)+(ys.length:Int)).toNat=i+ys.length:=by omega
    have hn6:(i:Int)<=(xs.length:Int)+ys.length:=by omega
    go_region_law ((try simp only [Act.put,zA,zB,zC,List.setIfInBounds_toArray,zD,zE]);refine iw rfl ?_;refine(N_ (s:= .tmp 73) (x:= .tmp 76) (dT:=22) (sT:=22) (E:=EPr) (T:=36) (g:=g) (q:=q+(i+ys.length)) (l:=l) (ys:=xs.drop i) Tryz.underlying22 szPr (by rfl) (by rfl) (by rfl) (by exact HG.out) (by simp;omega) (by exact fun _=> ⟨by simp [Nat.add_mul],g,q*2+i*2,rfl,hsrc2⟩) (by simp;omega) ?_);intro w3 hb3 hext3)
    have hL1:(splice l (q+(i+ys.length)) (xs.drop i)).length=l.length:=length_splice _ _ _ (by simp;omega)
    have hE3:Ext [g] w w3:=(Ext.refl [g] w).drew.trans hext3
    have HB3:=hi_ hb3
    have hu3:=HU.out.ext hE3 (by simpa [blkL] using hgu)
    clear hb3 ew hn1 hn4 hn5 hn6 hov' hext3
    go_wp2_with (with_reducible refine f_ (d:=82) ?_)
    rcases hu3.rd with ⟨h,_⟩ | ⟨g',o',c',h,_,_,h3⟩
    ·cases h
    refine k_ rfl fun K hK=> N_ (s:= .tmp 80) (x:= .tmp 81) (dT:=22) (sT:=22) (E:=EPr) (T:=36) (g:=g) (q:=q+i) (l:=splice l (q+(i+ys.length)) (xs.drop i)) (ys:=ys) Tryz.underlying22 szPr rfl rfl rfl HB3.out (by omega) (fun _=> ⟨by simp [Nat.add_mul],g',o',by simpa using (Value.slice.inj h).1,h3⟩) (by omega) ?_
    intro w4 hb4 hext4
    refine hK _ _ ?_
    clear hK h3 hu3
    have hE:Ext [g] w w4:=hE3.trans hext4
    have hL2:(splice (splice l (q+(i+ys.length)) (xs.drop i)) (q+i) ys).length=l.length:=by rw [length_splice _ _ _ (by rw [hL1];omega),hL1]
    have fin:z_ EPr 36 (.slice (some ⟨g,q*2,none⟩) xs.length cap) (xs.take i++ys++xs.drop i) w (.returned (.slice (some ⟨g,q*2,none⟩) (xs.length+ys.length) cap)) w4:=by
     have e3:(xs.take i++ys++xs.drop i).length=xs.length+ys.length:=by simp;omega
     refine⟨_,rfl,.inr ⟨g,q,cap,_,by rw [e3];rfl,hb4,by rw [e3];omega,by rw [hL2];exact hq, ?_⟩,hE,fun x hx=> .inl hx⟩
     rw [e3]
     show win _ _ _=_
     rw [I_ _ _ _ _ _ (by omega) (by omega),I_ _ _ _ _ _ (by simp;omega) (by omega)]
     have e4:win l q (xs.length+ys.length)=xs++win l (q+xs.length) ys.length:=by
      apply List.ext_getElem?
      intro j
      have hx:=congrArg (fun(z:List Pr)=> z[j]?) HX.out
      simp only [v_] at hx
      simp only [v_,List.getElem?_append]
      (repeat' split) <;> first | (exfalso;omega) | (rw [<-hx,if_pos (by omega)]) | (congr 1 <;> omega)
     rw [e4]
     exact cR_ _ _ _ _ hi (cE_ _ _ _ (by omega))
    clear hb4 hext4 hE3 hE
    go_wp2
    go_ret
    exact fin
theorem iw_ (v u:Value) (xs ys:List Pr) (i:Nat) (w:World) (hv:EPr.Ow 36 w v xs)
  (hu:EPr.Ow 36 w u ys) (hne: ∀b∈blkL u,b∉blkL v) (hi:i<=xs.length) (hl:xs.length+ys.length<=1000000):
  Calls Tryz.prog 75 #[v,.int .i64 i,u] w (z_ EPr 36 v (xs.take i++ys++xs.drop i) w):=by
 rcases hv with ⟨rfl,rfl⟩ | ⟨g,q,cap,l,rfl,hg,h1,h2,h3⟩
 ·obtain rfl:i=0:=by simpa using hi
  simpa using ge_ u ys w hu (by omega)
 ·exact gd_ g q cap l u xs ys i w hg h1 h2 h3 hu (by simpa [blkL] using hne) hi hl
theorem dY_ {g q:Nat} {l xs:List Pr} {fr:Nat×Nat} (hg:w.heap[g]? =some (.cells (EPr.flat l).toArray T fr)) (hx:win l q xs.length=xs) (i:Nat):
  ∀j u,(EPr.flat (xs.drop i))[j]? =some u->w.cell? ⟨g,q*2+i*2+j,none⟩=some u:=by
 intro j u hj
 rw [EPr.flat_drop,<-hx,win,EPr.flat_take,EPr.flat_drop,List.getElem?_drop,List.getElem?_take] at hj
 split at hj
 ·rw [List.getElem?_drop] at hj
  rw [cell_of_row w g _ _ _ _ hg]
  simpa [Nat.add_assoc] using hj
 ·cases hj
theorem eI_ (g q cap:Nat) (l:List Pr) (u:Value) (xs ys:List Pr) (i j:Nat) (w:World) (hg:w.heap[g]? =some (.cells (EPr.flat l).toArray 36 (0,0))) (hcap:xs.length<=cap) (hq:q+cap<=l.length) (hxs:win l q xs.length=xs)
  (hu:EPr.Ow 36 w u ys) (hne: ∀b∈blkL u,b≠g) (hij:i < j) (hj:j<=xs.length) (hl:xs.length+ys.length<=1000000) (hjn:j=xs.length):
  Calls Tryz.prog 44 #[.slice (some ⟨g,q*2,none⟩) xs.length cap,.int .i64 i,.int .i64 j,u] w (z_ EPr 36 (.slice (some ⟨g,q*2,none⟩) xs.length cap) (xs.take i++ys++xs.drop j) w):=by
 have hv:EPr.Ow 36 w (.slice (some ⟨g,q*2,none⟩) xs.length cap) xs:= .inr ⟨g,q,cap,l,rfl,hg,hcap,hq,hxs⟩
 obtain⟨HV,HU,HG,HX⟩:=h_4 hv hu hg hxs
 obtain⟨p,cu,rfl,hcu⟩:=hu.rd.len_eq
 have hvi:EPr.Ow 36 w (.slice (some ⟨g,q*2,none⟩) i cap) (xs.take i):=by
  have e:(xs.take i).length=i:=by simp;omega
  refine .inr ⟨g,q,cap,l,by rw [e];rfl,HG.out,by omega,hq, ?_⟩
  rw [e,<-HX.out,win,List.take_take,show min i xs.length=i from by omega]
 have HVI:=hi_ hvi
 clear hu hv hg hxs hvi
 have e1:(xs.take i).length=i:=by simp;omega
 subst hjn
 have hci: ¬cap=i:=by omega
 by_cases hsh:i+ys.length < xs.length
 ·go_enter Tryz.func44,Tryz.ntmps44
  go_wp2_with (with_reducible refine f_ (d:=34) ?_)
  refine k_ rfl fun K hK=> H_ (E:=EPr) (T:=36) (zero:=([],[])) (bytes:=32) (g:=g) (q:=q) (n:=i) (l:=l) (ys:=ys) tiEPr Tryz.underlying22 Tryz.underlying22 rfl rfl rfl HG.out HU.out.rd (by omega) hq ?_
  intro w2 hb2 hext2
  have HB2:=hi_ hb2
  clear hb2
  refine hK _ _ ?_
  clear hK
  have hn3: ¬cap=i+ys.length:=by omega
  go_wp2_with (with_reducible refine P_ ?_)
  refine k_ rfl fun K hK=> Z_ (E:=EPr) (T:=36) (zero:=([],[])) (bytes:=32) (g:=g) (q:=q+(i+ys.length)) (l:=splice l (q+i) ys) tiEPr Tryz.underlying22 rfl rfl HB2.out (fun _=> by simp [Nat.add_mul]) (by rw [length_splice _ _ _ (by omega)];omega) ?_
  intro w3 hb3 hext3
  refine hK _ _ ?_
  clear hK
  have fin:z_ EPr 36 (.slice (some ⟨g,q*2,none⟩) xs.length cap) (xs.take i++ys++xs.drop xs.length) w (.returned (.slice (some ⟨g,q*2,none⟩) (i+ys.length) cap)) w3:=by
   have e3:(xs.take i++ys++xs.drop xs.length).length=i+ys.length:=by simp;omega
   have hL1:(splice l (q+i) ys).length=l.length:=length_splice _ _ _ (by omega)
   refine⟨_,rfl,.inr ⟨g,q,cap,_,by rw [e3];rfl,hb3,by rw [e3];omega,by rw [length_splice _ _ _ (by rw [hL1];simp;omega),hL1];exact hq, ?_⟩,hext2.trans hext3,fun x hx=> .inl hx⟩
   rw [e3]
   show win _ _ _=_
   apply List.ext_getElem?
   intro k
   have hx:=congrArg (fun(z:List Pr)=> z[k]?) HX.out
   simp only [v_] at hx
   rw [v_,m_ _ _ _ _ (by rw [hL1];omega),m_ _ _ _ _ (by omega)]
   simp only [List.drop_length,List.append_nil,List.getElem?_append,e1,List.getElem?_take]
   (repeat' split) <;> first | rfl | (exfalso;omega) | (rw [<-hx,if_pos (by omega)]) | (congr 1 <;> omega) | (rw [List.getElem?_eq_none (by omega)])
  clear hext2 hext3 hb3
  go_wp2
  go_ret
  exact fin
 ·go_enter Tryz.func44,Tryz.ntmps44
  go_wp2_with (with_reducible refine f_ (d:=34) ?_)
  refine k_ rfl fun K hK=> b_ (E:=EPr) (T:=36) (zero:=([],[])) (bytes:=32) (v:= .slice (some ⟨g,q*2,none⟩) i cap) (xs:=xs.take i) (ys:=ys) tiEPr Tryz.underlying22 Tryz.underlying22 rfl rfl rfl HVI.out HU.out.rd (by rw [e1];omega) (by rw [e1];omega) ?_
  intro v2 w2 how hext hnear hnn
  obtain⟨p2,c2,hv2,hc2⟩:=how.rd.len_eq
  have elen:(xs.take i++ys).length=i+ys.length:=by simp;omega
  rw [elen] at hv2 hc2
  subst hv2
  have fin:z_ EPr 36 (.slice (some ⟨g,q*2,none⟩) xs.length cap) (xs.take i++ys++xs.drop xs.length) w (.returned (.slice p2 (i+ys.length) c2)) w2:=
   ⟨_,rfl,by simpa using how,hext,hnear⟩
  clear how hnn hext hnear
  refine hK _ _ ?_
  clear hK
  go_wp2
  go_ret
  exact fin
theorem eH_ (g q cap:Nat) (l:List Pr) (u:Value) (xs ys:List Pr) (i j:Nat) (w:World) (hg:w.heap[g]? =some (.cells (EPr.flat l).toArray 36 (0,0))) (hcap:xs.length<=cap) (hq:q+cap<=l.length) (hxs:win l q xs.length=xs)
  (hu:EPr.Ow 36 w u ys) (hne: ∀b∈blkL u,b≠g) (hij:i < j) (hj:j<=xs.length) (hl:xs.length+ys.length<=1000000) (hjn:j≠xs.length) (hroom: ¬cap < i+ys.length+(xs.length - j)) (hfit:i+ys.length<=j):
  Calls Tryz.prog 44 #[.slice (some ⟨g,q*2,none⟩) xs.length cap,.int .i64 i,.int .i64 j,u] w (z_ EPr 36 (.slice (some ⟨g,q*2,none⟩) xs.length cap) (xs.take i++ys++xs.drop j) w):=by
 have hv:EPr.Ow 36 w (.slice (some ⟨g,q*2,none⟩) xs.length cap) xs:= .inr ⟨g,q,cap,l,rfl,hg,hcap,hq,hxs⟩
 obtain⟨HV,HU,HG,HX⟩:=h_4 hv hu hg hxs
 obtain⟨p,cu,rfl,hcu⟩:=hu.rd.len_eq
 have hvi:EPr.Ow 36 w (.slice (some ⟨g,q*2,none⟩) i cap) (xs.take i):=by
  have e:(xs.take i).length=i:=by simp;omega
  refine .inr ⟨g,q,cap,l,by rw [e];rfl,HG.out,by omega,hq, ?_⟩
  rw [e,<-HX.out,win,List.take_take,show min i xs.length=i from by omega]
 have HVI:=hi_ hvi
 clear hu hv hg hxs hvi
 have e1:(xs.take i).length=i:=by simp;omega
 have hjn':j < xs.length:=by omega
 have ew1:IntKind.i64.wrap ((i:Int)+(ys.length:Int))=(i:Int)+(ys.length:Int):=IntWalk.i64_in _ (by omega)
 have ew2:IntKind.i64.wrap ((i:Int)+(ys.length:Int)+((xs.length - j:Nat):Int))=(i:Int)+(ys.length:Int)+((xs.length - j:Nat):Int):=IntWalk.i64_in _ (by omega)
 have hn1: ¬cap=j:=by omega
 have hn2: ¬cap=i:=by omega
 have ekk:(xs.drop j).length=xs.length - j:=by simp
 have e3:(xs.take i++ys++xs.drop j).length=i+ys.length+(xs.length - j):=by simp;omega
 have hL1:(splice l (q+i) ys).length=l.length:=length_splice _ _ _ (by omega)
 have hn3: ¬cap=i+ys.length:=by omega
 have hn4:(0:Int)<=(i:Int)+(ys.length:Int):=by omega
 have hn5:((i:Int)+(ys.length:Int)).toNat=i+ys.length:=by omega
 have hn6:(i:Int)+(ys.length:Int)<=(i:Int)+(ys.length:Int)+((xs.length - j:Nat):Int):=by omega
 have hjz:(j:Int)<=xs.length:=by omega
 have hnj: ¬xs.length - j=0:=by omega
 have hu:=HU.out
 have hct:cap=i+ys.length+(xs.length - j)\/ ¬cap=i+ys.length+(xs.length - j):=by omega
 rcases hct with rfl | hct
 all_goals
  go_enter Tryz.func44,Tryz.ntmps44
  go_wp2_with (with_reducible refine f_ (d:=97) ?_)
  go_quiet (fail)
  go_wp2_with (with_reducible refine f_ (d:=97) ?_)
  generalize hW:w.drewN nq=W
  have hE0:Ext [] w W:=hW ▸ (Ext.refl _ _).drewN _
  clear hW hu
  refine k_ rfl fun K hK=> N_ (E:=EPr) (T:=36) (g:=g) (q:=q+i) (l:=l) (ys:=ys) Tryz.underlying22 szPr rfl rfl rfl (hE0.blk HG.out (by simp)) (by omega) ?_ (by omega) ?_
  ·intro hpos
   rcases(HU.out.ext0 hE0).rd with ⟨_,h⟩ | ⟨g',o',c',h,_,_,h3⟩
   ·subst h;simp at hpos
   ·cases h;exact⟨by simp [Nat.add_mul],g',o',rfl,h3⟩
  intro w3 hb3 hext3
  have hE3:Ext [g] w w3:=hE0.nil.trans hext3
  have HB3:=hi_ hb3
  have hsrc2: ∀k u,(EPr.flat (xs.drop j))[k]? =some u->w3.cell? ⟨g,q*2+j*2+k,none⟩=some u:=by
   have hw:win (splice l (q+i) ys) q (splice xs i ys).length=splice xs i ys:=by
    rw [length_splice _ _ _ (by omega),I_ _ _ _ _ _ (by omega) (by omega),HX.out]
   have ht:(splice xs i ys).drop j=xs.drop j:=by
    apply List.ext_getElem?
    intro k
    rw [List.getElem?_drop,List.getElem?_drop,m_ _ _ _ _ (by omega),if_neg (by omega),if_neg (by omega)]
   have h:=dY_ hb3 hw j
   rwa [ht] at h
  clear hb3 hext3
  refine hK _ _ ?_
  clear hK
  go_wp2_with fail
  go_region_law ((try simp only [Act.put,zA,zB,zC,List.setIfInBounds_toArray,zD,zE]);refine iw rfl ?_;refine(N_ (s:= .tmp 103) (x:= .tmp 106) (dT:=22) (sT:=22) (E:=EPr) (T:=36) (g:=g) (q:=q+(i+ys.length)) (l:=splice l (q+i) ys) (ys:=xs.drop j) Tryz.underlying22 szPr (by rfl) (by rfl) (by rfl) (by exact HB3.out) (by simp <;> omega) (by exact fun _=> ⟨by simp [Nat.add_mul],g,q*2+j*2,rfl,hsrc2⟩) (by rw [hL1];simp;omega) ?_);intro w4 hb4 hext4)
  have hE4:Ext [g] w w4:=hE3.drew.trans hext4
  have HB4:=hi_ hb4
  clear hb4 hext4
  have hL2:(splice (splice l (q+i) ys) (q+(i+ys.length)) (xs.drop j)).length=l.length:=by rw [length_splice _ _ _ (by rw [hL1];simp;omega),hL1]
  go_wp2_with (with_reducible refine P_ ?_)
  refine k_ rfl fun K hK=> Z_ (E:=EPr) (T:=36) (zero:=([],[])) (bytes:=32) (g:=g) (q:=q+(i+ys.length+(xs.length - j))) tiEPr Tryz.underlying22 rfl rfl HB4.out ?_ (by rw [hL2];omega) ?_
  ·intro hpos
   first | (exfalso;omega) | (simp [Nat.add_mul])
  intro w5 hb5 hext5
  have hE:Ext [g] w w5:=hE4.trans hext5
  have HB5:=hi_ hb5
  clear hb5 hext5
  refine hK _ _ ?_
  clear hK
  go_wp2
  go_ret
  refine⟨_,rfl,.inr ⟨g,q,_,_,by rw [e3];rfl,HB5.out,by rw [e3];omega,by rw [length_splice _ _ _ (by rw [hL2];simp;omega),hL2];exact hq, ?_⟩,hE,fun x hx=> .inl hx⟩
  rw [e3]
  show win _ _ _=_
  apply List.ext_getElem?
  intro k
  have hx:=congrArg (fun(z:List Pr)=> z[k]?) HX.out
  simp only [v_] at hx
  rw [v_,m_ _ _ _ _ (by rw [hL2];omega),m_ _ _ _ _ (by rw [hL1];omega),m_ _ _ _ _ (by omega)]
  simp only [List.getElem?_append,e1,List.getElem?_take,ekk,List.length_append,List.getElem?_drop]
  (repeat' split) <;> first | rfl | (exfalso;omega) | (rw [<-hx,if_pos (by omega)]) | (congr 1 <;> omega) | (rw [List.getElem?_eq_none (by omega)])
theorem iC_ (g q cap:Nat) (l xs:List Pr) (i j:Nat) (w:World) (hg:w.heap[g]? =some (.cells (EPr.flat l).toArray 36 (0,0))) (hcap:xs.length<=cap) (hq:q+cap<=l.length) (hxs:win l q xs.length=xs)
  (hij:i < j) (hj:j<=xs.length) (hl:xs.length<=1000000):
  Calls Tryz.prog 55 #[.slice (some ⟨g,q*2,none⟩) xs.length cap,.int .i64 i,.int .i64 j] w (z_ EPr 36 (.slice (some ⟨g,q*2,none⟩) xs.length cap) (xs.take i++xs.drop j) w):=by
 obtain⟨HG,HX⟩:=h_2 hg hxs
 have e1:(xs.take i).length=i:=by simp;omega
 have ekk:(xs.drop j).length=xs.length - j:=by simp
 have e3:(xs.take i++xs.drop j).length=i+(xs.length - j):=by simp;omega
 clear hg hxs
 have hci: ¬cap=i:=by omega
 have hL1:(splice l (q+i) (xs.drop j)).length=l.length:=length_splice _ _ _ (by simp;omega)
 have hz1:(j:Int)<=xs.length:=by omega
 have hz2:(i:Int)<=cap:=by omega
 by_cases hjn:j=xs.length
 ·subst hjn
  have hLL:splice l (q+i) ([]:List Pr)=l:=by simp [splice]
  have hcj:xs.length=cap\/ ¬cap=xs.length:=by omega
  have ex:xs.take i++xs.drop xs.length=xs.take i:=by simp
  rw [ex]
  rcases hcj with hcj | hcj
  all_goals
   (try subst hcj)
   go_enter Tryz.func55,Tryz.ntmps55
   go_wp2_with fail
   go_region_law ((try simp only [Act.put,zA,zB,zC,List.setIfInBounds_toArray,zD,zE]);refine iw rfl ?_;refine(H_ (s:= .tmp 22) (x:= .tmp 25) (E:=EPr) (T:=36) (zero:=([],[])) (bytes:=32) (g:=g) (q:=q) (n:=i) (l:=l) (ys:= []) tiEPr Tryz.underlying22 Tryz.underlying22 (by rfl) (by rfl) (by rfl) (by exact HG.out) (by exact .inr ⟨g,_,_,rfl,Nat.zero_le _,g_ HG.out,fun _ _ h=> by simp at h⟩) (by simp;omega) (by omega) ?_);intro w2 hb2 hext2)
   rw [hLL] at hb2
   have HB2:=hi_ hb2
   have hE2:Ext [g] w w2:=(Ext.refl [g] w).drew.trans hext2
   clear hb2 hext2
   go_wp2_with (with_reducible refine P_ ?_)
   refine k_ rfl fun K hK=> Z_ (E:=EPr) (T:=36) (zero:=([],[])) (bytes:=32) (g:=g) (q:=q+i) (l:=l) tiEPr Tryz.underlying22 rfl rfl HB2.out ?_ (by omega) ?_
   ·intro hpos
    simp [Nat.add_mul]
   intro w3 hb3 hext3
   have hE:Ext [g] w w3:=hE2.trans hext3
   have HB3:=hi_ hb3
   clear hb3 hext3
   refine hK _ _ ?_
   clear hK
   go_wp2
   go_ret
   refine⟨_,rfl,.inr ⟨g,q,_,_,by rw [e1];rfl,HB3.out,by rw [e1];omega,by rw [length_splice _ _ _ (by simp;omega)];omega, ?_⟩,hE,fun x hx=> .inl hx⟩
   rw [e1]
   show win _ _ _=_
   apply List.ext_getElem?
   intro k
   have hx:=congrArg (fun(z:List Pr)=> z[k]?) HX.out
   simp only [v_] at hx
   rw [v_,m_ _ _ _ _ (by omega),List.getElem?_take]
   (repeat' split) <;> first | rfl | (exfalso;omega) | (rw [<-hx,if_pos (by omega)]) | (congr 1 <;> omega)
 ·have hn3: ¬cap=i+(xs.length - j):=by omega
  have hcj: ¬cap=j:=by omega
  go_enter Tryz.func55,Tryz.ntmps55
  go_wp2_with fail
  have hsrc: ∀W:World,W.heap[g]? =some (.cells (EPr.flat l).toArray 36 (0,0))->EPr.Rd W (.slice (some ⟨g,q*2+j*2,none⟩) (xs.length - j) (cap - j)) (xs.drop j):=by
   intro W hW
   exact .inr ⟨g,_,cap - j,by rw [ekk],by rw [ekk];omega,g_ hW,dY_ hW HX.out j⟩
  go_region_law ((try simp only [Act.put,zA,zB,zC,List.setIfInBounds_toArray,zD,zE]);refine iw rfl ?_;refine(H_ (s:= .tmp 22) (x:= .tmp 25) (E:=EPr) (T:=36) (zero:=([],[])) (bytes:=32) (g:=g) (q:=q) (n:=i) (l:=l) (ys:=xs.drop j) tiEPr Tryz.underlying22 Tryz.underlying22 (by rfl) (by rfl) (by rfl) (by exact HG.out) (by exact hsrc _ HG.out) (by rw [ekk];omega) hq ?_);intro w2 hb2 hext2)
  clear hsrc
  have HB2:=hi_ hb2
  have hE2:Ext [g] w w2:=(Ext.refl [g] w).drew.trans hext2
  clear hb2 hext2
  go_wp2_with (with_reducible refine P_ ?_)
  refine k_ rfl fun K hK=> Z_ (E:=EPr) (T:=36) (zero:=([],[])) (bytes:=32) (g:=g) (q:=q+(i+(xs.length - j))) tiEPr Tryz.underlying22 rfl rfl HB2.out ?_ (by rw [hL1];omega) ?_
  ·intro hpos
   simp [Nat.add_mul]
  intro w3 hb3 hext3
  have hE:Ext [g] w w3:=hE2.trans hext3
  have HB3:=hi_ hb3
  clear hb3 hext3
  refine hK _ _ ?_
  clear hK
  go_wp2
  go_ret
  refine⟨_,rfl,.inr ⟨g,q,_,_,by rw [e3];rfl,HB3.out,by rw [e3];omega,by rw [length_splice _ _ _ (by rw [hL1];simp;omega),hL1];exact hq, ?_⟩,hE,fun x hx=> .inl hx⟩
  rw [e3]
  show win _ _ _=_
  apply List.ext_getElem?
  intro k
  have hx:=congrArg (fun(z:List Pr)=> z[k]?) HX.out
  simp only [v_] at hx
  rw [v_,m_ _ _ _ _ (by rw [hL1];omega),m_ _ _ _ _ (by omega)]
  simp only [List.getElem?_append,e1,List.getElem?_take,ekk,List.getElem?_drop]
  (repeat' split) <;> first | rfl | (exfalso;omega) | (rw [<-hx,if_pos (by omega)]) | (congr 1 <;> omega) | (rw [List.getElem?_eq_none (by omega)])
end Go.Proofs.YtkpgjkekmdecbaaGreat
