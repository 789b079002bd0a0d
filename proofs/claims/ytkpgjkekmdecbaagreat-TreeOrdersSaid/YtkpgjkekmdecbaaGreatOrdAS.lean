/- Lemmas for the claim. No conditions beside those that each states. -/
import Derived.Test.YtkpgjkekmdecbaaGreatOrdAC
import Derived.Test.YtkpgjkekmdecbaaGreatOrdAQ
set_option maxRecDepth 100000
set_option maxHeartbeats 8000000
set_option linter.all false

namespace Go.Proofs.YtkpgjkekmdecbaaGreat
open Go.RowKit
variable {w:World} {T:TypeId}
theorem Enc.Ow.takeS {α:Type} {E:Enc α} {p:Option Addr} {n c k:Nat} {xs:List α} (h:E.Ow T w (.slice p n c) xs) (hk:k<=xs.length):E.Ow T w (.slice p k c) (xs.take k):=by
 rcases h with ⟨h,rfl⟩ | ⟨g,q,cap,l,h,h1,h2,h3,h4⟩
 ·simp only [Value.slice.injEq] at h
  obtain⟨rfl,rfl,rfl⟩:=h
  obtain rfl:k=0:=by simpa using hk
  exact .inl ⟨rfl,by simp⟩
 ·simp only [Value.slice.injEq] at h
  obtain⟨rfl,rfl,rfl⟩:=h
  refine .inr ⟨g,q,_,l,by rw [List.length_take,Nat.min_eq_left hk],h1,by rw [List.length_take];omega,h3, ?_⟩
  rw [List.length_take,Nat.min_eq_left hk]
  conv=> rhs;rw [<-h4]
  rw [List.take_take,Nat.min_eq_left hk]
def af_ {α:Type} (E:Enc α) (T:TypeId) (zs:List α) (w:World) (e:Ending) (w':World):Prop:=
 ∃u,e= .returned u/\E.Ow T w' u zs/\Ext [] w w'/\ ∀g∈blkL u,w.heap.size<=g
theorem aq_ {α:Type} (Ls:List (List α)) (i:Nat) (l:List α) (h:Ls[i]? =some l):(Ls.take (i+1)).flatten=(Ls.take i).flatten++l:=by
 rw [List.take_add_one,h,List.flatten_append];simp
theorem cF_ {α:Type} (Ls:List (List α)) (i:Nat):((Ls.take i).flatten).length<=Ls.flatten.length:=by
 have h:Ls.flatten=(Ls.take i).flatten++(Ls.drop i).flatten:=by rw [<-List.flatten_append,List.take_append_drop]
 rw [h,List.length_append];omega
theorem growPr_c (n:Nat) (w:World) (hn:n<=1000000):Calls Tryz.prog 205 #[.slice none 0 0,.int .i64 n] w (af_ EPr 36 [] w):=by
 by_cases h0:n=0
 ·subst h0
  go_enter Tryz.func205,Tryz.ntmps205
  go_wp2_with fail
  go_ret
  exact⟨_,rfl,.inl ⟨rfl,rfl⟩,Ext.refl _ _,by simp [blkL]⟩
 ·have z1:(0:Int) < (n:Int):=by omega
  have z2: ¬((n:Int) < 0):=by omega
  have hnil:EPr.Ow 36 w (.slice none 0 0) []:= .inl ⟨rfl,rfl⟩
  go_enter Tryz.func205,Tryz.ntmps205
  go_wp2_with (with_reducible refine f_ (d:=22) ?_)
  refine k_ rfl fun K hK=> L_ (E:=EPr) (T:=36) (zero:=([],[])) (bytes:=32) (v:= .slice none 0 0) (xs:= []) (n:=n) tiEPr Tryz.underlying22 Tryz.underlying3 rfl rfl rfl hnil (by simp;omega) (by simp;omega) ?_
  intro v1 w1 how hext hnear _
  rw [List.nil_append] at how
  obtain⟨p,c,rfl,_⟩:=how.rd.len_eq
  have ht:=how.takeS (Nat.zero_le _)
  rw [List.take_zero] at ht
  have hf: ∀g∈blkL (.slice p 0 c),w.heap.size<=g:=fun g hg=> by
   have:=hnear g (by cases p with | none=> simp [blkL] at hg | some a=> simpa [blkL] using hg)
   simpa [blkL] using this
  have hE:Ext [] w w1:=by simpa [blkL] using hext
  obtain⟨HT,HF⟩:=h_2 ht hf
  refine hK _ _ ?_
  clear hK how hext hnear ht hf hnil
  simp only [List.length_replicate]
  go_wp2_with fail
  go_ret
  exact⟨_,rfl,HT.out,hE,HF.out⟩
theorem growKy_c (n:Nat) (w:World) (hn:n<=1000000):Calls Tryz.prog 207 #[.slice none 0 0,.int .i64 n] w (af_ EKy 9 [] w):=by
 by_cases h0:n=0
 ·subst h0
  go_enter Tryz.func207,Tryz.ntmps207
  go_wp2_with fail
  go_ret
  exact⟨_,rfl,.inl ⟨rfl,rfl⟩,Ext.refl _ _,by simp [blkL]⟩
 ·have z1:(0:Int) < (n:Int):=by omega
  have z2: ¬((n:Int) < 0):=by omega
  have hnil:EKy.Ow 9 w (.slice none 0 0) []:= .inl ⟨rfl,rfl⟩
  go_enter Tryz.func207,Tryz.ntmps207
  go_wp2_with (with_reducible refine f_ (d:=22) ?_)
  refine k_ rfl fun K hK=> L_ (E:=EKy) (T:=9) (zero:= []) (bytes:=16) (v:= .slice none 0 0) (xs:= []) (n:=n) tiEKy Tryz.underlying122 Tryz.underlying3 rfl rfl rfl hnil (by simp;omega) (by simp;omega) ?_
  intro v1 w1 how hext hnear _
  rw [List.nil_append] at how
  obtain⟨p,c,rfl,_⟩:=how.rd.len_eq
  have ht:=how.takeS (Nat.zero_le _)
  rw [List.take_zero] at ht
  have hf: ∀g∈blkL (.slice p 0 c),w.heap.size<=g:=fun g hg=> by
   have:=hnear g (by cases p with | none=> simp [blkL] at hg | some a=> simpa [blkL] using hg)
   simpa [blkL] using this
  have hE:Ext [] w w1:=by simpa [blkL] using hext
  obtain⟨HT,HF⟩:=h_2 ht hf
  refine hK _ _ ?_
  clear hK how hext hnear ht hf hnil
  simp only [List.length_replicate]
  go_wp2_with fail
  go_ret
  exact⟨_,rfl,HT.out,hE,HF.out⟩
theorem growRf_c (n:Nat) (w:World) (hn:n<=1000000):Calls Tryz.prog 206 #[.slice none 0 0,.int .i64 n] w (af_ ERf 89 [] w):=by
 by_cases h0:n=0
 ·subst h0
  go_enter Tryz.func206,Tryz.ntmps206
  go_wp2_with fail
  go_ret
  exact⟨_,rfl,.inl ⟨rfl,rfl⟩,Ext.refl _ _,by simp [blkL]⟩
 ·have z1:(0:Int) < (n:Int):=by omega
  have z2: ¬((n:Int) < 0):=by omega
  have hnil:ERf.Ow 89 w (.slice none 0 0) []:= .inl ⟨rfl,rfl⟩
  go_enter Tryz.func206,Tryz.ntmps206
  go_wp2_with (with_reducible refine f_ (d:=22) ?_)
  refine k_ rfl fun K hK=> L_ (E:=ERf) (T:=89) (zero:=R0) (bytes:=48) (v:= .slice none 0 0) (xs:= []) (n:=n) tiERf Tryz.underlying123 Tryz.underlying3 rfl rfl rfl hnil (by simp;omega) (by simp;omega) ?_
  intro v1 w1 how hext hnear _
  rw [List.nil_append] at how
  obtain⟨p,c,rfl,_⟩:=how.rd.len_eq
  have ht:=how.takeS (Nat.zero_le _)
  rw [List.take_zero] at ht
  have hf: ∀g∈blkL (.slice p 0 c),w.heap.size<=g:=fun g hg=> by
   have:=hnear g (by cases p with | none=> simp [blkL] at hg | some a=> simpa [blkL] using hg)
   simpa [blkL] using this
  have hE:Ext [] w w1:=by simpa [blkL] using hext
  obtain⟨HT,HF⟩:=h_2 ht hf
  refine hK _ _ ?_
  clear hK how hext hnear ht hf hnil
  simp only [List.length_replicate]
  go_wp2_with fail
  go_ret
  exact⟨_,rfl,HT.out,hE,HF.out⟩
theorem eq_ {T2:TypeId} (b c:Nat) (vs:List Value) (Ls:List (List _)) (w:World) (hb:w.heap[b]? =some (.cells vs.toArray T2 (0,0))) (hl:vs.length=Ls.length) (hr: ∀(i:Nat) v l,vs[i]? =some v->Ls[i]? =some l->EPr.Rd w v l) (hs:Ls.flatten.length<=1000000) (h9:vs.length<=9):
  Calls Tryz.prog 179 #[.slice (some ⟨b,0,none⟩) vs.length c] w (af_ EPr 36 Ls.flatten w):=by
 obtain⟨HB,HR,HS⟩:=h_3 hb hr hs
 obtain⟨N,hN⟩: ∃N,N=vs.length:=⟨_,rfl⟩
 have hNL:N=Ls.length:=by rw [hN,hl]
 rw [<-hN] at h9 ⊢
 obtain⟨HN,HNL⟩:=h_2 hN hNL
 have HM:Hid (∀i,((Ls.take i).flatten).length<=1000000):=hi_ (fun i=> Nat.le_trans (cF_ Ls i) hs)
 clear hb hl hr hs hN hNL
 go_enter Tryz.func179,Tryz.ntmps179
 go_wp2_with fail
 go_loopw [3,5,11] (fun sv _ iv wr=> ∃i m:Nat,i<=N/\iv= .int .i64 i/\Hid (m=((Ls.take i).flatten).length)/\m<=1000000/\sv= .int .i64 m/\Ext [] w wr) (fun _ _ iv _=> N - (intOf iv).toNat)
 case atStart=> exact⟨0,0,Nat.zero_le _,rfl,hi_ (by simp),by omega,rfl,Ext.refl _ _⟩
 case round=>
  obtain⟨i,m,hi,rfl,HI,hm,rfl,hE0⟩:=hrel
  by_cases hlt:i < N
  ·have z1:(i:Int) < (N:Int):=by omega
   have hiv:i < vs.length:=by rw [<-HN.out];exact hlt
   have hil:i < Ls.length:=by rw [<-HNL.out];exact hlt
   obtain⟨p,cap,hv,hcap⟩:=(HR.out i _ _ (List.getElem?_eq_getElem hiv) (List.getElem?_eq_getElem hil)).len_eq
   have hcell:wr.cell? ⟨b,i,none⟩=some (.slice p Ls[i].length cap):=by
    rw [cell_of_row _ _ i _ _ _ (hE0.blk HB.out (by simp))]
    simp only [List.getElem?_toArray]
    rw [List.getElem?_eq_getElem hiv,hv]
   have hst:=aq_ Ls i _ (List.getElem?_eq_getElem hil)
   have hm2:=HM.out (i+1)
   rw [hst,List.length_append,<-HI.out] at hm2
   have HI2:Hid (m+Ls[i].length=((Ls.take (i+1)).flatten).length):=hi_ (by rw [hst,List.length_append,HI.out])
   obtain⟨k,hk⟩: ∃k,k=Ls[i].length:=⟨_,rfl⟩
   rw [<-hk] at hcell HI2 hm2 hcap
   have z2: ¬((m:Int)+(k:Int) < 0):=by omega
   clear hv hst hk hiv hil
   go_wp2_with fail
   go_roundw
   case rel=> exact⟨i+1,m+k,by omega,by go_num,HI2,hm2,by go_num,hE0⟩
   case measure=> simp [intOf];omega
  ·have z1: ¬((i:Int) < (N:Int)):=by omega
   go_wp2_with fail
   refine(growPr_c m _ hm).mono ?_
   rintro e W1 ⟨u,rfl,how,hE,hf⟩
   obtain⟨p0,c0,rfl,_⟩:=how.rd.len_eq
   simp only [List.length_nil] at how hf ⊢
   have HOW:=hi_ how
   have HF:Hid (∀g∈blkL (.slice p0 0 c0),w.heap.size<=g):=hi_ (fun g hg=> Nat.le_trans hE0.size (hf g hg))
   have hE1:=hE0.trans hE
   clear how hf HI hm hlt hi z1 hE hE0
   go_wp2_with fail
   go_loopw [6,8,27] (fun sv _ iv wr=> ∃i:Nat,i<=N/\iv= .int .i64 i/\Hid (EPr.Ow 36 wr sv ((Ls.take i).flatten))/\Hid (∀g∈blkL sv,w.heap.size<=g)/\Hid (Ext [] w wr)) (fun _ _ iv _=> N - (intOf iv).toNat)
   case atStart=> exact⟨0,Nat.zero_le _,rfl,hi_ (by simpa using HOW.out),HF,hi_ hE1⟩
   case round=>
    clear hE1
    obtain⟨i,hi,rfl,HO,HFR,HE⟩:=hrel
    by_cases hlt:i < N
    ·have z1:(i:Int) < (N:Int):=by omega
     have hiv:i < vs.length:=by rw [<-HN.out];exact hlt
     have hil:i < Ls.length:=by rw [<-HNL.out];exact hlt
     have hrd:=HR.out i _ _ (List.getElem?_eq_getElem hiv) (List.getElem?_eq_getElem hil)
     obtain⟨p,cap,hv,hcap⟩:=hrd.len_eq
     have hcell:wr.cell? ⟨b,i,none⟩=some (.slice p Ls[i].length cap):=by
      rw [cell_of_row _ _ i _ _ _ (HE.out.blk HB.out (by simp))]
      simp only [List.getElem?_toArray]
      rw [List.getElem?_eq_getElem hiv,hv]
     have hst:=aq_ Ls i _ (List.getElem?_eq_getElem hil)
     have hm2:=HM.out (i+1)
     rw [hst,List.length_append] at hm2
     rw [hv] at hrd
     obtain⟨l,hll⟩: ∃l,l=Ls[i]:=⟨_,rfl⟩
     rw [<-hll] at hcell hst hm2 hrd hcap
     have HST:=hi_ hst
     have HRD:=hi_ (hrd.ext0 HE.out)
     obtain⟨A,hA⟩: ∃A,A=(Ls.take i).flatten:=⟨_,rfl⟩
     rw [<-hA] at HO HST hm2
     obtain⟨ps,cs,rfl,_⟩:=HO.out.rd.len_eq
     clear hv hst hll hrd hiv hil hA
     go_wp2_with (with_reducible refine f_ (d:=33) ?_)
     refine k_ rfl fun K hK=> b_ (E:=EPr) (T:=36) (zero:=([],[])) (bytes:=32) (v:= .slice ps A.length cs) (u:= .slice p l.length cap) (xs:=A) (ys:=l) tiEPr Tryz.underlying22 Tryz.underlying22 rfl rfl rfl HO.out HRD.out (by omega) (by omega) ?_
     intro v' w' how hext hnear _
     rw [<-HST.out] at how
     have hup:=bY_ hext hnear HE.out.size HFR.out w rfl HE.out (by simp)
     obtain⟨hE',hf'⟩:=hup
     obtain⟨HO2,HF2,HE2⟩:=h_3 how hf' hE'
     refine hK _ _ ?_
     clear hK hcell hext hnear how hE' hf' HO HFR HE HRD HST hm2
     go_wp2_with fail
     go_roundw
     case rel=> exact⟨i+1,by omega,by go_num,HO2,HF2,HE2⟩
     case measure=> simp [intOf];omega
    ·have z1: ¬((i:Int) < (N:Int)):=by omega
     have hiN:i=N:=by omega
     have hall:(Ls.take i).flatten=Ls.flatten:=by rw [List.take_of_length_le (by rw [hiN,HNL.out];exact Nat.le_refl _)]
     go_wp2
     go_ret
     exact⟨_,rfl,by rw [<-hall];exact HO.out,HE.out,HFR.out⟩
theorem iH_ {T2:TypeId} (b c:Nat) (vs:List Value) (Ls:List (List _)) (w:World) (hb:w.heap[b]? =some (.cells vs.toArray T2 (0,0))) (hl:vs.length=Ls.length) (hr: ∀(i:Nat) v l,vs[i]? =some v->Ls[i]? =some l->EKy.Rd w v l) (hs:Ls.flatten.length<=1000000) (h9:vs.length<=9):
  Calls Tryz.prog 181 #[.slice (some ⟨b,0,none⟩) vs.length c] w (af_ EKy 9 Ls.flatten w):=by
 obtain⟨HB,HR,HS⟩:=h_3 hb hr hs
 obtain⟨N,hN⟩: ∃N,N=vs.length:=⟨_,rfl⟩
 have hNL:N=Ls.length:=by rw [hN,hl]
 rw [<-hN] at h9 ⊢
 obtain⟨HN,HNL⟩:=h_2 hN hNL
 have HM:Hid (∀i,((Ls.take i).flatten).length<=1000000):=hi_ (fun i=> Nat.le_trans (cF_ Ls i) hs)
 clear hb hl hr hs hN hNL
 go_enter Tryz.func181,Tryz.ntmps181
 go_wp2_with fail
 go_loopw [3,5,11] (fun sv _ iv wr=> ∃i m:Nat,i<=N/\iv= .int .i64 i/\Hid (m=((Ls.take i).flatten).length)/\m<=1000000/\sv= .int .i64 m/\Ext [] w wr) (fun _ _ iv _=> N - (intOf iv).toNat)
 case atStart=> exact⟨0,0,Nat.zero_le _,rfl,hi_ (by simp),by omega,rfl,Ext.refl _ _⟩
 case round=>
  obtain⟨i,m,hi,rfl,HI,hm,rfl,hE0⟩:=hrel
  by_cases hlt:i < N
  ·have z1:(i:Int) < (N:Int):=by omega
   have hiv:i < vs.length:=by rw [<-HN.out];exact hlt
   have hil:i < Ls.length:=by rw [<-HNL.out];exact hlt
   obtain⟨p,cap,hv,hcap⟩:=(HR.out i _ _ (List.getElem?_eq_getElem hiv) (List.getElem?_eq_getElem hil)).len_eq
   have hcell:wr.cell? ⟨b,i,none⟩=some (.slice p Ls[i].length cap):=by
    rw [cell_of_row _ _ i _ _ _ (hE0.blk HB.out (by simp))]
    simp only [List.getElem?_toArray]
    rw [List.getElem?_eq_getElem hiv,hv]
   have hst:=aq_ Ls i _ (List.getElem?_eq_getElem hil)
   have hm2:=HM.out (i+1)
   rw [hst,List.length_append,<-HI.out] at hm2
   have HI2:Hid (m+Ls[i].length=((Ls.take (i+1)).flatten).length):=hi_ (by rw [hst,List.length_append,HI.out])
   obtain⟨k,hk⟩: ∃k,k=Ls[i].length:=⟨_,rfl⟩
   rw [<-hk] at hcell HI2 hm2 hcap
   have z2: ¬((m:Int)+(k:Int) < 0):=by omega
   clear hv hst hk hiv hil
   go_wp2_with fail
   go_roundw
   case rel=> exact⟨i+1,m+k,by omega,by go_num,HI2,hm2,by go_num,hE0⟩
   case measure=> simp [intOf];omega
  ·have z1: ¬((i:Int) < (N:Int)):=by omega
   go_wp2_with fail
   refine(growKy_c m _ hm).mono ?_
   rintro e W1 ⟨u,rfl,how,hE,hf⟩
   obtain⟨p0,c0,rfl,_⟩:=how.rd.len_eq
   simp only [List.length_nil] at how hf ⊢
   have HOW:=hi_ how
   have HF:Hid (∀g∈blkL (.slice p0 0 c0),w.heap.size<=g):=hi_ (fun g hg=> Nat.le_trans hE0.size (hf g hg))
   have hE1:=hE0.trans hE
   clear how hf HI hm hlt hi z1 hE hE0
   go_wp2_with fail
   go_loopw [6,8,27] (fun sv _ iv wr=> ∃i:Nat,i<=N/\iv= .int .i64 i/\Hid (EKy.Ow 9 wr sv ((Ls.take i).flatten))/\Hid (∀g∈blkL sv,w.heap.size<=g)/\Hid (Ext [] w wr)) (fun _ _ iv _=> N - (intOf iv).toNat)
   case atStart=> exact⟨0,Nat.zero_le _,rfl,hi_ (by simpa using HOW.out),HF,hi_ hE1⟩
   case round=>
    clear hE1
    obtain⟨i,hi,rfl,HO,HFR,HE⟩:=hrel
    by_cases hlt:i < N
    ·have z1:(i:Int) < (N:Int):=by omega
     have hiv:i < vs.length:=by rw [<-HN.out];exact hlt
     have hil:i < Ls.length:=by rw [<-HNL.out];exact hlt
     have hrd:=HR.out i _ _ (List.getElem?_eq_getElem hiv) (List.getElem?_eq_getElem hil)
     obtain⟨p,cap,hv,hcap⟩:=hrd.len_eq
     have hcell:wr.cell? ⟨b,i,none⟩=some (.slice p Ls[i].length cap):=by
      rw [cell_of_row _ _ i _ _ _ (HE.out.blk HB.out (by simp))]
      simp only [List.getElem?_toArray]
      rw [List.getElem?_eq_getElem hiv,hv]
     have hst:=aq_ Ls i _ (List.getElem?_eq_getElem hil)
     have hm2:=HM.out (i+1)
     rw [hst,List.length_append] at hm2
     rw [hv] at hrd
     obtain⟨l,hll⟩: ∃l,l=Ls[i]:=⟨_,rfl⟩
     rw [<-hll] at hcell hst hm2 hrd hcap
     have HST:=hi_ hst
     have HRD:=hi_ (hrd.ext0 HE.out)
     obtain⟨A,hA⟩: ∃A,A=(Ls.take i).flatten:=⟨_,rfl⟩
     rw [<-hA] at HO HST hm2
     obtain⟨ps,cs,rfl,_⟩:=HO.out.rd.len_eq
     clear hv hst hll hrd hiv hil hA
     go_wp2_with (with_reducible refine f_ (d:=33) ?_)
     refine k_ rfl fun K hK=> b_ (E:=EKy) (T:=9) (zero:= []) (bytes:=16) (v:= .slice ps A.length cs) (u:= .slice p l.length cap) (xs:=A) (ys:=l) tiEKy Tryz.underlying122 Tryz.underlying122 rfl rfl rfl HO.out HRD.out (by omega) (by omega) ?_
     intro v' w' how hext hnear _
     rw [<-HST.out] at how
     have hup:=bY_ hext hnear HE.out.size HFR.out w rfl HE.out (by simp)
     obtain⟨hE',hf'⟩:=hup
     obtain⟨HO2,HF2,HE2⟩:=h_3 how hf' hE'
     refine hK _ _ ?_
     clear hK hcell hext hnear how hE' hf' HO HFR HE HRD HST hm2
     go_wp2_with fail
     go_roundw
     case rel=> exact⟨i+1,by omega,by go_num,HO2,HF2,HE2⟩
     case measure=> simp [intOf];omega
    ·have z1: ¬((i:Int) < (N:Int)):=by omega
     have hiN:i=N:=by omega
     have hall:(Ls.take i).flatten=Ls.flatten:=by rw [List.take_of_length_le (by rw [hiN,HNL.out];exact Nat.le_refl _)]
     go_wp2
     go_ret
     exact⟨_,rfl,by rw [<-hall];exact HO.out,HE.out,HFR.out⟩
theorem ep_ {T2:TypeId} (b c:Nat) (vs:List Value) (Ls:List (List _)) (w:World) (hb:w.heap[b]? =some (.cells vs.toArray T2 (0,0))) (hl:vs.length=Ls.length) (hr: ∀(i:Nat) v l,vs[i]? =some v->Ls[i]? =some l->ERf.Rd w v l) (hs:Ls.flatten.length<=1000000) (h9:vs.length<=9):
  Calls Tryz.prog 180 #[.slice (some ⟨b,0,none⟩) vs.length c] w (af_ ERf 89 Ls.flatten w):=by
 obtain⟨HB,HR,HS⟩:=h_3 hb hr hs
 obtain⟨N,hN⟩: ∃N,N=vs.length:=⟨_,rfl⟩
 have hNL:N=Ls.length:=by rw [hN,hl]
 rw [<-hN] at h9 ⊢
 obtain⟨HN,HNL⟩:=h_2 hN hNL
 have HM:Hid (∀i,((Ls.take i).flatten).length<=1000000):=hi_ (fun i=> Nat.le_trans (cF_ Ls i) hs)
 clear hb hl hr hs hN hNL
 go_enter Tryz.func180,Tryz.ntmps180
 go_wp2_with fail
 go_loopw [3,5,11] (fun sv _ iv wr=> ∃i m:Nat,i<=N/\iv= .int .i64 i/\Hid (m=((Ls.take i).flatten).length)/\m<=1000000/\sv= .int .i64 m/\Ext [] w wr) (fun _ _ iv _=> N - (intOf iv).toNat)
 case atStart=> exact⟨0,0,Nat.zero_le _,rfl,hi_ (by simp),by omega,rfl,Ext.refl _ _⟩
 case round=>
  obtain⟨i,m,hi,rfl,HI,hm,rfl,hE0⟩:=hrel
  by_cases hlt:i < N
  ·have z1:(i:Int) < (N:Int):=by omega
   have hiv:i < vs.length:=by rw [<-HN.out];exact hlt
   have hil:i < Ls.length:=by rw [<-HNL.out];exact hlt
   obtain⟨p,cap,hv,hcap⟩:=(HR.out i _ _ (List.getElem?_eq_getElem hiv) (List.getElem?_eq_getElem hil)).len_eq
   have hcell:wr.cell? ⟨b,i,none⟩=some (.slice p Ls[i].length cap):=by
    rw [cell_of_row _ _ i _ _ _ (hE0.blk HB.out (by simp))]
    simp only [List.getElem?_toArray]
    rw [List.getElem?_eq_getElem hiv,hv]
   have hst:=aq_ Ls i _ (List.getElem?_eq_getElem hil)
   have hm2:=HM.out (i+1)
   rw [hst,List.length_append,<-HI.out] at hm2
   have HI2:Hid (m+Ls[i].length=((Ls.take (i+1)).flatten).length):=hi_ (by rw [hst,List.length_append,HI.out])
   obtain⟨k,hk⟩: ∃k,k=Ls[i].length:=⟨_,rfl⟩
   rw [<-hk] at hcell HI2 hm2 hcap
   have z2: ¬((m:Int)+(k:Int) < 0):=by omega
   clear hv hst hk hiv hil
   go_wp2_with fail
   go_roundw
   case rel=> exact⟨i+1,m+k,by omega,by go_num,HI2,hm2,by go_num,hE0⟩
   case measure=> simp [intOf];omega
  ·have z1: ¬((i:Int) < (N:Int)):=by omega
   go_wp2_with fail
   refine(growRf_c m _ hm).mono ?_
   rintro e W1 ⟨u,rfl,how,hE,hf⟩
   obtain⟨p0,c0,rfl,_⟩:=how.rd.len_eq
   simp only [List.length_nil] at how hf ⊢
   have HOW:=hi_ how
   have HF:Hid (∀g∈blkL (.slice p0 0 c0),w.heap.size<=g):=hi_ (fun g hg=> Nat.le_trans hE0.size (hf g hg))
   have hE1:=hE0.trans hE
   clear how hf HI hm hlt hi z1 hE hE0
   go_wp2_with fail
   go_loopw [6,8,27] (fun sv _ iv wr=> ∃i:Nat,i<=N/\iv= .int .i64 i/\Hid (ERf.Ow 89 wr sv ((Ls.take i).flatten))/\Hid (∀g∈blkL sv,w.heap.size<=g)/\Hid (Ext [] w wr)) (fun _ _ iv _=> N - (intOf iv).toNat)
   case atStart=> exact⟨0,Nat.zero_le _,rfl,hi_ (by simpa using HOW.out),HF,hi_ hE1⟩
   case round=>
    clear hE1
    obtain⟨i,hi,rfl,HO,HFR,HE⟩:=hrel
    by_cases hlt:i < N
    ·have z1:(i:Int) < (N:Int):=by omega
     have hiv:i < vs.length:=by rw [<-HN.out];exact hlt
     have hil:i < Ls.length:=by rw [<-HNL.out];exact hlt
     have hrd:=HR.out i _ _ (List.getElem?_eq_getElem hiv) (List.getElem?_eq_getElem hil)
     obtain⟨p,cap,hv,hcap⟩:=hrd.len_eq
     have hcell:wr.cell? ⟨b,i,none⟩=some (.slice p Ls[i].length cap):=by
      rw [cell_of_row _ _ i _ _ _ (HE.out.blk HB.out (by simp))]
      simp only [List.getElem?_toArray]
      rw [List.getElem?_eq_getElem hiv,hv]
     have hst:=aq_ Ls i _ (List.getElem?_eq_getElem hil)
     have hm2:=HM.out (i+1)
     rw [hst,List.length_append] at hm2
     rw [hv] at hrd
     obtain⟨l,hll⟩: ∃l,l=Ls[i]:=⟨_,rfl⟩
     rw [<-hll] at hcell hst hm2 hrd hcap
     have HST:=hi_ hst
     have HRD:=hi_ (hrd.ext0 HE.out)
     obtain⟨A,hA⟩: ∃A,A=(Ls.take i).flatten:=⟨_,rfl⟩
     rw [<-hA] at HO HST hm2
     obtain⟨ps,cs,rfl,_⟩:=HO.out.rd.len_eq
     clear hv hst hll hrd hiv hil hA
     go_wp2_with (with_reducible refine f_ (d:=33) ?_)
     refine k_ rfl fun K hK=> b_ (E:=ERf) (T:=89) (zero:=R0) (bytes:=48) (v:= .slice ps A.length cs) (u:= .slice p l.length cap) (xs:=A) (ys:=l) tiERf Tryz.underlying123 Tryz.underlying123 rfl rfl rfl HO.out HRD.out (by omega) (by omega) ?_
     intro v' w' how hext hnear _
     rw [<-HST.out] at how
     have hup:=bY_ hext hnear HE.out.size HFR.out w rfl HE.out (by simp)
     obtain⟨hE',hf'⟩:=hup
     obtain⟨HO2,HF2,HE2⟩:=h_3 how hf' hE'
     refine hK _ _ ?_
     clear hK hcell hext hnear how hE' hf' HO HFR HE HRD HST hm2
     go_wp2_with fail
     go_roundw
     case rel=> exact⟨i+1,by omega,by go_num,HO2,HF2,HE2⟩
     case measure=> simp [intOf];omega
    ·have z1: ¬((i:Int) < (N:Int)):=by omega
     have hiN:i=N:=by omega
     have hall:(Ls.take i).flatten=Ls.flatten:=by rw [List.take_of_length_le (by rw [hiN,HNL.out];exact Nat.le_refl _)]
     go_wp2
     go_ret
     exact⟨_,rfl,by rw [<-hall];exact HO.out,HE.out,HFR.out⟩
end Go.Proofs.YtkpgjkekmdecbaaGreat
