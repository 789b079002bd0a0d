/- Lemmas for the claim. No conditions beside those that each states. -/
import Derived.Test.YtkpgjkekmdecbaaGreatOrdAH
import Derived.BigQuiet
import Derived.Test.YtkpgjkekmdecbaaGreatOrdAC
import Derived.WalkLawsBesides
set_option maxRecDepth 100000
set_option maxHeartbeats 8000000
set_option linter.all false

namespace Go.Proofs.YtkpgjkekmdecbaaGreat
open Go.RowKit
variable {w:World} {g:Nat} {l:List Pr}
theorem less_c (a b:Int) (w:World):Calls Tryz.prog 222 #[.int .i64 a,.int .i64 b] w fun e w'=> e= .returned (.bool (decide (a < b)))/\w'=w:=by
 go_enter Tryz.func222,Tryz.ntmps222
 go_wp2_with (go_at_call 194;refine(eT_ _ _).mono ?_;rintro e w' ⟨rfl,rfl⟩)
 go_ret
 exact⟨rfl,rfl⟩
theorem len64_c (n:Nat) (hn:n<=12) (w:World):Calls Tryz.prog 131 #[.int .u64 n] w fun e w'=> ∃m:Int,e= .returned (.int .i64 m)/\w'=w:=by
 rcases(show n=0\/n=1\/n=2\/n=3\/n=4\/n=5\/n=6\/n=7\/n=8\/n=9\/n=10\/n=11\/n=12 by omega) with rfl | rfl | rfl | rfl | rfl | rfl | rfl | rfl | rfl | rfl | rfl | rfl | rfl <;>
 ·go_enter Tryz.func131,Tryz.ntmps131
  go_wp2
  go_ret
  exact⟨_,rfl,rfl⟩
theorem dw_ {L:List Int} (hg:w.heap[g]? =some (.cells (EI.flat L).toArray 3 (0,0))) (j:Nat) (hj:j < L.length):w.cell? ⟨g,j,none⟩=some (.int .i64 (L.getD j 0)):=by
 rw [cell_of_row w g j _ _ _ hg]
 simp [flatI,List.getD,hj]
theorem hp_ {L:List Int} (hg:w.heap[g]? =some (.cells (EI.flat L).toArray 3 (0,0))) (i:Nat) (x:Int):(w.setCell ⟨g,i,none⟩ (.int .i64 x)).heap[g]? =some (.cells (EI.flat (L.set i x)).toArray 3 (0,0)):=by
 rw [heap_setCell_same w g i _ _ _ hg]
 congr 2
 apply Array.ext'
 rw [flatI,flatI]
 simp [List.map_set]
def Good (p:Int->Prop) (L:List Int) (o n:Nat):Prop:= ∀i,i < n->p (L.getD (o+i) 0)
theorem Good.swap {p:Int->Prop} {L:List Int} {o n:Nat} (h:Good p L o n) (hl:o+n<=L.length) {i j:Nat} (hi:i < n) (hj:j < n):Good p ((L.set (o+i) (L.getD (o+j) 0)).set (o+j) (L.getD (o+i) 0)) o n:=by
 intro q hq
 by_cases h1:q=j
 ·subst h1
  rw [List.getD_eq_getElem?_getD,List.getElem?_set_self (by simp;omega)]
  exact h i hi
 ·rw [List.getD_eq_getElem?_getD,List.getElem?_set_ne (by omega)]
  by_cases h2:q=i
  ·subst h2
   rw [List.getElem?_set_self (by omega)]
   exact h j hj
  ·rw [List.getElem?_set_ne (by omega),<-List.getD_eq_getElem?_getD]
   exact h q hq
theorem isort_c (p:Int->Prop) (g o n c:Nat) (L:List Int) (w:World) (hg:w.heap[g]? =some (.cells (EI.flat L).toArray 3 (0,0))) (hl:o+n<=L.length) (hn:n<=12) (hp:Good p L o n):
  Calls Tryz.prog 216 #[.slice (some ⟨g,o,none⟩) n c,.int .i64 0,.int .i64 n] w fun e w'=> e= .returned (.tuple #[])/\ ∃L',w'.heap[g]? =some (.cells (EI.flat L').toArray 3 (0,0))/\L'.length=L.length/\Good p L' o n/\Ext [g] w w':=by
 obtain⟨HG,HP⟩:=h_2 hg hp
 obtain⟨B,hB⟩: ∃B,B=L.length:=⟨_,rfl⟩
 have HB:=hi_ hB.symm
 rw [<-hB] at hl ⊢
 clear hg hp hB
 go_enter Tryz.func216,Tryz.ntmps216
 go_wp2_with fail
 go_loopw [6,7] (fun iv _ wr=> ∃(i:Nat) (L':List Int),1<=i/\i<=13/\iv= .int .i64 i/\Ext [g] w wr/\Hid (wr.heap[g]? =some (.cells (EI.flat L').toArray 3 (0,0)))/\Hid (L'.length=B)/\Hid (Good p L' o n)) (fun iv _ _=> 14 - (intOf iv).toNat)
 case atStart=> exact⟨1,L,by omega,by omega,rfl,Ext.refl _ _,HG,HB,HP⟩
 case round=>
  obtain⟨i,L1,hi1,hi2,rfl,hE1,HG1,HB1,HP1⟩:=hrel
  by_cases hlt:i < n
  ·have z1:(i:Int) < (n:Int):=by omega
   have z2:IntKind.i64.wrap ((i:Int)+1)=(i:Int)+1:=IntWalk.i64_in _ (by omega)
   go_wp2_with fail
   go_loopw [7] (fun jv wr=> ∃(j:Nat) (L':List Int),j<=i/\jv= .int .i64 j/\Ext [g] w wr/\Hid (wr.heap[g]? =some (.cells (EI.flat L').toArray 3 (0,0)))/\Hid (L'.length=B)/\Hid (Good p L' o n)) (fun jv _=> (intOf jv).toNat)
   case atStart=> exact⟨i,L1,by omega,rfl,hE1,HG1,HB1,HP1⟩
   case round=>
    obtain⟨j,L2,hj,rfl,hE2,HG2,HB2,HP2⟩:=hrel
    by_cases hj0:0 < j
    ·have y1:(0:Int) < (j:Int):=by omega
     obtain⟨t,ht⟩: ∃t:Nat,(j:Int) - 1=(t:Int):=⟨j - 1,by omega⟩
     have htj:t+1=j:=by omega
     have y2:IntKind.i64.wrap ((j:Int) - 1)=(t:Int):=by rw [ht];exact IntWalk.i64_in _ (by omega)
     have y3:(j:Int) < (n:Int):=by omega
     have y4:(0:Int)<=(j:Int):=by omega
     have y5:(t:Int) < (n:Int):=by omega
     have y6:(0:Int)<=(t:Int):=by omega
     have hc1:=dw_ HG2.out (o+j) (by rw [HB2.out];omega)
     have hc2:=dw_ HG2.out (o+t) (by rw [HB2.out];omega)
     obtain⟨x,hx⟩: ∃x,x=L2.getD (o+j) 0:=⟨_,rfl⟩
     obtain⟨y,hy⟩: ∃x,x=L2.getD (o+t) 0:=⟨_,rfl⟩
     rw [<-hx] at hc1
     rw [<-hy] at hc2
     obtain⟨HX,HY,HTJ⟩:=h_3 hx hy htj
     clear hx hy ht htj
     by_cases hxy:x < y
     ·have hxy':decide (x < y)=true:=by simpa using hxy
      go_wp2_with fail
      go_big_quiet ((go_at_call 222;refine Calls.quiet_of_same (less_c x y _)))
      clear hxy' hxy
      go_wp2_with fail
      have hD:Ext [] wr (wr.drewN nq).drew:=((Ext.refl [] wr).drewN nq).drew
      have hd1:=hD.cell hc1 (by simp)
      have hd2:=hD.cell hc2 (by simp)
      have HGD:=hi_ (hD.blk HG2.out (by simp))
      have hE2D:Ext [g] w (wr.drewN nq).drew:=(hE2.drewN nq).drew
      clear hc1 hc2 hD
      refine e_ (fun W=> W.cell? ⟨g,o+j,none⟩=some (.int .i64 x)/\W.cell? ⟨g,o+t,none⟩=some (.int .i64 y)) (fun i=> i==9 || i==13) (by kernel_rfl) ⟨hd1,hd2⟩ (fun hS=> ?_)
      refine PUq 0 ?_;(try go_frame)
      refine PUq 1 ?_;(try go_frame)
      refine PUq 2 ?_;(try go_frame)
      refine PUq 3 ?_;(try go_frame)
      refine PUq 4 ?_;(try go_frame)
      refine PUq 5 ?_;(try go_frame)
      refine PUq 6 ?_;(try go_frame)
      refine PUq 7 ?_;(try go_frame)
      refine PUq 8 ?_;(try go_frame)
      refine PUq 10 ?_;(try go_frame)
      simp only [zA,zB,zC,zD,zE]
      refine PUq 11 ?_;(try go_frame)
      simp only [zA,zB,zC,zD,zE]
      refine PUq 12 ?_;(try go_frame)
      simp only [zA,zB,zC,zD,zE]
      refine ta 9 ?_;(try go_frame)
      simp only [zA,zB,zC,zD,zE]
      refine ta 13 ?_;(try go_frame)
      simp only [zA,zB,zC,zD,zE]
      refine PUq 14 ?_;(try go_frame)
      simp only [zA,zB,zC,zD,zE]
      have fz0: ∀q,(wr.drewN nq).drew.frozen? ⟨g,q,none⟩=false:=fun q=> frozen_of_row _ _ _ _ _ HGD.out
      clear hS
      revert HGD hE2D fz0 hd1 hd2
      generalize World.drew (World.drewN _ _)=W0
      intro hd1 hd2 HGD hE2D fz0
      clear hd2
      refine a_ (i:=15) (by kernel_rfl) rfl (fun K hK=> ?_)
      refine iw rfl ?_
      go_simp
      have hg1:=hp_ HGD.out (o+j) y
      have hE15:=hE2D.setCell (p:=⟨g,o+j,none⟩) (.inl (by simp)) (.int .i64 y)
      have fz1: ∀q,(W0.setCell ⟨g,o+j,none⟩ (.int .i64 y)).frozen? ⟨g,q,none⟩=false:=fun q=> frozen_of_row _ _ _ _ _ hg1
      have hd3:=dw_ hg1 (o+t) (by rw [List.length_set,HB2.out];omega)
      refine hK _ _ (fun h=> by cases h) (fun _=> ?_)
      have HG1':=hi_ hg1
      clear hg1 fz0 hd1 hK hE2D
      revert HG1' hE15 fz1 hd3
      generalize World.setCell _ _ _=W1
      intro hE15 fz1 hd3 HG1'
      refine PUq 16 ?_;(try go_frame)
      simp only [zA,zB,zC,zD,zE]
      refine a_ (i:=17) (by kernel_rfl) rfl (fun K hK=> ?_)
      refine iw rfl ?_
      go_simp
      have hg2:=hp_ HG1'.out (o+t) x
      have hE17:=hE15.setCell (p:=⟨g,o+t,none⟩) (.inl (by simp)) (.int .i64 x)
      refine hK _ _ (fun h=> by cases h) (fun _=> ?_)
      refine c_ (by kernel_rfl) ?_ _
      clear hK fz1 hd3
      have hgood:Good p ((L2.set (o+j) y).set (o+t) x) o n:=by
       have h:=HP2.out.swap (by rw [HB2.out];exact hl) (i:=j) (j:=t) (by omega) (by omega)
       rw [<-HX.out,<-HY.out] at h
       exact h
      obtain⟨HGOOD,HG2'⟩:=h_2 hgood hg2
      clear hgood hg2
      revert HG2' hE17
      generalize World.setCell _ _ _=W2
      intro hE17 HG2'
      go_wp2_with fail
      go_roundw
      case rel=> exact⟨t,_,by have:=HTJ.out;omega,by go_num,hE17,HG2',hi_ (by simp [HB2.out]),HGOOD⟩
      case measure=> simp [intOf];have:=HTJ.out;omega
     ·have hxy':decide (x < y)=false:=by simpa using hxy
      go_wp2_with fail
      go_big_quiet ((go_at_call 222;refine Calls.quiet_of_same (less_c x y _)))
      go_wp2_with fail
      go_roundw
      case rel=> exact⟨i+1,L2,by omega,by omega,by go_num,hE2.drewN _,HG2,HB2,HP2⟩
      case measure=> simp [intOf];omega
    ·obtain rfl:j=0:=by omega
     go_wp2_with fail
     go_big_quiet (fail)
     go_wp2_with fail
     go_roundw
     case rel=> exact⟨i+1,L2,by omega,by omega,by go_num,hE2.drewN _,HG2,HB2,HP2⟩
     case measure=> simp [intOf];omega
  ·have z1: ¬((i:Int) < (n:Int)):=by omega
   go_wp2
   go_end0
   exact⟨rfl,L1,HG1.out,HB1.out,HP1.out,hE1⟩
theorem sort_c (p:Int->Prop) (g o n c:Nat) (L:List Int) (w:World) (hg:w.heap[g]? =some (.cells (EI.flat L).toArray 3 (0,0))) (hl:o+n<=L.length) (hn:n<=12) (hp:Good p L o n):
  Calls Tryz.prog 166 #[.slice (some ⟨g,o,none⟩) n c] w fun e w'=> e= .returned (.tuple #[])/\ ∃L',w'.heap[g]? =some (.cells (EI.flat L').toArray 3 (0,0))/\L'.length=L.length/\Good p L' o n/\Ext [g] w w':=by
 have hi:=isort_c p g o n c L w hg hl hn hp
 have HI:=hi_ hi
 have z1:(n:Int)<=12:=by omega
 have z2:IntKind.i64.wrap ((n:Int) - 0)=(n:Int):=IntWalk.i64_in _ (by omega)
 have hpd: ∀m:Int,Calls Tryz.prog 199 #[.slice (some ⟨g,o,none⟩) n c,.int .i64 0,.int .i64 n,.int .i64 m] w fun e w'=> e= .returned (.tuple #[])/\ ∃L',w'.heap[g]? =some (.cells (EI.flat L').toArray 3 (0,0))/\L'.length=L.length/\Good p L' o n/\Ext [g] w w':=by
  intro m
  clear hi hg hp
  go_enter Tryz.func199,Tryz.ntmps199
  go_wp2_with fail
  go_loopw [1,2] (fun av bv wr=> av= .int .i64 0/\bv= .int .i64 n/\wr=w) (fun _ _ _=> 0)
  case atStart=> exact⟨rfl,rfl,rfl⟩
  case round=>
   obtain⟨rfl,rfl,rfl⟩:=hrel
   go_wp2_with fail
   refine HI.out.mono ?_
   rintro e W2 ⟨rfl,h⟩
   have H:=hi_ h
   clear h
   go_wp2
   refine bodyPost_ret (results_none rfl _ _ _) rfl ?_
   exact⟨rfl,H.out⟩
 have HPD:=hi_ hpd
 clear hpd hi hg hp
 go_enter Tryz.func166,Tryz.ntmps166
 go_wp2_with fail
 have hbl:Calls Tryz.prog 95 #[.int .u64 n] w fun e w'=> ∃m:Int,e= .returned (.int .i64 m)/\w'=w:=by
  clear HPD z1 z2
  go_enter Tryz.func95,Tryz.ntmps95
  go_wp2_with fail
  refine(len64_c n hn _).mono ?_
  rintro e W2 ⟨m,rfl,rfl⟩
  go_wp2
  go_ret
  exact⟨m,rfl,rfl⟩
 refine hbl.mono ?_
 rintro e W2 ⟨m,rfl,rfl⟩
 clear hbl
 go_wp2_with fail
 refine(HPD.out m).mono ?_
 rintro e W3 ⟨rfl,h⟩
 have H:=hi_ h
 clear h
 go_wp2
 go_end0
 exact⟨rfl,H.out⟩
theorem aQ_: ∀(x y:List UInt8),Op.bytesLess x y=decide (x < y)
 | [],[]=> by simp [Op.bytesLess]
 | _::_,[]=> by simp [Op.bytesLess]
 | [],_::_=> by simp [Op.bytesLess]
 | a::x,b::y=> by
  rw [Op.bytesLess,aQ_ x y]
  simp only [List.cons_lt_cons_iff]
  by_cases h1:a < b <;> by_cases h2:a=b <;> by_cases h3:x < y <;> simp [h1,h2,h3]
theorem al_ (a:Ky): ¬a < a:=List.lt_irrefl a
theorem T_ {a b c:Ky} (h:a < b) (k:b < c):a < c:=List.lt_trans h k
theorem ej_ (a b:Ky):a < b\/a=b\/b < a:=by
 by_cases h:a < b
 ·exact .inl h
 ·by_cases k:b < a
  ·exact .inr (.inr k)
  ·exact .inr (.inl (List.le_antisymm (List.not_lt.1 k) (List.not_lt.1 h)))
theorem bQ_ {a b:Ky} (h:a < b): ¬b < a:=fun k=> al_ _ (T_ h k)
theorem bP_ {a b c:Ky} (h: ¬b < a) (k:b < c):a < c:=by
 rcases ej_ a b with h1 | h1 | h1
 ·exact T_ h1 k
 ·subst h1;exact k
 ·exact absurd h1 h
theorem cn_ {a b c:Ky} (h:a < b) (k: ¬c < b):a < c:=by
 rcases ej_ b c with h1 | h1 | h1
 ·exact T_ h h1
 ·subst h1;exact h
 ·exact absurd h1 k
def cmpK (a b:Ky):Int:=if a < b then -1 else if b < a then 1 else 0
theorem cp_ (a:ByteArray) (w:World):Calls Tryz.prog 96 #[.string a] w fun e w'=> e= .returned (.bool false)/\w=w':=by
 go_enter Tryz.func96,Tryz.ntmps96
 go_wp2
 go_ret
 simp
theorem isNaNSl_c (a:ByteArray) (w:World):Calls Tryz.prog 153 #[.string a] w fun e w'=> e= .returned (.bool false)/\w=w':=by
 go_enter Tryz.func153,Tryz.ntmps153
 go_wp2
 go_ret
 simp
theorem cmpS_c (a b:Ky) (w:World):Calls Tryz.prog 68 #[.string ⟨a.toArray⟩,.string ⟨b.toArray⟩] w fun e w'=> e= .returned (.int .i64 (cmpK a b))/\w=w':=by
 unfold cmpK
 by_cases h1:a < b
 ·rw [if_pos h1]
  have hb:Op.bytesLess a b=true:=by rw [aQ_];simpa using h1
  go_enter Tryz.func68,Tryz.ntmps68
  go_wp2_with (go_at_call 96;refine(cp_ _ _).mono ?_;rintro e w' ⟨rfl,rfl⟩)
  all_goals (go_ret;simp)
 ·rw [if_neg h1]
  have hb:Op.bytesLess a b=false:=by rw [aQ_];simpa using h1
  by_cases h2:b < a
  ·rw [if_pos h2]
   have hq:(a==b)=false:=beq_eq_false_iff_ne.2 (fun e=> al_ b (e ▸ h2))
   go_enter Tryz.func68,Tryz.ntmps68
   go_wp2_with (go_at_call 96;refine(cp_ _ _).mono ?_;rintro e w' ⟨rfl,rfl⟩)
   all_goals (go_ret;simp)
  ·rw [if_neg h2]
   obtain rfl:a=b:=by rcases ej_ a b with h | h | h;exact absurd h h1;exact h;exact absurd h h2
   go_enter Tryz.func68,Tryz.ntmps68
   go_wp2_with (go_at_call 96;refine(cp_ _ _).mono ?_;rintro e w' ⟨rfl,rfl⟩)
   all_goals (go_ret;simp)
theorem lessS_c (a b:Ky) (w:World):Calls Tryz.prog 152 #[.string ⟨a.toArray⟩,.string ⟨b.toArray⟩] w fun e w'=> e= .returned (.bool (decide (a < b)))/\w=w':=by
 by_cases h1:a < b
 ·have hb:Op.bytesLess a b=true:=by rw [aQ_];simpa using h1
  rw [decide_eq_true h1]
  go_enter Tryz.func152,Tryz.ntmps152
  go_wp2_with (go_at_call 96;refine(cp_ _ _).mono ?_;rintro e w' ⟨rfl,rfl⟩)
  all_goals (go_ret;simp)
 ·have hb:Op.bytesLess a b=false:=by rw [aQ_];simpa using h1
  rw [decide_eq_false h1]
  go_enter Tryz.func152,Tryz.ntmps152
  go_wp2_with (go_at_call 96;refine(cp_ _ _).mono ?_;rintro e w' ⟨rfl,rfl⟩)
  all_goals (go_ret;simp)
theorem at1S_c (p:Pr) (k:Ky) (w:World):Calls Tryz.prog 74 #[.agg #[.string ⟨p.1.toArray⟩,.string ⟨p.2.toArray⟩],.string ⟨k.toArray⟩] w fun e w'=> e= .returned (.int .i64 (cmpK p.1 k))/\Ext [] w w':=by
 go_enter Tryz.func74,Tryz.ntmps74
 go_wp2_with (go_at_call 68;refine(cmpS_c _ _ _).mono ?_;rintro e w' ⟨rfl,rfl⟩)
 go_ret
 exact⟨rfl,(Ext.refl _ _).alloc _⟩
def SrtK (l:List Pr):Prop:=l.Pairwise (fun a b=> a.1 < b.1)
theorem SrtK.at (h:SrtK l) {i j:Nat} (hij:i < j) (hj:j < l.length):(l.getD i ([],[])).1 < (l.getD j ([],[])).1:=by
 have:=List.pairwise_iff_getElem.1 h i j (by omega) hj hij
 simpa [List.getD,hj,show i < l.length by omega] using this
theorem cJ_ {α:Type} (p:α->Bool) (l:List α) (k:Nat) (hk:k<=l.length) (h1: ∀(i:Nat) x,i < k->l[i]? =some x->p x=true) (h2: ∀(i:Nat) x,k<=i->l[i]? =some x->p x=false):l.countP p=k:=by
 have e:l=l.take k++l.drop k:=(List.take_append_drop k l).symm
 rw [e,List.countP_append]
 have e1:(l.take k).countP p=(l.take k).length:=by
  rw [List.countP_eq_length]
  intro x hx
  obtain⟨i,hi⟩:=List.getElem?_of_mem hx
  rw [List.getElem?_take] at hi
  split at hi
  ·exact h1 i x (by assumption) hi
  ·cases hi
 have e2:(l.drop k).countP p=0:=by
  rw [List.countP_eq_zero]
  intro x hx
  obtain⟨i,hi⟩:=List.getElem?_of_mem hx
  rw [List.getElem?_drop] at hi
  have:=h2 (k+i) x (by omega) hi
  simp [this]
 rw [e1,e2,List.length_take]
 omega
def fq_ (s:List Pr) (k:Ky) (w:World) (e:Ending) (w':World):Prop:=e= .returned (.tuple #[.int .i64 (atF s k),.bool (U_ s k)])/\Ext [] w w'
theorem atF_of {s:List Pr} {k:Ky} {a:Nat} (ha:a<=s.length) (h1: ∀i,i < a->(s.getD i ([],[])).1 < k) (h2: ∀i,a<=i->i < s.length-> ¬(s.getD i ([],[])).1 < k):atF s k=a:=by
 refine cJ_ _ s a ha (fun i x hi hx=> ?_) (fun i x hi hx=> ?_)
 ·have:=h1 i hi
  simpa [List.getD,hx] using this
 ·have hl:=(List.getElem?_eq_some_iff.1 hx).1
  have:=h2 i hi hl
  simpa [List.getD,hx] using this
theorem bsfPr_c (v:Value) (s:List Pr) (k:Ky) (w:World) (hl:s.length<=1000000) (hv:EPr.Rd w v s) (hs:SrtK s):
  Calls Tryz.prog 73 #[v,.string ⟨k.toArray⟩,.func (.func 74) #[] #[]] w (fq_ s k w):=by
 have HS:=hi_ hs
 clear hs
 have hv0:=hi_ hv
 rcases hv with ⟨rfl,rfl⟩ | ⟨g,o,cap,rfl,h1,hg,_⟩
 ·go_enter Tryz.func73,Tryz.ntmps73
  go_wp2
  go_loopw [9,10,11] (fun lo hi _ wr=> lo= .int .i64 0/\hi= .int .i64 0/\wr=w) (fun _ _ _ _=> 0)
  case atStart=> exact⟨rfl,rfl,rfl⟩
  case round=>
   obtain⟨rfl,rfl,rfl⟩:=hrel
   go_wp2
   go_ret2
   exact⟨rfl,Ext.refl _ _⟩
 ·obtain⟨n,hn⟩: ∃n,n=s.length:=⟨_,rfl⟩
  rw [<-hn] at h1 hl ⊢
  have HN:=hi_ hn
  clear hn
  go_enter Tryz.func73,Tryz.ntmps73
  go_wp2
  go_loopw [9,10,11] (fun lo hi _ wr=> ∃a b:Nat,lo= .int .i64 a/\hi= .int .i64 b/\a<=b/\b<=n/\Hid (∀i,i < a->(s.getD i ([],[])).1 < k)/\Hid (∀i,b<=i->i < s.length-> ¬(s.getD i ([],[])).1 < k)/\Ext [] w wr)
   (fun lo hi _ _=> (intOf hi).toNat - (intOf lo).toNat)
  case atStart=> exact⟨0,n,rfl,rfl,Nat.zero_le _,Nat.le_refl _,hi_ (fun i h=> by omega),hi_ (fun i h1 h2=> by rw [<-HN.out] at h2;omega),Ext.refl _ _⟩
  case round=>
   obtain⟨a,b,rfl,rfl,hab,hbn,h1,h2,hB⟩:=hrel
   have hv1:=hv0.out.ext0 hB
   rw [<-HN.out] at hv1
   by_cases hlt:a < b
   ·obtain⟨hm1,hm2⟩:=aJ_ hv1 ((a+b)/2) (by rw [<-HN.out];omega)
    obtain⟨x,hx⟩: ∃x,x=s.getD ((a+b)/2) ([],[]):=⟨_,rfl⟩
    rw [<-hx] at hm1 hm2
    have HX:=hi_ hx
    clear hx
    go_wp2_with fail
    refine(at1S_c _ _ _).mono ?_
    rintro e w1 ⟨rfl,hB1⟩
    unfold cmpK
    have hB2:=hB.trans hB1
    clear hB hB1 hm1 hm2 hv1
    by_cases hx2:x.1 < k
    ·rw [if_pos hx2]
     have HX2:=hi_ hx2
     clear hx2
     go_wp2
     go_roundw
     case rel=> exact⟨(a+b)/2+1,b,by go_num,rfl,by omega,hbn,hi_ (fun i hi=> by
       have e:=HX.out
       by_cases hi':i=(a+b)/2
       ·subst hi';rw [<-e];exact HX2.out
       ·have:=HS.out.at (i:=i) (j:=(a+b)/2) (by omega) (by rw [<-HN.out];omega);rw [<-e] at this;exact T_ this HX2.out),h2,hB2⟩
     case measure=> simp [intOf];omega
    ·rw [if_neg hx2]
     have HX2:=hi_ hx2
     clear hx2
     by_cases hx4:k < x.1
     ·rw [if_pos hx4]
      have HX4:=hi_ hx4
      clear hx4
      go_wp2
      go_roundw
      case rel=> exact⟨a,(a+b)/2,rfl,by go_num,by omega,by omega,h1,hi_ (fun i hi hi2=> by
        have e:=HX.out
        by_cases hi':i=(a+b)/2
        ·subst hi';rw [<-e];exact HX2.out
        ·have:=HS.out.at (i:=(a+b)/2) (j:=i) (by omega) hi2;rw [<-e] at this;exact fun hh=> HX2.out (T_ this hh)),hB2⟩
      case measure=> simp [intOf];omega
     ·rw [if_neg hx4]
      have HX4:=hi_ hx4
      clear hx4
      go_wp2
      go_roundw
      case rel=> exact⟨a,(a+b)/2,rfl,by go_num,by omega,by omega,h1,hi_ (fun i hi hi2=> by
        have e:=HX.out
        by_cases hi':i=(a+b)/2
        ·subst hi';rw [<-e];exact HX2.out
        ·have:=HS.out.at (i:=(a+b)/2) (j:=i) (by omega) hi2;rw [<-e] at this;exact fun hh=> HX2.out (T_ this hh)),hB2⟩
      case measure=> simp [intOf];omega
   ·have hab':a=b:=by omega
    subst hab'
    have hat:atF s k=a:=atF_of (by rw [<-HN.out];exact hbn) h1.out h2.out
    by_cases hal:a < n
    ·obtain⟨hm1,hm2⟩:=aJ_ hv1 a (by rw [<-HN.out];exact hal)
     have hxe:s[a]? =some (s.getD a ([],[])):=by simp [List.getD,show a < s.length by rw [<-HN.out];exact hal]
     obtain⟨x,hx⟩: ∃x,x=s.getD a ([],[]):=⟨_,rfl⟩
     rw [<-hx] at hm1 hm2 hxe
     obtain⟨HAT,HXE⟩:=h_2 hat hxe
     have hnl: ¬x.1 < k:=by rw [hx];exact h2.out a (Nat.le_refl _) (by rw [<-HN.out];exact hal)
     have HNL:=hi_ hnl
     clear hx hxe hat hnl
     go_wp2_with fail
     refine(at1S_c _ _ _).mono ?_
     rintro e w1 ⟨rfl,hB1⟩
     have hB2:=hB.trans hB1
     clear hB hB1 hm1 hm2 hv1
     have hth:U_ s k=(cmpK x.1 k==0):=by
      have hnl:=HNL.out
      rw [U_,HAT.out,HXE.out,cmpK,if_neg hnl]
      by_cases hk:k < x.1
      ·rw [if_pos hk]
       have:x.1≠k:=fun e=> al_ k (e ▸ hk)
       simpa using this
      ·rw [if_neg hk]
       have:x.1=k:=by
        rcases ej_ x.1 k with h | h | h
        ·exact absurd h hnl
        ·exact h
        ·exact absurd h hk
       simp [this]
     have HTH:=hi_ hth
     clear hth
     generalize cmpK x.1 k=c at HTH ⊢
     go_wp2
     go_ret2
     refine⟨?_,hB2⟩
     rw [HAT.out,HTH.out]
     rfl
    ·have HAT:=hi_ hat
     clear hat
     go_wp2_with fail
     go_ret2
     refine⟨?_,hB⟩
     have hth:U_ s k=false:=by
      rw [U_,HAT.out,List.getElem?_eq_none (by rw [<-HN.out];omega)]
      rfl
     rw [HAT.out,hth]
     rfl
theorem trat_c (v:Value) (s:List Pr) (k:Ky) (w:World) (hl:s.length<=1000000) (hv:EPr.Rd w v s) (hs:SrtK s):
  Calls Tryz.prog 43 #[v,.string ⟨k.toArray⟩] w (fq_ s k w):=by
 go_enter Tryz.func43,Tryz.ntmps43
 go_wp2_with fail
 refine(bsfPr_c v s k _ hl hv hs).mono ?_
 rintro e w1 ⟨rfl,hB⟩
 go_wp2
 go_ret2
 exact⟨rfl,hB⟩
end Go.Proofs.YtkpgjkekmdecbaaGreat
