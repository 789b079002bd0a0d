/- Lemmas for the claim. No conditions beside those that each states. -/
import Derived.Test.YtkpgjkekmdecbaaGreatEmpAI
import Derived.Laws.BytesArg
import Derived.Laws.Bits64b
import Derived.Laws.IdiomStrings
import Derived.Test.YtkpgjkekmdecbaaGreatEmpAH
import Derived.BigQuiet
set_option maxRecDepth 100000
set_option maxHeartbeats 8000000
set_option linter.all false

namespace Go.Proofs.YtkpgjkekmdecbaaGreat
open Go.RowKit
variable {w:World} {T:TypeId} {n g:Nat}
theorem fk_ {v:Value} {s:List UInt8} (h:EB.Rd w v s):(convert 158 9 v).run Tryz.prog w= .ok (.string ⟨s.toArray⟩) w:=by
 rcases h with ⟨rfl,rfl⟩ | ⟨g,o,cap,rfl,h1,hg,hc⟩
 ·exact run_convert_bytes_nil w 158 5 Tryz.underlying158 Tryz.underlying5 0 0 9 Tryz.underlying9
 ·have hrd:EB.Rd w (.slice (some ⟨g,o,none⟩) s.length cap) s:= .inr ⟨g,o,cap,rfl,h1,hg,hc⟩
  exact run_convert_bytes_back (P:=Tryz.prog) w 158 9 5 ⟨g,o,none⟩ cap s Tryz.underlying158 Tryz.underlying5 Tryz.underlying9 (fun j hj=> by
   have h:=hrd.cells j 0 hj (by decide)
   have e:(⟨g,o,none⟩:Addr).add j=⟨g,o+j,none⟩:=by
    simp only [Addr.add]
    split
    ·rename_i h;subst h;rfl
    ·rfl
   rw [e]
   simpa [EB] using h)
theorem bS_ (W0:World) (x:Itm3) (hn:n=W0.heap.size:=by rfl):EIt.Rd (W0.alloc (.cells #[.int .i64 x.1,.int .i64 x.2.1,.string ⟨x.2.2.toArray⟩] T)) (.slice (some ⟨n,0,none⟩) 1 1) [x]:=by
 subst hn
 refine .inr ⟨W0.heap.size,0,1,rfl,Nat.le_refl _,by simp,fun j u hj=> ?_⟩
 rw [cell_of_row _ W0.heap.size _ _ _ _ (heap_alloc_new _ _)]
 match j,hj with
 | 0,hj=> exact hj
 | 1,hj=> exact hj
 | 2,hj=> exact hj
 | j+3,hj=> simp [EIt,Enc.flat] at hj
theorem and64e (n:Nat) (h:n < 4611686018427387904):bits BinOp.and IntKind.u64 (2*(n:Int)) 1=0:=by
 have e:(2*(n:Int))=((2*n:Nat):Int):=by omega
 have h1:=bits_and_u64_nat (2*n) 1 (by omega) (by omega)
 rw [Nat.and_one_is_mod] at h1
 rw [e]
 refine h1.trans ?_
 omega
theorem xor64z (n:Nat) (h:n < 4611686018427387904):bits BinOp.xor IntKind.i64 (n:Int) 0=(n:Int):=by
 simp [bits,IntKind.wrap,IntKind.bits,IntKind.signed]
 have key: ∀x:BitVec 64,x=BitVec.ofNat 64 n->(if 9223372036854775808<=(x.toNat:Int) % 18446744073709551616 then (x.toNat:Int) % 18446744073709551616 - 18446744073709551616 else (x.toNat:Int) % 18446744073709551616)=n:=by
  rintro x rfl
  rw [BitVec.toNat_ofNat]
  split <;> omega
 exact key _ BitVec.xor_zero
def lenVs:Value->Nat
 | .slice _ n _=> n
 | _=> 0
@[simp] theorem lenVs_slice (p:Option Addr) (n c:Nat):lenVs (.slice p n c)=n:=rfl
def DecPost (l:List Itm) (w:World) (e:Ending) (w':World):Prop:= ∃u,e= .returned (.tuple #[u,.int .i64 0])/\EIt.Ow 215 w' u (l.map itmV)/\Ext [] w w'/\ ∀g∈blkL u,w.heap.size<=g
theorem fi_ (v:Value) (l:List Itm) (w:World) (hv:EB.Rd w v (encL l)) (hg:gA_ l) (hbl:(encL l).length<=1000000):Calls Tryz.prog 120 #[v] w (DecPost l w):=by
 obtain⟨HV,HG⟩:=h_2 hv hg
 have hll:=hg.1
 clear hv hg
 go_enter Tryz.func120,Tryz.ntmps120
 go_wp2_with fail
 go_loopw [0,4] (fun bv ov wr=> ∃(done todo:List Itm),l=done++todo/\Hid (EB.Rd wr bv (encL todo)/\ ∀g∈blkL bv,g < w.heap.size)/\Hid (EIt.Ow 215 wr ov (done.map itmV))/\Hid (Ext [] w wr/\ ∀g∈blkL ov,w.heap.size<=g)) (fun bv _ _=> lenVs bv)
 case atStart=> exact⟨[],l,rfl,hi_ ⟨HV.out,HV.out.lt⟩,hi_ (.inl ⟨rfl,rfl⟩),hi_ ⟨Ext.refl _ _,by simp [blkL]⟩⟩
 case round=>
  obtain⟨done,todo,hdt,HB,HO,HE⟩:=hrel
  obtain⟨pb,cb,hbv,hcb⟩:=HB.out.1.len_eq
  subst hbv
  obtain⟨po,co,hov,_⟩:=HO.out.rd.len_eq
  subst hov
  rw [List.length_map] at HO HE
  simp only [List.length_map]
  cases todo with
  | nil=>
   have e:l=done:=by simpa using hdt
   rw [<-e] at HO HE
   simp only [<-e,encL,List.map_nil,List.flatten_nil,List.length_nil] at HB ⊢
   clear e hdt
   go_wp2
   go_ret2
   exact⟨_,rfl,HO.out,HE.out⟩
  | cons x todo=>
   have hdl:done.length < 2000:=by rw [hdt] at hll;simp at hll;omega
   have hel:(encL (x::todo)).length=(encI x).length+(encL todo).length:=by rw [r_,List.length_append]
   have htl:(encL todo).length<=1000000/\(encL (x::todo)).length<=1000000:=by
    have h1:=congrArg (fun z=> (encL z).length) hdt
    simp only [bA_,List.length_append] at h1
    omega
   have hgx:=HG.out.2 x (by rw [hdt];simp)
   obtain⟨N,hN⟩: ∃N,N=(encL (x::todo)).length:=⟨_,rfl⟩
   rw [<-hN] at HB hcb htl hel
   simp only [<-hN]
   have hel2:N=(encI x).length+(encL todo).length:=hel
   have hi2:2<=(encI x).length:=by
    cases x with
    | num n=> have:=(y_ 9 (2*n) (by have:n<=4611686018427387903:=hgx;omega)).1;simp only [encI,List.length_cons];omega
    | txt s=> have:=(y_ 9 s.length (by have:s.length<=4000:=hgx;omega)).1;simp only [encI,List.length_cons,List.length_append];omega
   obtain⟨g,o,rfl⟩: ∃g o,pb=some ⟨g,o,none⟩:=by
    rcases HB.out.1 with ⟨h,_⟩ | ⟨g,o,c,h,_⟩
    ·simp only [Value.slice.injEq] at h;omega
    ·simp only [Value.slice.injEq] at h;exact⟨g,o,h.1⟩
   have hB2:EB.Rd wr (.slice (some ⟨g,o,none⟩) N cb) (encL (x::todo)):=HB.out.1
   have hgw:g < w.heap.size:=HB.out.2 g (by simp [blkL])
   have hx0:=bE_ hB2 0 (by rw [<-hN];omega)
   have hB3:EB.Rd wr (.slice (some ⟨g,o+1,none⟩) (N - 1) (cb - 1)) ((encL (x::todo)).drop 1):=hB2.dropS (k:=1)
   have hN2:=hi_ hN
   have z0:(0:Int) < (N:Int):=by omega
   have z1: ¬cb=1:=by omega
   have z1': ¬cb=0:=by omega
   have z2:(1:Int)<=(N:Int):=by omega
   have z3:(1:Int)<=(cb:Int):=by omega
   have z4:((done.length:Int)==2000)=false:=beq_eq_false_iff_ne.2 (by omega)
   obtain⟨HDT,HEL⟩:=h_2 hdt hel2
   clear hN hel hcb hel2 hdt
   cases x with
   | num n=>
    have hn:n<=4611686018427387903:=hgx
    have e0:(encL (.num n::todo)).getD 0 0=1:=by simp [encL,encI,List.getD]
    have e1:(encL (.num n::todo)).drop 1=D_ (2*n)++encL todo:=by simp [encL,encI]
    rw [e0] at hx0
    rw [e1] at hB3
    have HB3:=hi_ hB3
    simp only [Nat.add_zero,show ((1:UInt8).toNat:Int)=1 from rfl] at hx0
    clear e0 e1 hB3 hB2
    go_wp2_with fail
    refine(gt_ _ (2*n) (encL todo) _ HB3.out (by omega) htl.1).mono ?_
    rintro e W1 ⟨u,rfl,hu,hul,hE1,gu,ou,cu,rfl⟩
    clear hx0
    have ha:=and64e n (by omega)
    have hx:=xor64z n (by omega)
    go_wp2_with (with_reducible refine e_ (d:=44) ?_)
    have hgo: ∀x∈blkL (.slice po done.length co),w.heap.size<=x:=HE.out.2
    refine k_ rfl fun K hK=> b_ (E:=EIt) (T:=215) (zero:=I0) (bytes:=32) (v:= .slice po done.length co) (xs:=done.map itmV) (ys:= [(1,(n:Int),[])]) tiIt Tryz.underlying191 Tryz.underlying191 rfl rfl rfl ((HO.out.ext0 hE1).ext0 ((Ext.refl [] W1).alloc _)) (bS_ W1 (1,(n:Int),[])) (by simp;omega) (by simp;omega) ?_
    intro v2 w2 how hext hnear hnn
    have eo:done.map itmV++ [(1,(n:Int),[])]=(done++ [Itm.num n]).map itmV:=by simp [itmV]
    rw [eo] at how
    have hE1a:=(HE.out.1.trans hE1).alloc (.cells #[.int .i64 1,.int .i64 n,.string ⟨#[]⟩] 215)
    have HE2:=hi_ (s_ hE1a HE.out.2 hext hnear)
    have HO2:=hi_ how
    have HB2:Hid (EB.Rd w2 (.slice (some ⟨gu,ou,none⟩) (encL todo).length cu) (encL todo)/\ ∀x∈blkL (.slice (some ⟨gu,ou,none⟩) (encL todo).length cu),x < w.heap.size):=hi_ ⟨(hu.ext0 ((Ext.refl [] W1).alloc _)).ext hext (fun x hx hx2=> by
      have h1:=hul x hx
      simp only [blkL,List.mem_singleton] at h1
      have h2:=hgo x hx2
      omega),fun x hx=> by
      have h1:=hul x hx
      simp only [blkL,List.mem_singleton] at h1
      omega⟩
    have hll2:=HEL.out
    clear how hext hnear hnn eo hE1a hu hul hE1 ha hx hgo
    refine hK _ _ ?_
    clear hK
    go_wp2_with fail
    go_roundw
    case rel=> exact⟨done++ [Itm.num n],todo,by rw [HDT.out];simp,HB2,HO2,HE2⟩
    case measure=> simp;omega
   | txt s=>
    have hs:s.length<=4000:=hgx
    have e0:(encL (.txt s::todo)).getD 0 0=2:=by simp [encL,encI,List.getD]
    have e1:(encL (.txt s::todo)).drop 1=D_ s.length++(s++encL todo):=by simp [encL,encI]
    rw [e0] at hx0
    rw [e1] at hB3
    have HB3:=hi_ hB3
    simp only [Nat.add_zero,show ((2:UInt8).toNat:Int)=2 from rfl] at hx0
    clear e0 e1 hB3 hB2
    go_wp2_with fail
    refine(gt_ _ s.length (s++encL todo) _ HB3.out (by omega) (by
     have h1:=HEL.out
     simp only [encI,List.length_cons,List.length_append] at h1 ⊢
     omega)).mono ?_
    rintro e W1 ⟨u,rfl,hu,hul,hE1,gu,ou,cu,rfl⟩
    clear hx0
    obtain⟨M,hM⟩: ∃M,M=(encL todo).length:=⟨_,rfl⟩
    have eL:(s++encL todo).length=s.length+M:=by rw [List.length_append,hM]
    have hcu:s.length+M<=cu:=by
     rcases hu with ⟨h,_⟩ | ⟨_,_,_,h,h2,_⟩
     ·cases h
     ·simp only [Value.slice.injEq] at h
      omega
    rw [eL] at hu hul ⊢
    have hcv:=fk_ (hu.takeS (k:=s.length) (by simp))
    rw [show (s++encL todo).take s.length=s by simp] at hcv
    have hrest:=hu.dropS2 (k:=s.length)
    rw [show (s++encL todo).drop s.length=encL todo by simp] at hrest
    have z5:(s.length:Int)<=4000:=by omega
    have z6:(s.length:Int)<=(s.length:Int)+(M:Int):=by omega
    have z7:(s.length:Int)<=(cu:Int):=by omega
    obtain⟨HR,HM,HU⟩:=h_3 hrest hM hul
    have hMl:M<=1000000:=by have:=HM.out;omega
    have z8:IntKind.u64.wrap ((s.length:Int)+(M:Int))=(s.length:Int)+(M:Int):=by simp [IntKind.wrap,IntKind.bits,IntKind.signed];omega
    have hgo: ∀x∈blkL (.slice po done.length co),w.heap.size<=x:=HE.out.2
    clear hu hrest hM eL hul
    go_wp2_with (with_reducible refine e_ (d:=67) ?_)
    refine k_ rfl fun K hK=> b_ (E:=EIt) (T:=215) (zero:=I0) (bytes:=32) (v:= .slice po done.length co) (xs:=done.map itmV) (ys:= [(2,0,s)]) tiIt Tryz.underlying191 Tryz.underlying191 rfl rfl rfl ((HO.out.ext0 hE1).ext0 ((Ext.refl [] W1).alloc _)) (bS_ W1 (2,0,s)) (by simp;omega) (by simp;omega) ?_
    intro v2 w2 how hext hnear hnn
    have eo:done.map itmV++ [(2,(0:Int),s)]=(done++ [Itm.txt s]).map itmV:=by simp [itmV]
    rw [eo] at how
    have hE1a:=(HE.out.1.trans hE1).alloc (.cells #[.int .i64 2,.int .i64 0,.string ⟨s.toArray⟩] 215)
    have HE2:=hi_ (s_ hE1a HE.out.2 hext hnear)
    have HO2:=hi_ how
    have hgu:gu=g:=by
     have h1:=HU.out gu (by simp [blkL])
     simpa [blkL] using h1
    have HR2:Hid (EB.Rd w2 (.slice (if cu=s.length then some ⟨gu,ou,none⟩ else some ⟨gu,ou+s.length*EB.k,none⟩) (s.length+M - s.length) (cu - s.length)) (encL todo)):=hi_ ((HR.out.ext0 ((Ext.refl [] W1).alloc _)).ext hext (fun x hx hx2=> by
      have h2:=hgo x hx2
      split at hx <;> (simp only [blkL,List.mem_singleton] at hx;omega)))
    have hll2:=HEL.out
    have hgw2:gu < w.heap.size:=by omega
    have eM:s.length+M - s.length=M:=by omega
    have ek:ou+s.length*EB.k=ou+s.length:=by simp [EB]
    rw [eM,ek] at HR2
    have hlen2:M < N:=by
     have:=HM.out
     omega
    clear how hext hnear hnn eo hE1a hE1 hgo HU HR eM ek hcv z8 hgu
    refine hK _ _ ?_
    clear hK
    by_cases hc:cu=s.length
    ·rw [if_pos hc] at HR2
     subst hc
     obtain rfl:M=0:=by omega
     go_wp2_with fail
     go_roundw
     case rel=> exact⟨done++ [Itm.txt s],todo,by rw [HDT.out];simp,hi_ ⟨by simpa using HR2.out,by simp [blkL];omega⟩,HO2,HE2⟩
     case measure=> simp;omega
    ·rw [if_neg hc] at HR2
     go_wp2_with fail
     go_roundw
     case rel=> exact⟨done++ [Itm.txt s],todo,by rw [HDT.out];simp,hi_ ⟨HR2.out,by simp [blkL];omega⟩,HO2,HE2⟩
     case measure=> simp;omega
theorem less_c (a b:Int) (w:World):Calls Tryz.prog 222 #[.int .i64 a,.int .i64 b] w fun e w'=> e= .returned (.bool (decide (a < b)))/\w'=w:=by
 go_enter Tryz.func222,Tryz.ntmps222
 go_wp2_with (go_at_call 194;refine(fe_ _ _).mono ?_;rintro e w' ⟨rfl,rfl⟩)
 go_ret
 exact⟨rfl,rfl⟩
theorem len64_c (n:Nat) (hn:n<=12) (w:World):Calls Tryz.prog 131 #[.int .u64 n] w fun e w'=> ∃m:Int,e= .returned (.int .i64 m)/\w'=w:=by
 rcases(show n=0\/n=1\/n=2\/n=3\/n=4\/n=5\/n=6\/n=7\/n=8\/n=9\/n=10\/n=11\/n=12 by omega) with rfl | rfl | rfl | rfl | rfl | rfl | rfl | rfl | rfl | rfl | rfl | rfl | rfl <;>
 ·go_enter Tryz.func131,Tryz.ntmps131
  go_wp2
  go_ret
  exact⟨_,rfl,rfl⟩
theorem dz_ {L:List Int} (hg:w.heap[g]? =some (.cells (EI.flat L).toArray 3 (0,0))) (j:Nat) (hj:j < L.length):w.cell? ⟨g,j,none⟩=some (.int .i64 (L.getD j 0)):=by
 rw [cell_of_row w g j _ _ _ hg]
 simp [flatI,List.getD,hj]
theorem hE_ {L:List Int} (hg:w.heap[g]? =some (.cells (EI.flat L).toArray 3 (0,0))) (i:Nat) (x:Int):(w.setCell ⟨g,i,none⟩ (.int .i64 x)).heap[g]? =some (.cells (EI.flat (L.set i x)).toArray 3 (0,0)):=by
 rw [heap_setCell_same w g i _ _ _ hg]
 congr 2
 apply Array.ext'
 rw [flatI,flatI]
 simp [List.map_set]
def Good (p:Int->Prop) (L:List Int) (o n:Nat):Prop:= ∀i,i < n->p (L.getD (o+i) 0)
theorem Good.swap {p:Int->Prop} {L:List Int} {o n:Nat} (h:Good p L o n) (hl:o+n<=L.length) {i j:Nat} (hi:i < n) (hj:j < n):Good p ((L.set (o+i) (L.getD (o+j) 0)).set (o+j) (L.getD (o+i) 0)) o n:=by
 intro q hq
 by_cases h1:q=j
 ·subst h1
  rw [List.getD_eq_getElem?_getD,List.getElem?_set_self (by simp;omega)]
  exact h i hi
 ·rw [List.getD_eq_getElem?_getD,List.getElem?_set_ne (by omega)]
  by_cases h2:q=i
  ·subst h2
   rw [List.getElem?_set_self (by omega)]
   exact h j hj
  ·rw [List.getElem?_set_ne (by omega),<-List.getD_eq_getElem?_getD]
   exact h q hq
theorem isort_c (p:Int->Prop) (g o n c:Nat) (L:List Int) (w:World) (hg:w.heap[g]? =some (.cells (EI.flat L).toArray 3 (0,0))) (hl:o+n<=L.length) (hn:n<=12) (hp:Good p L o n):
  Calls Tryz.prog 216 #[.slice (some ⟨g,o,none⟩) n c,.int .i64 0,.int .i64 n] w fun e w'=> e= .returned (.tuple #[])/\ ∃L',w'.heap[g]? =some (.cells (EI.flat L').toArray 3 (0,0))/\L'.length=L.length/\Good p L' o n/\Ext [g] w w':=by
 obtain⟨HG,HP⟩:=h_2 hg hp
 obtain⟨B,hB⟩: ∃B,B=L.length:=⟨_,rfl⟩
 have HB:=hi_ hB.symm
 rw [<-hB] at hl ⊢
 clear hg hp hB
 go_enter Tryz.func216,Tryz.ntmps216
 go_wp2_with fail
 go_loopw [6,7] (fun iv _ wr=> ∃(i:Nat) (L':List Int),1<=i/\i<=13/\iv= .int .i64 i/\Ext [g] w wr/\Hid (wr.heap[g]? =some (.cells (EI.flat L').toArray 3 (0,0)))/\Hid (L'.length=B)/\Hid (Good p L' o n)) (fun iv _ _=> 14 - (intOf iv).toNat)
 case atStart=> exact⟨1,L,by omega,by omega,rfl,Ext.refl _ _,HG,HB,HP⟩
 case round=>
  obtain⟨i,L1,hi1,hi2,rfl,hE1,HG1,HB1,HP1⟩:=hrel
  by_cases hlt:i < n
  ·have z1:(i:Int) < (n:Int):=by omega
   have z2:IntKind.i64.wrap ((i:Int)+1)=(i:Int)+1:=IntWalk.i64_in _ (by omega)
   go_wp2_with fail
   go_loopw [7] (fun jv wr=> ∃(j:Nat) (L':List Int),j<=i/\jv= .int .i64 j/\Ext [g] w wr/\Hid (wr.heap[g]? =some (.cells (EI.flat L').toArray 3 (0,0)))/\Hid (L'.length=B)/\Hid (Good p L' o n)) (fun jv _=> (intOf jv).toNat)
   case atStart=> exact⟨i,L1,by omega,rfl,hE1,HG1,HB1,HP1⟩
   case round=>
    obtain⟨j,L2,hj,rfl,hE2,HG2,HB2,HP2⟩:=hrel
    by_cases hj0:0 < j
    ·have y1:(0:Int) < (j:Int):=by omega
     obtain⟨t,ht⟩: ∃t:Nat,(j:Int) - 1=(t:Int):=⟨j - 1,by omega⟩
     have htj:t+1=j:=by omega
     have y2:IntKind.i64.wrap ((j:Int) - 1)=(t:Int):=by rw [ht];exact IntWalk.i64_in _ (by omega)
     have y3:(j:Int) < (n:Int):=by omega
     have y4:(0:Int)<=(j:Int):=by omega
     have y5:(t:Int) < (n:Int):=by omega
     have y6:(0:Int)<=(t:Int):=by omega
     have hc1:=dz_ HG2.out (o+j) (by rw [HB2.out];omega)
     have hc2:=dz_ HG2.out (o+t) (by rw [HB2.out];omega)
     obtain⟨x,hx⟩: ∃x,x=L2.getD (o+j) 0:=⟨_,rfl⟩
     obtain⟨y,hy⟩: ∃x,x=L2.getD (o+t) 0:=⟨_,rfl⟩
     rw [<-hx] at hc1
     rw [<-hy] at hc2
     obtain⟨HX,HY,HTJ⟩:=h_3 hx hy htj
     clear hx hy ht htj
     by_cases hxy:x < y
     ·have hxy':decide (x < y)=true:=by simpa using hxy
      go_wp2_with fail
      go_big_quiet ((go_at_call 222;refine Calls.quiet_of_same (less_c x y _)))
      clear hxy' hxy
      go_wp2_with fail
      have hD:Ext [] wr (wr.drewN nq).drew:=((Ext.refl [] wr).drewN nq).drew
      have hd1:=hD.cell hc1 (by simp)
      have hd2:=hD.cell hc2 (by simp)
      have HGD:=hi_ (hD.blk HG2.out (by simp))
      have hE2D:Ext [g] w (wr.drewN nq).drew:=(hE2.drewN nq).drew
      clear hc1 hc2 hD
      refine f_ (fun W=> W.cell? ⟨g,o+j,none⟩=some (.int .i64 x)/\W.cell? ⟨g,o+t,none⟩=some (.int .i64 y)) (fun i=> i==9 || i==13) (by kernel_rfl) ⟨hd1,hd2⟩ (fun hS=> ?_)
      refine PUq 0 ?_;(try go_frame)
      refine PUq 1 ?_;(try go_frame)
      refine PUq 2 ?_;(try go_frame)
      refine PUq 3 ?_;(try go_frame)
      refine PUq 4 ?_;(try go_frame)
      refine PUq 5 ?_;(try go_frame)
      refine PUq 6 ?_;(try go_frame)
      refine PUq 7 ?_;(try go_frame)
      refine PUq 8 ?_;(try go_frame)
      refine PUq 10 ?_;(try go_frame)
      simp only [zA,zB,zC,zD,zE]
      refine PUq 11 ?_;(try go_frame)
      simp only [zA,zB,zC,zD,zE]
      refine PUq 12 ?_;(try go_frame)
      simp only [zA,zB,zC,zD,zE]
      refine ta 9 ?_;(try go_frame)
      simp only [zA,zB,zC,zD,zE]
      refine ta 13 ?_;(try go_frame)
      simp only [zA,zB,zC,zD,zE]
      refine PUq 14 ?_;(try go_frame)
      simp only [zA,zB,zC,zD,zE]
      have fz0: ∀q,(wr.drewN nq).drew.frozen? ⟨g,q,none⟩=false:=fun q=> frozen_of_row _ _ _ _ _ HGD.out
      clear hS
      revert HGD hE2D fz0 hd1 hd2
      generalize World.drew (World.drewN _ _)=W0
      intro hd1 hd2 HGD hE2D fz0
      clear hd2
      refine a_ (i:=15) (by kernel_rfl) rfl (fun K hK=> ?_)
      refine iw rfl ?_
      go_simp
      have hg1:=hE_ HGD.out (o+j) y
      have hE15:=hE2D.setCell (p:=⟨g,o+j,none⟩) (.inl (by simp)) (.int .i64 y)
      have fz1: ∀q,(W0.setCell ⟨g,o+j,none⟩ (.int .i64 y)).frozen? ⟨g,q,none⟩=false:=fun q=> frozen_of_row _ _ _ _ _ hg1
      have hd3:=dz_ hg1 (o+t) (by rw [List.length_set,HB2.out];omega)
      refine hK _ _ (fun h=> by cases h) (fun _=> ?_)
      have HG1':=hi_ hg1
      clear hg1 fz0 hd1 hK hE2D
      revert HG1' hE15 fz1 hd3
      generalize World.setCell _ _ _=W1
      intro hE15 fz1 hd3 HG1'
      refine PUq 16 ?_;(try go_frame)
      simp only [zA,zB,zC,zD,zE]
      refine a_ (i:=17) (by kernel_rfl) rfl (fun K hK=> ?_)
      refine iw rfl ?_
      go_simp
      have hg2:=hE_ HG1'.out (o+t) x
      have hE17:=hE15.setCell (p:=⟨g,o+t,none⟩) (.inl (by simp)) (.int .i64 x)
      refine hK _ _ (fun h=> by cases h) (fun _=> ?_)
      refine c_ (by kernel_rfl) ?_ _
      clear hK fz1 hd3
      have hgood:Good p ((L2.set (o+j) y).set (o+t) x) o n:=by
       have h:=HP2.out.swap (by rw [HB2.out];exact hl) (i:=j) (j:=t) (by omega) (by omega)
       rw [<-HX.out,<-HY.out] at h
       exact h
      obtain⟨HGOOD,HG2'⟩:=h_2 hgood hg2
      clear hgood hg2
      revert HG2' hE17
      generalize World.setCell _ _ _=W2
      intro hE17 HG2'
      go_wp2_with fail
      go_roundw
      case rel=> exact⟨t,_,by have:=HTJ.out;omega,by go_num,hE17,HG2',hi_ (by simp [HB2.out]),HGOOD⟩
      case measure=> simp [intOf];have:=HTJ.out;omega
     ·have hxy':decide (x < y)=false:=by simpa using hxy
      go_wp2_with fail
      go_big_quiet ((go_at_call 222;refine Calls.quiet_of_same (less_c x y _)))
      go_wp2_with fail
      go_roundw
      case rel=> exact⟨i+1,L2,by omega,by omega,by go_num,hE2.drewN _,HG2,HB2,HP2⟩
      case measure=> simp [intOf];omega
    ·obtain rfl:j=0:=by omega
     go_wp2_with fail
     go_big_quiet (fail)
     go_wp2_with fail
     go_roundw
     case rel=> exact⟨i+1,L2,by omega,by omega,by go_num,hE2.drewN _,HG2,HB2,HP2⟩
     case measure=> simp [intOf];omega
  ·have z1: ¬((i:Int) < (n:Int)):=by omega
   go_wp2
   go_end0
   exact⟨rfl,L1,HG1.out,HB1.out,HP1.out,hE1⟩
theorem sort_c (p:Int->Prop) (g o n c:Nat) (L:List Int) (w:World) (hg:w.heap[g]? =some (.cells (EI.flat L).toArray 3 (0,0))) (hl:o+n<=L.length) (hn:n<=12) (hp:Good p L o n):
  Calls Tryz.prog 166 #[.slice (some ⟨g,o,none⟩) n c] w fun e w'=> e= .returned (.tuple #[])/\ ∃L',w'.heap[g]? =some (.cells (EI.flat L').toArray 3 (0,0))/\L'.length=L.length/\Good p L' o n/\Ext [g] w w':=by
 have hi:=isort_c p g o n c L w hg hl hn hp
 have HI:=hi_ hi
 have z1:(n:Int)<=12:=by omega
 have z2:IntKind.i64.wrap ((n:Int) - 0)=(n:Int):=IntWalk.i64_in _ (by omega)
 have hpd: ∀m:Int,Calls Tryz.prog 199 #[.slice (some ⟨g,o,none⟩) n c,.int .i64 0,.int .i64 n,.int .i64 m] w fun e w'=> e= .returned (.tuple #[])/\ ∃L',w'.heap[g]? =some (.cells (EI.flat L').toArray 3 (0,0))/\L'.length=L.length/\Good p L' o n/\Ext [g] w w':=by
  intro m
  clear hi hg hp
  go_enter Tryz.func199,Tryz.ntmps199
  go_wp2_with fail
  go_loopw [1,2] (fun av bv wr=> av= .int .i64 0/\bv= .int .i64 n/\wr=w) (fun _ _ _=> 0)
  case atStart=> exact⟨rfl,rfl,rfl⟩
  case round=>
   obtain⟨rfl,rfl,rfl⟩:=hrel
   go_wp2_with fail
   refine HI.out.mono ?_
   rintro e W2 ⟨rfl,h⟩
   have H:=hi_ h
   clear h
   go_wp2
   refine bodyPost_ret (results_none rfl _ _ _) rfl ?_
   exact⟨rfl,H.out⟩
 have HPD:=hi_ hpd
 clear hpd hi hg hp
 go_enter Tryz.func166,Tryz.ntmps166
 go_wp2_with fail
 have hbl:Calls Tryz.prog 95 #[.int .u64 n] w fun e w'=> ∃m:Int,e= .returned (.int .i64 m)/\w'=w:=by
  clear HPD z1 z2
  go_enter Tryz.func95,Tryz.ntmps95
  go_wp2_with fail
  refine(len64_c n hn _).mono ?_
  rintro e W2 ⟨m,rfl,rfl⟩
  go_wp2
  go_ret
  exact⟨m,rfl,rfl⟩
 refine hbl.mono ?_
 rintro e W2 ⟨m,rfl,rfl⟩
 clear hbl
 go_wp2_with fail
 refine(HPD.out m).mono ?_
 rintro e W3 ⟨rfl,h⟩
 have H:=hi_ h
 clear h
 go_wp2
 go_end0
 exact⟨rfl,H.out⟩
end Go.Proofs.YtkpgjkekmdecbaaGreat
