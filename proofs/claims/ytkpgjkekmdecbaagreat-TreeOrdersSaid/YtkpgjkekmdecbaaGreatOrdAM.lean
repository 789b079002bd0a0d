/- Lemmas for the claim. No conditions beside those that each states. -/
import Derived.Test.YtkpgjkekmdecbaaGreatOrdAI
import Derived.Laws.BytesArg
import Derived.Laws.Bits64b
import Derived.Laws.IdiomStrings
import Derived.Test.YtkpgjkekmdecbaaGreatOrdAB
set_option maxRecDepth 100000
set_option maxHeartbeats 8000000
set_option linter.all false

namespace Go.Proofs.YtkpgjkekmdecbaaGreat
open Go.RowKit
variable {w:World} {T:TypeId} {n:Nat}
theorem fa_ {v:Value} {s:List UInt8} (h:EB.Rd w v s):(convert 158 9 v).run Tryz.prog w= .ok (.string ⟨s.toArray⟩) w:=by
 rcases h with ⟨rfl,rfl⟩ | ⟨g,o,cap,rfl,h1,hg,hc⟩
 ·exact run_convert_bytes_nil w 158 5 Tryz.underlying158 Tryz.underlying5 0 0 9 Tryz.underlying9
 ·have hrd:EB.Rd w (.slice (some ⟨g,o,none⟩) s.length cap) s:= .inr ⟨g,o,cap,rfl,h1,hg,hc⟩
  exact run_convert_bytes_back (P:=Tryz.prog) w 158 9 5 ⟨g,o,none⟩ cap s Tryz.underlying158 Tryz.underlying5 Tryz.underlying9 (fun j hj=> by
   have h:=hrd.cells j 0 hj (by decide)
   have e:(⟨g,o,none⟩:Addr).add j=⟨g,o+j,none⟩:=by
    simp only [Addr.add]
    split
    ·rename_i h;subst h;rfl
    ·rfl
   rw [e]
   simpa [EB] using h)
theorem bO_ (W0:World) (x:Itm3) (hn:n=W0.heap.size:=by rfl):EIt.Rd (W0.alloc (.cells #[.int .i64 x.1,.int .i64 x.2.1,.string ⟨x.2.2.toArray⟩] T)) (.slice (some ⟨n,0,none⟩) 1 1) [x]:=by
 subst hn
 refine .inr ⟨W0.heap.size,0,1,rfl,Nat.le_refl _,by simp,fun j u hj=> ?_⟩
 rw [cell_of_row _ W0.heap.size _ _ _ _ (heap_alloc_new _ _)]
 match j,hj with
 | 0,hj=> exact hj
 | 1,hj=> exact hj
 | 2,hj=> exact hj
 | j+3,hj=> simp [EIt,Enc.flat] at hj
theorem and64e (n:Nat) (h:n < 4611686018427387904):bits BinOp.and IntKind.u64 (2*(n:Int)) 1=0:=by
 have e:(2*(n:Int))=((2*n:Nat):Int):=by omega
 have h1:=bits_and_u64_nat (2*n) 1 (by omega) (by omega)
 rw [Nat.and_one_is_mod] at h1
 rw [e]
 refine h1.trans ?_
 omega
theorem xor64z (n:Nat) (h:n < 4611686018427387904):bits BinOp.xor IntKind.i64 (n:Int) 0=(n:Int):=by
 simp [bits,IntKind.wrap,IntKind.bits,IntKind.signed]
 have key: ∀x:BitVec 64,x=BitVec.ofNat 64 n->(if 9223372036854775808<=(x.toNat:Int) % 18446744073709551616 then (x.toNat:Int) % 18446744073709551616 - 18446744073709551616 else (x.toNat:Int) % 18446744073709551616)=n:=by
  rintro x rfl
  rw [BitVec.toNat_ofNat]
  split <;> omega
 exact key _ BitVec.xor_zero
def lenVs:Value->Nat
 | .slice _ n _=> n
 | _=> 0
@[simp] theorem lenVs_slice (p:Option Addr) (n c:Nat):lenVs (.slice p n c)=n:=rfl
def DecPost (l:List Itm) (w:World) (e:Ending) (w':World):Prop:= ∃u,e= .returned (.tuple #[u,.int .i64 0])/\EIt.Ow 215 w' u (l.map itmV)/\Ext [] w w'/\ ∀g∈blkL u,w.heap.size<=g
theorem eY_ (v:Value) (l:List Itm) (w:World) (hv:EB.Rd w v (encL l)) (hg:gr_ l) (hbl:(encL l).length<=1000000):Calls Tryz.prog 120 #[v] w (DecPost l w):=by
 obtain⟨HV,HG⟩:=h_2 hv hg
 have hll:=hg.1
 clear hv hg
 go_enter Tryz.func120,Tryz.ntmps120
 go_wp2_with fail
 go_loopw [0,4] (fun bv ov wr=> ∃(done todo:List Itm),l=done++todo/\Hid (EB.Rd wr bv (encL todo)/\ ∀g∈blkL bv,g < w.heap.size)/\Hid (EIt.Ow 215 wr ov (done.map itmV))/\Hid (Ext [] w wr/\ ∀g∈blkL ov,w.heap.size<=g)) (fun bv _ _=> lenVs bv)
 case atStart=> exact⟨[],l,rfl,hi_ ⟨HV.out,HV.out.lt⟩,hi_ (.inl ⟨rfl,rfl⟩),hi_ ⟨Ext.refl _ _,by simp [blkL]⟩⟩
 case round=>
  obtain⟨done,todo,hdt,HB,HO,HE⟩:=hrel
  obtain⟨pb,cb,hbv,hcb⟩:=HB.out.1.len_eq
  subst hbv
  obtain⟨po,co,hov,_⟩:=HO.out.rd.len_eq
  subst hov
  rw [List.length_map] at HO HE
  simp only [List.length_map]
  cases todo with
  | nil=>
   have e:l=done:=by simpa using hdt
   rw [<-e] at HO HE
   simp only [<-e,encL,List.map_nil,List.flatten_nil,List.length_nil] at HB ⊢
   clear e hdt
   go_wp2
   go_ret2
   exact⟨_,rfl,HO.out,HE.out⟩
  | cons x todo=>
   have hdl:done.length < 2000:=by rw [hdt] at hll;simp at hll;omega
   have hel:(encL (x::todo)).length=(encI x).length+(encL todo).length:=by rw [q_,List.length_append]
   have htl:(encL todo).length<=1000000/\(encL (x::todo)).length<=1000000:=by
    have h1:=congrArg (fun z=> (encL z).length) hdt
    simp only [bw_,List.length_append] at h1
    omega
   have hgx:=HG.out.2 x (by rw [hdt];simp)
   obtain⟨N,hN⟩: ∃N,N=(encL (x::todo)).length:=⟨_,rfl⟩
   rw [<-hN] at HB hcb htl hel
   simp only [<-hN]
   have hel2:N=(encI x).length+(encL todo).length:=hel
   have hi2:2<=(encI x).length:=by
    cases x with
    | num n=> have:=(x_ 9 (2*n) (by have:n<=4611686018427387903:=hgx;omega)).1;simp only [encI,List.length_cons];omega
    | txt s=> have:=(x_ 9 s.length (by have:s.length<=4000:=hgx;omega)).1;simp only [encI,List.length_cons,List.length_append];omega
   obtain⟨g,o,rfl⟩: ∃g o,pb=some ⟨g,o,none⟩:=by
    rcases HB.out.1 with ⟨h,_⟩ | ⟨g,o,c,h,_⟩
    ·simp only [Value.slice.injEq] at h;omega
    ·simp only [Value.slice.injEq] at h;exact⟨g,o,h.1⟩
   have hB2:EB.Rd wr (.slice (some ⟨g,o,none⟩) N cb) (encL (x::todo)):=HB.out.1
   have hgw:g < w.heap.size:=HB.out.2 g (by simp [blkL])
   have hx0:=bA_ hB2 0 (by rw [<-hN];omega)
   have hB3:EB.Rd wr (.slice (some ⟨g,o+1,none⟩) (N - 1) (cb - 1)) ((encL (x::todo)).drop 1):=hB2.dropS (k:=1)
   have hN2:=hi_ hN
   have z0:(0:Int) < (N:Int):=by omega
   have z1: ¬cb=1:=by omega
   have z1': ¬cb=0:=by omega
   have z2:(1:Int)<=(N:Int):=by omega
   have z3:(1:Int)<=(cb:Int):=by omega
   have z4:((done.length:Int)==2000)=false:=beq_eq_false_iff_ne.2 (by omega)
   obtain⟨HDT,HEL⟩:=h_2 hdt hel2
   clear hN hel hcb hel2 hdt
   cases x with
   | num n=>
    have hn:n<=4611686018427387903:=hgx
    have e0:(encL (.num n::todo)).getD 0 0=1:=by simp [encL,encI,List.getD]
    have e1:(encL (.num n::todo)).drop 1=A_ (2*n)++encL todo:=by simp [encL,encI]
    rw [e0] at hx0
    rw [e1] at hB3
    have HB3:=hi_ hB3
    simp only [Nat.add_zero,show ((1:UInt8).toNat:Int)=1 from rfl] at hx0
    clear e0 e1 hB3 hB2
    go_wp2_with fail
    refine(gj_ _ (2*n) (encL todo) _ HB3.out (by omega) htl.1).mono ?_
    rintro e W1 ⟨u,rfl,hu,hul,hE1,gu,ou,cu,rfl⟩
    clear hx0
    have ha:=and64e n (by omega)
    have hx:=xor64z n (by omega)
    go_wp2_with (with_reducible refine f_ (d:=44) ?_)
    have hgo: ∀x∈blkL (.slice po done.length co),w.heap.size<=x:=HE.out.2
    refine k_ rfl fun K hK=> b_ (E:=EIt) (T:=215) (zero:=I0) (bytes:=32) (v:= .slice po done.length co) (xs:=done.map itmV) (ys:= [(1,(n:Int),[])]) tiIt Tryz.underlying191 Tryz.underlying191 rfl rfl rfl ((HO.out.ext0 hE1).ext0 ((Ext.refl [] W1).alloc _)) (bO_ W1 (1,(n:Int),[])) (by simp;omega) (by simp;omega) ?_
    intro v2 w2 how hext hnear hnn
    have eo:done.map itmV++ [(1,(n:Int),[])]=(done++ [Itm.num n]).map itmV:=by simp [itmV]
    rw [eo] at how
    have hE1a:=(HE.out.1.trans hE1).alloc (.cells #[.int .i64 1,.int .i64 n,.string ⟨#[]⟩] 215)
    have HE2:=hi_ (C_ hE1a HE.out.2 hext hnear)
    have HO2:=hi_ how
    have HB2:Hid (EB.Rd w2 (.slice (some ⟨gu,ou,none⟩) (encL todo).length cu) (encL todo)/\ ∀x∈blkL (.slice (some ⟨gu,ou,none⟩) (encL todo).length cu),x < w.heap.size):=hi_ ⟨(hu.ext0 ((Ext.refl [] W1).alloc _)).ext hext (fun x hx hx2=> by
      have h1:=hul x hx
      simp only [blkL,List.mem_singleton] at h1
      have h2:=hgo x hx2
      omega),fun x hx=> by
      have h1:=hul x hx
      simp only [blkL,List.mem_singleton] at h1
      omega⟩
    have hll2:=HEL.out
    clear how hext hnear hnn eo hE1a hu hul hE1 ha hx hgo
    refine hK _ _ ?_
    clear hK
    go_wp2_with fail
    go_roundw
    case rel=> exact⟨done++ [Itm.num n],todo,by rw [HDT.out];simp,HB2,HO2,HE2⟩
    case measure=> simp;omega
   | txt s=>
    have hs:s.length<=4000:=hgx
    have e0:(encL (.txt s::todo)).getD 0 0=2:=by simp [encL,encI,List.getD]
    have e1:(encL (.txt s::todo)).drop 1=A_ s.length++(s++encL todo):=by simp [encL,encI]
    rw [e0] at hx0
    rw [e1] at hB3
    have HB3:=hi_ hB3
    simp only [Nat.add_zero,show ((2:UInt8).toNat:Int)=2 from rfl] at hx0
    clear e0 e1 hB3 hB2
    go_wp2_with fail
    refine(gj_ _ s.length (s++encL todo) _ HB3.out (by omega) (by
     have h1:=HEL.out
     simp only [encI,List.length_cons,List.length_append] at h1 ⊢
     omega)).mono ?_
    rintro e W1 ⟨u,rfl,hu,hul,hE1,gu,ou,cu,rfl⟩
    clear hx0
    obtain⟨M,hM⟩: ∃M,M=(encL todo).length:=⟨_,rfl⟩
    have eL:(s++encL todo).length=s.length+M:=by rw [List.length_append,hM]
    have hcu:s.length+M<=cu:=by
     rcases hu with ⟨h,_⟩ | ⟨_,_,_,h,h2,_⟩
     ·cases h
     ·simp only [Value.slice.injEq] at h
      omega
    rw [eL] at hu hul ⊢
    have hcv:=fa_ (hu.takeS (k:=s.length) (by simp))
    rw [show (s++encL todo).take s.length=s by simp] at hcv
    have hrest:=hu.dropS2 (k:=s.length)
    rw [show (s++encL todo).drop s.length=encL todo by simp] at hrest
    have z5:(s.length:Int)<=4000:=by omega
    have z6:(s.length:Int)<=(s.length:Int)+(M:Int):=by omega
    have z7:(s.length:Int)<=(cu:Int):=by omega
    obtain⟨HR,HM,HU⟩:=h_3 hrest hM hul
    have hMl:M<=1000000:=by have:=HM.out;omega
    have z8:IntKind.u64.wrap ((s.length:Int)+(M:Int))=(s.length:Int)+(M:Int):=by simp [IntKind.wrap,IntKind.bits,IntKind.signed];omega
    have hgo: ∀x∈blkL (.slice po done.length co),w.heap.size<=x:=HE.out.2
    clear hu hrest hM eL hul
    go_wp2_with (with_reducible refine f_ (d:=67) ?_)
    refine k_ rfl fun K hK=> b_ (E:=EIt) (T:=215) (zero:=I0) (bytes:=32) (v:= .slice po done.length co) (xs:=done.map itmV) (ys:= [(2,0,s)]) tiIt Tryz.underlying191 Tryz.underlying191 rfl rfl rfl ((HO.out.ext0 hE1).ext0 ((Ext.refl [] W1).alloc _)) (bO_ W1 (2,0,s)) (by simp;omega) (by simp;omega) ?_
    intro v2 w2 how hext hnear hnn
    have eo:done.map itmV++ [(2,(0:Int),s)]=(done++ [Itm.txt s]).map itmV:=by simp [itmV]
    rw [eo] at how
    have hE1a:=(HE.out.1.trans hE1).alloc (.cells #[.int .i64 2,.int .i64 0,.string ⟨s.toArray⟩] 215)
    have HE2:=hi_ (C_ hE1a HE.out.2 hext hnear)
    have HO2:=hi_ how
    have hgu:gu=g:=by
     have h1:=HU.out gu (by simp [blkL])
     simpa [blkL] using h1
    have HR2:Hid (EB.Rd w2 (.slice (if cu=s.length then some ⟨gu,ou,none⟩ else some ⟨gu,ou+s.length*EB.k,none⟩) (s.length+M - s.length) (cu - s.length)) (encL todo)):=hi_ ((HR.out.ext0 ((Ext.refl [] W1).alloc _)).ext hext (fun x hx hx2=> by
      have h2:=hgo x hx2
      split at hx <;> (simp only [blkL,List.mem_singleton] at hx;omega)))
    have hll2:=HEL.out
    have hgw2:gu < w.heap.size:=by omega
    have eM:s.length+M - s.length=M:=by omega
    have ek:ou+s.length*EB.k=ou+s.length:=by simp [EB]
    rw [eM,ek] at HR2
    have hlen2:M < N:=by
     have:=HM.out
     omega
    clear how hext hnear hnn eo hE1a hE1 hgo HU HR eM ek hcv z8 hgu
    refine hK _ _ ?_
    clear hK
    by_cases hc:cu=s.length
    ·rw [if_pos hc] at HR2
     subst hc
     obtain rfl:M=0:=by omega
     go_wp2_with fail
     go_roundw
     case rel=> exact⟨done++ [Itm.txt s],todo,by rw [HDT.out];simp,hi_ ⟨by simpa using HR2.out,by simp [blkL];omega⟩,HO2,HE2⟩
     case measure=> simp;omega
    ·rw [if_neg hc] at HR2
     go_wp2_with fail
     go_roundw
     case rel=> exact⟨done++ [Itm.txt s],todo,by rw [HDT.out];simp,hi_ ⟨HR2.out,by simp [blkL];omega⟩,HO2,HE2⟩
     case measure=> simp;omega
section
variable {P:Program} {ops:Array Oper} {Q:Exit->Act->World->Prop} {md:Region.Mode} {S:World->Prop} {nd:Nat->Bool}
def putT:List (Nat×Nat)->(Nat->Value)->Array Value->Array Value
 | [],_,ts=> ts
 | x::r,vals,ts=> putT r vals (ts.setIfInBounds x.1 (vals x.2))
def putG (G:List (Nat×Nat)) (vals:Nat->Value) (a:Act):Act:={a with tmps:=putT G vals a.tmps}
def cS_:List (Nat×Nat)->Array Bool->Array Bool
 | [],L=> L
 | x::r,L=> cS_ r (L.setIfInBounds x.2 true)
def upd (vals:Nat->Value) (j:Nat) (v:Value):Nat->Value:=fun k=> if k=j then v else vals k
theorem hv_: ∀(G:List (Nat×Nat)) (vals:Nat->Value) (ts:Array Value) (d:Nat) (v:Value),d∉G.map (·.1)->putT G vals (ts.setIfInBounds d v)=(putT G vals ts).setIfInBounds d v
 | [],_,_,_,_,_=> rfl
 | x::r,vals,ts,d,v,h=> by
  simp only [List.map_cons,List.mem_cons,not_or] at h
  rw [putT,putT,Array.setIfInBounds_comm _ _ h.1,hv_ r vals _ d v h.2]
theorem hu_: ∀(G:List (Nat×Nat)) (vals:Nat->Value) (ts:Array Value) (j:Nat) (v:Value),j∉G.map (·.2)->putT G (upd vals j v) ts=putT G vals ts
 | [],_,_,_,_,_=> rfl
 | x::r,vals,ts,j,v,h=> by
  simp only [List.map_cons,List.mem_cons,not_or] at h
  rw [putT,putT,hu_ r vals _ j v h.2]
  rw [show upd vals j v x.2=vals x.2 from if_neg (Ne.symm h.1)]
theorem fN_: ∀(G:List (Nat×Nat)) (vals:Nat->Value) (ts:Array Value) (x:Nat×Nat) (v:Value),x∈G->(G.map (·.1)).Nodup->(G.map (·.2)).Nodup->(putT G vals ts).setIfInBounds x.1 v=putT G (upd vals x.2 v) ts
 | [],_,_,_,_,h,_,_=> by cases h
 | y::r,vals,ts,x,v,h,h1,h2=> by
  simp only [List.map_cons,List.nodup_cons] at h1 h2
  rcases List.mem_cons.1 h with rfl | h
  ·rw [putT,putT,hu_ r vals _ _ v h2.1,show upd vals x.2 v x.2=v from if_pos rfl,<-hv_ r vals _ _ _ h1.1,Array.setIfInBounds_setIfInBounds]
  ·have hne:y.2≠x.2:=fun e=> h2.1 (e ▸ List.mem_map_of_mem h)
   rw [putT,putT,show upd vals x.2 v y.2=vals y.2 from if_neg hne]
   exact fN_ r vals _ x v h h1.2 h2.2
theorem putT_id: ∀(G:List (Nat×Nat)) (vals:Nat->Value) (ts:Array Value),(∀x∈G,vals x.2=ts.getD x.1 undef)->putT G vals ts=ts
 | [],_,_,_=> rfl
 | x::r,vals,ts,h=> by
  have e:ts.setIfInBounds x.1 (vals x.2)=ts:=by
   rw [h x (by simp)]
   apply Array.ext_getElem?
   intro i
   rw [Array.getElem?_setIfInBounds]
   split
   ·rename_i hi
    subst hi
    split
    ·rename_i hl;simp [hl]
    ·rename_i hl;simp at hl;simp [hl]
   ·rfl
  rw [putT,e]
  exact putT_id r vals ts (fun y hy=> h y (List.mem_cons_of_mem _ hy))
theorem cA_: ∀(G:List (Nat×Nat)) (L:Array Bool) (k:Nat),k∉G.map (·.2)->(cS_ G L)[k]? =L[k]?
 | [],_,_,_=> rfl
 | x::r,L,k,h=> by
  simp only [List.map_cons,List.mem_cons,not_or] at h
  rw [cS_,cA_ r _ k h.2,Array.getElem?_setIfInBounds_ne (Ne.symm h.1)]
theorem fI_: ∀(G:List (Nat×Nat)) (L:Array Bool) (k:Nat),k∈G.map (·.2)->k < L.size->(cS_ G L)[k]? =some true
 | [],_,_,h,_=> by cases h
 | x::r,L,k,h,hl=> by
  rw [cS_]
  by_cases hk:k∈r.map (·.2)
  ·exact fI_ r _ k hk (by simpa using hl)
  ·simp only [List.map_cons,List.mem_cons] at h
   rcases h with h | h
   ·subst h
    rw [cA_ r _ _ hk]
    simp [hl]
   ·exact absurd h hk
def ig_ (md:Region.Mode) (ops:Array Oper):List (Nat×Nat)->Array Bool->Bool
 | [],_=> true
 | x::r,L=> (match ops[x.2]? with
  | some o=> o.dst==some x.1 && o.guard.isNone && o.after.all (fun e=> !Region.binds md e || L.getD e.on false)
  | none=> false) && ig_ md ops r (L.setIfInBounds x.2 true)
def grpB (md:Region.Mode) (ops:Array Oper) (L0:Array Bool) (G:List (Nat×Nat)) (dep:Nat->List Nat):Bool:=
 decide (G.map (·.1)).Nodup && decide (G.map (·.2)).Nodup && gT_ md ops L0 && ig_ md ops G L0 && G.all (fun x=> decide (x.2 < L0.size) && !L0.getD x.2 true && (dep x.2).all (fun k=> (G.map (·.2)).contains k && bX_ md ops k 8 x.2)) &&
  (List.range ops.size).all (fun j=> L0.getD j true || (G.map (·.2)).contains j || G.all (fun x=> bX_ md ops x.2 8 j))
theorem fD_: ∀(G:List (Nat×Nat)) (L:Array Bool),ig_ md ops G L=true-> ∀x∈G,∃o,ops[x.2]? =some o/\o.dst=some x.1/\o.guard=none
 | [],_,_,_,h=> by cases h
 | y::r,L,h,x,hx=> by
  rw [ig_,Bool.and_eq_true] at h
  rcases List.mem_cons.1 hx with rfl | hx
  ·cases ho:ops[x.2]? with
   | none=> rw [ho] at h;cases h.1
   | some o=>
    rw [ho] at h
    simp only [Bool.and_eq_true,beq_iff_eq,Option.isNone_iff_eq_none] at h
    exact⟨o,rfl,h.1.1.1,h.1.1.2⟩
  ·exact fD_ r _ h.2 x hx
theorem dn_: ∀(G:List (Nat×Nat)) (L listed:Array Bool),ig_ md ops G L=true->(∀k,L.getD k false=true->listed.getD k false=true)->(∀x∈G,x.2 < listed.size)->(∃x∈G,listed.getD x.2 true=false)-> ∃x∈G,x.2∈Region.ready md ops listed
 | [],_,_,_,_,_,h=> by obtain⟨x,h,_⟩:=h;cases h
 | y::r,L,listed,h,hm,hsz,hx=> by
  rw [ig_,Bool.and_eq_true] at h
  by_cases hy:listed.getD y.2 true=false
  ·refine⟨y,by simp,mem_ready.2 ⟨hy, ?_⟩⟩
   cases ho:ops[y.2]? with
   | none=> rw [ho] at h;cases h.1
   | some o=>
    rw [ho] at h
    simp only [Bool.and_eq_true,beq_iff_eq,Option.isNone_iff_eq_none,Array.all_eq_true_iff_forall_mem,Bool.or_eq_true,Bool.not_eq_true'] at h
    refine⟨o,rfl,fun e he hb=> hm _ ?_⟩
    rcases h.1.2 e he with h1 | h1
    ·rw [hb] at h1;cases h1
    ·exact h1
  ·have hy':listed.getD y.2 true=true:=by simpa using hy
   obtain⟨x,hx,hx2⟩:=hx
   have hxr:x∈r:=by
    rcases List.mem_cons.1 hx with rfl | h
    ·rw [hx2] at hy';cases hy'
    ·exact h
   obtain⟨z,hz,hz2⟩:=dn_ r (L.setIfInBounds y.2 true) listed h.2 (fun k hk=> by
    by_cases hyk:y.2=k
    ·subst hyk
     have hlt:=hsz y (by simp)
     simp [hlt] at hy' ⊢
     exact hy'
    ·rw [getD_set_ne false hyk] at hk
     exact hm k hk) (fun x hx=> hsz x (List.mem_cons_of_mem _ hx)) ⟨x,hxr,hx2⟩
   exact⟨z,List.mem_cons_of_mem _ hz,hz2⟩
def cC_ (G:List (Nat×Nat)) (listed:Array Bool):Nat:=(G.filter (fun x=> !listed.getD x.2 true)).length
theorem fU_: ∀(G:List (Nat×Nat)) (listed:Array Bool) (x:Nat×Nat),x∈G->(G.map (·.2)).Nodup->listed.getD x.2 true=false->cC_ G listed=cC_ G (listed.setIfInBounds x.2 true)+1
 | [],_,_,h,_,_=> by cases h
 | y::r,listed,x,h,hn,hl=> by
  simp only [List.map_cons,List.nodup_cons] at hn
  have hlt:x.2 < listed.size:=by
   rcases Nat.lt_or_ge x.2 listed.size with h' | h'
   ·exact h'
   ·simp [Array.getElem?_eq_none h'] at hl
  rcases List.mem_cons.1 h with rfl | h
  ·have e:cC_ r (listed.setIfInBounds x.2 true)=cC_ r listed:=by
    unfold cC_
    congr 1
    apply List.filter_congr
    intro z hz
    rw [getD_set_ne true (fun e=> hn.1 (by rw [e];exact List.mem_map_of_mem hz))]
   unfold cC_ at e ⊢
   rw [List.filter_cons,List.filter_cons,hl]
   simp only [Bool.not_false,if_true,List.length_cons]
   rw [<-e]
   simp [hlt]
  ·have ih:=fU_ r listed x h hn.2 hl
   have hne:x.2≠y.2:=fun e=> hn.1 (by rw [<-e];exact List.mem_map_of_mem h)
   unfold cC_ at ih ⊢
   rw [List.filter_cons,List.filter_cons,getD_set_ne true hne]
   split
   ·rw [List.length_cons,List.length_cons,ih]
   ·exact ih
theorem ip_ {G:List (Nat×Nat)} {listed:Array Bool} (h:cC_ G listed=0): ∀x∈G,listed.getD x.2 true=true:=fun x hx=> by
 unfold cC_ at h
 rw [List.length_eq_zero_iff,List.filter_eq_nil_iff] at h
 simpa using h x hx
theorem hI_: ∀(G:List (Nat×Nat)) (x:Nat×Nat),x∈G->(G.map (·.2)).Nodup->G.find? (fun y=> y.2==x.2)=some x
 | [],_,h,_=> by cases h
 | y::r,x,hx,h=> by
  simp only [List.map_cons,List.nodup_cons] at h
  rw [List.find?_cons]
  rcases List.mem_cons.1 hx with rfl | hx
  ·simp
  ·have hne:y.2≠x.2:=fun e=> h.1 (by rw [e];exact List.mem_map_of_mem hx)
   rw [show (y.2==x.2)=false from beq_eq_false_iff_ne.2 hne]
   exact hI_ r x hx h.2
theorem hZ_ (G:List (Nat×Nat)) (dep:Nat->List Nat) (R:Nat->Value->World->Prop) (S2:World->Prop) {L0:Array Bool} {a0:Act} {w0:World} (n':Nat) (hn:n=n'+G.length)
  (hok:grpB md ops L0 G dep=true) (hS: ∀w,S2 w->S w) (hS2: ∀w w',S2 w->Ext [] w w'->S2 w') (h0:S2 w0) (hR: ∀x∈G,∀v w w',R x.2 v w->Ext [] w w'->R x.2 v w')
  (hspec: ∀x∈G,∀o,ops[x.2]? =some o-> ∀(vals:Nat->Value) (w:World),Ext [] w0 w->S2 w->(∀k∈dep x.2,R k (vals k) w)-> ∀K:Act->World->Prop,Hid (∀v w',Ext [] w w'->R x.2 v w'->K ((putG G vals a0).put (some x.1) v) w')->Oper.wp P o (putG G vals a0) w K Q)
  (hfin: ∀vals w,Ext [] w0 w->S2 w->(∀x∈G,R x.2 (vals x.2) w)->ab_ P md ops Q S nd n' (cS_ G L0) (putG G vals a0) w):
  ab_ P md ops Q S nd n L0 a0 w0:=by
 unfold grpB at hok
 simp only [Bool.and_eq_true,decide_eq_true_eq,List.all_eq_true,Bool.or_eq_true,Bool.not_eq_true',List.mem_range,List.contains_iff_mem] at hok
 obtain⟨⟨⟨⟨⟨h1,h2⟩,h3⟩,h4⟩,h5⟩,h6⟩:=hok
 have hcl:=cW_ h3
 have aux: ∀(m:Nat) (listed:Array Bool) (vals:Nat->Value) (w:World),cC_ G listed=m->(∀k,L0.getD k true=true->listed.getD k true=true)->(∀k,L0.getD k false=true->listed.getD k false=true)->listed.size=L0.size->(∀k,k∉G.map (·.2)->listed[k]? =L0[k]?)->Closed md ops listed->(∀x∈G,listed.getD x.2 true=true->R x.2 (vals x.2) w)->Ext [] w0 w->S2 w->ab_ P md ops Q S nd (n'+m) listed (putG G vals a0) w:=by
  intro m
  induction m with
  | zero=>
   intro listed vals w hm _ _ hsz hoth _ hRl hE hS2w
   have hall:=ip_ hm
   have e:listed=cS_ G L0:=by
    apply Array.ext_getElem?
    intro k
    by_cases hk:k∈G.map (·.2)
    ·obtain⟨x,hx,rfl⟩:=List.mem_map.1 hk
     have hlt:=(h5 x hx).1.1
     rw [fI_ G L0 _ hk hlt]
     have:=hall x hx
     have hlt':x.2 < listed.size:=by omega
     simp [hlt'] at this ⊢
     exact this
    ·rw [hoth k hk,cA_ G L0 k hk]
   rw [e]
   exact hfin vals w hE hS2w (fun x hx=> hRl x hx (hall x hx))
  | succ m ih=>
   intro listed vals w hm hmono hmonoF hsz hoth hc hRl hE hS2w
   have hex: ∃x∈G,listed.getD x.2 true=false:=by
    have hpos:0 < (G.filter (fun x=> !listed.getD x.2 true)).length:=by unfold cC_ at hm;omega
    obtain⟨x,hx⟩:=List.exists_mem_of_length_pos hpos
    rw [List.mem_filter] at hx
    exact⟨x,hx.1,by simpa using hx.2⟩
   refine⟨fun hr=> ?_,fun i hi=> ?_⟩
   ·obtain⟨x,_,hx⟩:=dn_ G L0 listed h4 hmonoF (fun x hx=> by have:=(h5 x hx).1.1;omega) hex
    rw [hr] at hx
    cases hx
   ·have hcl':=hc.step hi
    obtain⟨hiun,oi,hoi,hall⟩:=mem_ready.1 hi
    have hilt:i < ops.size:=(Array.getElem?_eq_some_iff.1 hoi).1
    have hil:i < listed.size:=by
     rcases Nat.lt_or_ge i listed.size with h' | h'
     ·exact h'
     ·simp [Array.getElem?_eq_none h'] at hiun
    have hself:(listed.setIfInBounds i true).getD i true=true:=by simp
    have hiG:i∈G.map (·.2):=by
     rcases h6 i hilt with (h | h) | h
     ·have:=hmono i h;rw [hiun] at this;cases this
     ·exact h
     ·obtain⟨x,hx,hxu⟩:=hex
      have hw:=aU_ hcl' 8 i hself (h x hx)
      by_cases hix:i=x.2
      ·exact hix ▸ List.mem_map_of_mem hx
      ·rw [getD_set_ne true hix,hxu] at hw;cases hw
    obtain⟨x,hx,rfl⟩:=List.mem_map.1 hiG
    obtain⟨o,ho,hdst,hgd⟩:=fD_ G L0 h4 x hx
    rw [hoi] at ho
    cases ho
    unfold wpOp
    rw [hoi]
    have hwant:Region.wanted oi (yielded ops (putG G vals a0).tmps)=true:=by unfold Region.wanted;rw [hgd]
    show if Region.wanted oi (yielded ops (putG G vals a0).tmps)=true then _ else _
    rw [if_pos hwant]
    refine .inl (hspec x hx oi hoi vals w hE hS2w (fun k hk=> ?_) _ (hi_ (fun v w' hE' hRv=> ⟨fun _=> hS _ (hS2 _ _ hS2w hE'), ?_⟩)))
    ·have hd:=(h5 x hx).2 k hk
     obtain⟨y,hy,rfl⟩:=List.mem_map.1 hd.1
     refine hRl y hy ?_
     have hw:=aU_ hcl' 8 x.2 hself hd.2
     by_cases hxy:x.2=y.2
     ·exfalso
      have hdw:=hd.2
      rw [<-hxy] at hdw
      -- an operation never waits for itself: its edges are listed
      have key: ∀(n j:Nat),bX_ md ops x.2 n j=true->(∀oj,ops[j]? =some oj-> ∀e∈oj.after,Region.binds md e=true->listed.getD e.on true=true)->False:=by
       intro n
       cases n with
       | zero=> intro j h;simp [bX_] at h
       | succ n=>
        intro j h hl
        rw [bX_] at h
        cases hoj:ops[j]? with
        | none=> rw [hoj] at h;cases h
        | some oj=>
         rw [hoj] at h
         obtain⟨e,he,hb⟩:=Array.any_eq_true'.1 h
         simp only [Bool.and_eq_true,Bool.or_eq_true,beq_iff_eq] at hb
         have hle:=hl oj hoj e he hb.1
         rcases hb.2 with h2 | h2
         ·rw [h2,hiun] at hle;cases hle
         ·have:=aU_ hc n e.on hle h2
          rw [hiun] at this;cases this
      refine key 8 x.2 hdw (fun oj hoj e he hb=> ?_)
      rw [hoi] at hoj
      cases hoj
      have:=hall e he hb
      rcases Nat.lt_or_ge e.on listed.size with h' | h'
      ·simp [h'] at this ⊢;exact this
      ·simp [Array.getElem?_eq_none h']
     ·rwa [getD_set_ne true hxy] at hw
    ·have hput:(putG G vals a0).put (some x.1) v=putG G (upd vals x.2 v) a0:=by
      show ({putG G vals a0 with tmps:=(putT G vals a0.tmps).setIfInBounds x.1 v}:Act)=_
      rw [fN_ G vals a0.tmps x v hx h1 h2]
      rfl
     rw [hput]
     have hcnt:=fU_ G listed x hx h2 hiun
     refine ih _ _ _ (by omega) (fun k hk=> ?_) (fun k hk=> getD_set_true (hmonoF k hk)) (by simpa using hsz) (fun k hk=> ?_) hcl' (fun y hy hyl=> ?_) (hE.trans hE') (hS2 _ _ hS2w hE')
     ·by_cases hxk:x.2=k
      ·subst hxk;exact hself
      ·rw [getD_set_ne true hxk];exact hmono k hk
     ·rw [Array.getElem?_setIfInBounds_ne (fun e=> hk (by rw [<-e];exact hiG))]
      exact hoth k hk
     ·by_cases hxy:y.2=x.2
      ·rw [hxy,show upd vals x.2 v x.2=v from if_pos rfl];exact hRv
      ·rw [show upd vals x.2 v y.2=vals y.2 from if_neg hxy]
       rw [getD_set_ne true (Ne.symm hxy)] at hyl
       exact hR y hy _ _ _ (hRl y hy hyl) hE'
 have hG0:cC_ G L0=G.length:=by
  unfold cC_
  rw [List.filter_eq_self.2 (fun x hx=> ?_)]
  simpa using (h5 x hx).1.2
 have h:=aux G.length L0 (fun i=> ((G.find? (fun x=> x.2==i)).map (fun x=> a0.tmps.getD x.1 undef)).getD undef) w0 hG0 (fun _ h=> h) (fun _ h=> h) rfl (fun _ _=> rfl) hcl (fun x hx hl=> by
  have:=(h5 x hx).1.2;rw [hl] at this;cases this) (Ext.refl _ _) h0
 have hid:putG G (fun i=> ((G.find? (fun x=> x.2==i)).map (fun x=> a0.tmps.getD x.1 undef)).getD undef) a0=a0:=by
  unfold putG
  rw [putT_id]
  intro x hx
  have hf:=hI_ G x hx h2
  show ((G.find? (fun y=> y.2==x.2)).map (fun x=> a0.tmps.getD x.1 undef)).getD undef=_
  rw [hf]
  rfl
 rw [hid] at h
 rw [hn]
 exact h
theorem aA_ (G:List (Nat×Nat)) (dep:Nat->List Nat) (R:Nat->Value->World->Prop) (S2:World->Prop) {L0:Array Bool} {a0:Act} {w0:World} (n':Nat) {A:(Nat->Value)->Act} (hn:n=n'+G.length)
  (hok:grpB md ops L0 G dep=true) (hS: ∀w,S2 w->S w) (hS2: ∀w w',S2 w->Ext [] w w'->S2 w') (h0:S2 w0) (hR: ∀x∈G,∀v w w',R x.2 v w->Ext [] w w'->R x.2 v w')
  (hA: ∀vals,putG G vals a0=A vals)
  (hspec: ∀x∈G,∀o,ops[x.2]? =some o-> ∀(vals:Nat->Value) (w:World),Ext [] w0 w->S2 w->(∀k∈dep x.2,R k (vals k) w)-> ∀K:Act->World->Prop,Hid (∀v w',Ext [] w w'->R x.2 v w'->K ((A vals).put (some x.1) v) w')->Oper.wp P o (A vals) w K Q)
  (hfin: ∀vals w,Ext [] w0 w->S2 w->(∀x∈G,R x.2 (vals x.2) w)->ab_ P md ops Q S nd n' (cS_ G L0) (A vals) w):
  ab_ P md ops Q S nd n L0 a0 w0:=
 hZ_ G dep R S2 n' hn hok hS hS2 h0 hR (fun x hx o ho vals w hE h2 hd K hK=> by rw [hA vals];exact hspec x hx o ho vals w hE h2 hd K (by rw [hA vals] at hK;exact hK)) (fun vals w hE h2 hall=> by rw [hA vals];exact hfin vals w hE h2 hall)
end
end Go.Proofs.YtkpgjkekmdecbaaGreat
