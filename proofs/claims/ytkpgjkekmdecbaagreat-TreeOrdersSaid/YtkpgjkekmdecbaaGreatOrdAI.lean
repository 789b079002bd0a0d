/- Lemmas for the claim. No conditions beside those that each states. -/
import Derived.Test.YtkpgjkekmdecbaaGreatOrdAD
import Derived.BigQuiet
import Derived.Test.YtkpgjkekmdecbaaGreatOrdAA
import Derived.Test.YtkpgjkekmdecbaaGreatOrdAF
import Derived.Test.YtkpgjkekmdecbaaGreatOrdAC
set_option maxRecDepth 100000
set_option maxHeartbeats 8000000
set_option linter.all false

namespace Go.Proofs.YtkpgjkekmdecbaaGreat
open Go.RowKit
variable {w w':World} {T:TypeId} {n g:Nat} {S bs:List Nat} {Ts:List TypeId}
theorem eR_ {v:Value} (W0:World) (x:UInt8) (h:v= .int .u8 x.toNat) (hn:n=W0.heap.size:=by rfl):EB.Rd (W0.alloc (.cells #[v] T)) (.slice (some ⟨n,0,none⟩) 1 1) [x]:=by
 subst h hn
 refine .inr ⟨W0.heap.size,0,1,rfl,Nat.le_refl _,by simp,fun j u hj=> ?_⟩
 rw [cell_of_row _ W0.heap.size _ _ _ _ (heap_alloc_new _ _)]
 match j,hj with
 | 0,hj=> exact hj
 | j+1,hj=> simp [EB,Enc.flat] at hj
theorem or128 (m:Nat) (h:m < 256):bits BinOp.or IntKind.u8 (m:Int) 128=((m % 128+128:Nat):Int):=by
 have: ∀m:Fin 256,bits BinOp.or IntKind.u8 ((m.1:Nat):Int) 128=((m.1 % 128+128:Nat):Int):=by decide+kernel
 exact this ⟨m,h⟩
def AppB (v:Value) (ys:List UInt8) (w:World) (e:Ending) (w':World):Prop:= ∃v',e= .returned v'/\EB.Ow 5 w' v' ys/\Ext (blkL v) w w'/\Near w v v'
theorem fT_ (v:Value) (bs:List UInt8) (c:Nat) (w:World) (hv:EB.Ow 5 w v bs) (hl:bs.length<=1000000000) (hc:c < 18446744073709551616):
  Calls Tryz.prog 141 #[v,.int .u64 c] w (AppB v (bs++A_ c) w):=by
 have HV:=hi_ hv
 clear hv
 have hlen:=x_ 9 c (by omega)
 have HL:=hi_ hlen
 clear hlen
 go_enter Tryz.func141,Tryz.ntmps141
 go_wp2_with fail
 go_loopw [0,1] (fun bv cv wr=> ∃(c1:Nat) (b1:List UInt8),c1 < 18446744073709551616/\cv= .int .u64 c1/\Hid (EB.Ow 5 wr bv b1)/\Hid (b1++A_ c1=bs++A_ c)/\Hid (Ext (blkL v) w wr/\Near w v bv)) (fun _ cv _=> (intOf cv).toNat)
 case atStart=> exact⟨c,bs,hc,rfl,HV,hi_ rfl,hi_ ⟨Ext.refl _ _,fun g hg=> .inl hg⟩⟩
 case round=>
  obtain⟨c1,b1,hc1,rfl,HB,HS,HE⟩:=hrel
  have hb1:b1.length<=1000000010:=by
   have h1:=congrArg List.length HS.out
   have h2:=HL.out
   simp only [List.length_append] at h1
   omega
  obtain⟨p,cap,hbv,_⟩:=HB.out.rd.len_eq
  subst hbv
  by_cases h:128<=c1
  ·have z1: ¬((c1:Int) < 128):=by omega
   have hb:bits BinOp.or IntKind.u8 ((c1:Int) % 256) 128=((c1 % 128+128:Nat):Int):=by
    have h1:=or128 (c1 % 256) (by omega)
    rw [show ((c1:Int) % 256)=((c1 % 256:Nat):Int) by omega,h1]
    omega
   go_wp2_with (with_reducible refine f_ (d:=14) ?_)
   refine k_ rfl fun K hK=> b_ (E:=EB) (T:=5) (zero:=0) (bytes:=1) (v:= .slice p b1.length cap) (xs:=b1) (ys:= [UInt8.ofNat (c1 % 128+128)]) tiB Tryz.underlying158 Tryz.underlying158 rfl rfl rfl (HB.out.ext0 ((Ext.refl [] wr).alloc _)) (eR_ wr _ (by rw [UInt8.toNat_ofNat'];congr 1;omega)) (by simp;omega) (by simp;omega) ?_
   intro v2 w2 how hext hnear hnn
   obtain⟨p2,cap2,hv2,_⟩:=how.rd.len_eq
   rw [List.length_append,List.length_singleton] at hv2
   subst hv2
   have HO2:=hi_ how
   have HE2:Hid (Ext (blkL v) w w2/\Near w v (.slice p2 (b1.length+1) cap2)):=hi_ ⟨HE.out.1.trans' (((Ext.refl [] wr).alloc _).nil.trans hext) (fun x hx=> .inl hx) (fun x hx=> HE.out.2 x hx),fun x hx=> by
    rcases hnear x hx with h1 | h1
    ·exact HE.out.2 x h1
    ·have:=HE.out.1.size
     simp at h1
     omega⟩
   clear how hext hnear hnn hb
   refine hK _ _ ?_
   clear hK
   go_wp2_with fail
   go_roundw
   case rel=>
    have e:=HS.out
    rw [ar_ h] at e
    exact⟨c1 / 128,b1++ [UInt8.ofNat (c1 % 128+128)],by omega,by go_num,HO2,hi_ (by rw [List.append_assoc];exact e),HE2⟩
   case measure=> simp [intOf];omega
  ·have z1:((c1:Int) < 128):=by omega
   go_wp2_with (with_reducible refine f_ (d:=19) ?_)
   refine k_ rfl fun K hK=> b_ (E:=EB) (T:=5) (zero:=0) (bytes:=1) (v:= .slice p b1.length cap) (xs:=b1) (ys:= [UInt8.ofNat c1]) tiB Tryz.underlying158 Tryz.underlying158 rfl rfl rfl (HB.out.ext0 ((Ext.refl [] wr).alloc _)) (eR_ wr _ (by rw [UInt8.toNat_ofNat'];congr 1;omega)) (by simp;omega) (by simp;omega) ?_
   intro v2 w2 how hext hnear hnn
   refine hK _ _ ?_
   clear hK
   go_wp2
   go_ret
   have e:=HS.out
   rw [w_ (by omega)] at e
   rw [e] at how
   exact⟨v2,rfl,how,HE.out.1.trans' (((Ext.refl [] wr).alloc _).nil.trans hext) (fun x hx=> .inl hx) (fun x hx=> HE.out.2 x hx),fun x hx=> by
    rcases hnear x hx with h1 | h1
    ·exact HE.out.2 x h1
    ·have:=HE.out.1.size
     simp at h1
     omega⟩
theorem C_ {w a b:World} {v v':Value} (h:Ext [] w a) (hv: ∀g∈blkL v,w.heap.size<=g) (k:Ext (blkL v) a b) (n:Near a v v'):Ext [] w b/\ ∀g∈blkL v',w.heap.size<=g:=by
 refine⟨h.trans' k (by simp) (fun x hx=> .inr (hv x hx)),fun g hg=> ?_⟩
 rcases n g hg with h1 | h1
 ·exact hv g h1
 ·have:=h.size;omega
theorem encI_len (x:Itm) (hg:GoodI x):(encI x).length<=4012:=by
 cases x with
 | num n=>
  have h:n<=4611686018427387903:=hg
  have:=x_ 9 (2*n) (by omega)
  simp only [encI,List.length_cons]
  omega
 | txt s=>
  have h:s.length<=4000:=hg
  have:=x_ 9 s.length (by omega)
  simp only [encI,List.length_cons,List.length_append]
  omega
theorem hK_ (l:List Itm) (hg: ∀x∈l,GoodI x):(encL l).length<=4012*l.length:=by
 induction l with
 | nil=> simp [encL]
 | cons a l ih=>
  rw [q_,List.length_append,List.length_cons]
  have h1:=encI_len a (hg a (by simp))
  have h2:=ih (fun x hx=> hg x (List.mem_cons_of_mem _ hx))
  omega
theorem xor0 (m:Nat) (h:m < 18446744073709551616):bits BinOp.xor IntKind.u64 (m:Int) 0=(m:Int):=by
 simp [bits,IntKind.wrap,IntKind.bits,IntKind.signed]
 show (((BitVec.ofNat 64 m ^^^ 0#64:BitVec 64).toNat:Int) % 18446744073709551616)=m
 rw [BitVec.xor_zero,BitVec.toNat_ofNat]
 omega
def NewB (ys:List UInt8) (w:World) (e:Ending) (w':World):Prop:= ∃u,e= .returned (.tuple #[u,.int .i64 0])/\EB.Ow 5 w' u ys/\Ext [] w w'/\ ∀g∈blkL u,w.heap.size<=g
theorem hJ_ (v:Value) (l:List Itm) (w:World) (hv:EIt.Rd w v (l.map itmV)) (hg:gr_ l):Calls Tryz.prog 104 #[v] w (NewB (encL l) w):=by
 have hck:=pkcheck_c v l w hv hg
 obtain⟨p,cap,rfl,_⟩:=hv.len_eq
 obtain⟨HV,HG,HC⟩:=h_3 hv hg hck
 have hl:=hg.1
 rw [List.length_map] at HV HC ⊢
 obtain⟨n,hn⟩: ∃n,n=l.length:=⟨_,rfl⟩
 rw [<-hn] at HV hl HC ⊢
 have HN:=hi_ hn
 clear hv hg hn hck
 go_enter Tryz.func104,Tryz.ntmps104
 go_wp2_with fail
 refine HC.out.mono ?_
 rintro e W1 ⟨rfl,hE1⟩
 go_wp2_with fail
 go_loopw [5,7,15] (fun bv _ iv wr=> ∃i:Nat,i<=n/\iv= .int .i64 i/\Hid (EB.Ow 5 wr bv (encL (l.take i)))/\Hid (Ext [] w wr/\ ∀g∈blkL bv,w.heap.size<=g)) (fun _ _ iv _=> n - (intOf iv).toNat)
 case atStart=> exact⟨0,Nat.zero_le _,rfl,hi_ (.inl ⟨rfl,rfl⟩),hi_ ⟨hE1,by simp [blkL]⟩⟩
 case round=>
  obtain⟨i,hi,rfl,HB,HE⟩:=hrel
  obtain⟨pb,cb,hbv,_⟩:=HB.out.rd.len_eq
  subst hbv
  have hbl:(encL (l.take i)).length<=8024000:=by
   have h1:=hK_ (l.take i) (fun x hx=> HG.out.2 x (List.mem_of_mem_take hx))
   rw [List.length_take] at h1
   omega
  by_cases hlt:i < n
  ·have z1:(i:Int) < (n:Int):=by omega
   have hil:i < l.length:=by rw [<-HN.out];exact hlt
   obtain⟨g,o,rfl⟩: ∃g o,p=some ⟨g,o,none⟩:=by
    rcases HV.out with ⟨h,_⟩ | ⟨g,o,c,h,_⟩
    ·simp at h;omega
    ·simp only [Value.slice.injEq] at h;exact⟨g,o,h.1⟩
   have hc:=aK_ (HV.out.ext0 HE.out.1) i (by rw [List.length_map];exact hil)
   have hx:(l.map itmV).getD i I0=itmV l[i]:=by simp [List.getD,hil]
   rw [hx] at hc
   have hT:encL (l.take (i+1))=encL (l.take i)++encI l[i]:=by
    rw [List.take_succ_eq_append_getElem hil,bw_,q_]
    simp [encL]
   have hgx:=HG.out.2 l[i] (List.getElem_mem hil)
   obtain⟨x,hx⟩: ∃x,x=l[i]:=⟨_,rfl⟩
   rw [<-hx] at hc hT hgx
   obtain⟨B,hB⟩: ∃B,B=encL (l.take i):=⟨_,rfl⟩
   rw [<-hB] at HB HE hT hbl
   simp only [<-hB]
   have HT:=hi_ hT
   clear hx hT hB
   cases x with
   | num q=>
    have hq:q<=4611686018427387903:=hgx
    obtain⟨m1,m2,m3⟩:=hc
    simp only [itmV] at m1 m2 m3
    go_wp2_with (with_reducible refine f_ (d:=24) ?_)
    obtain⟨bx,hbx⟩: ∃b,b=wr.heap.size:=⟨_,rfl⟩
    have hEb:Ext [] wr (wr.alloc (.cells #[.int .i64 1,.int .i64 q,.string ⟨#[]⟩] 215)):=(Ext.refl [] wr).alloc _
    have hb0:=heap_alloc_new wr (.cells #[.int .i64 1,.int .i64 q,.string ⟨#[]⟩] 215)
    have hnb: ∀x∈blkL (.slice pb B.length cb),x < wr.heap.size:=HB.out.lt
    refine k_ rfl fun K hK=> b_ (E:=EB) (T:=5) (zero:=0) (bytes:=1) (v:= .slice pb B.length cb) (xs:=B) (ys:= [1]) tiB Tryz.underlying158 Tryz.underlying158 rfl rfl rfl (HB.out.ext0 (hEb.alloc _)) (eR_ _ _ rfl (by simp)) (by simp;omega) (by simp;omega) ?_
    intro v2 w2 how hext hnear hnn
    obtain⟨p2,cap2,hv2,_⟩:=how.rd.len_eq
    rw [List.length_append,List.length_singleton] at hv2
    subst hv2
    have HB2:=hi_ how
    have HE2:=hi_ (C_ (HE.out.1.trans (hEb.alloc _)) HE.out.2 hext hnear)
    have hb2:=hext.blk (((Ext.refl [] _).alloc _).blk hb0 (by simp)) (fun h=> by have:=hnb _ h;omega)
    clear how hext hnear hnn hb0 hEb
    refine hK _ _ ?_
    clear hK
    have k1:w2.cell? ⟨wr.heap.size,0,none⟩=some (.int .i64 1):=by rw [cell_of_row w2 _ 0 _ _ _ hb2];rfl
    have k2:w2.cell? ⟨wr.heap.size,1,none⟩=some (.int .i64 q):=by rw [cell_of_row w2 _ 1 _ _ _ hb2];rfl
    clear hb2 m1 m2 m3
    have hxr:bits BinOp.xor IntKind.u64 ((q:Int)*2) ((q:Int) / 9223372036854775808)=((2*q:Nat):Int):=by
     have:=xor0 (2*q) (by omega)
     rw [show (q:Int) / 9223372036854775808=0 by omega,show (q:Int)*2=((2*q:Nat):Int) by omega,this]
    go_wp2_with fail
    refine(fT_ _ (B++ [1]) (2*q) _ HB2.out (by simp;omega) (by omega)).mono ?_
    rintro e W3 ⟨v3,rfl,how,hext,hnear⟩
    obtain⟨p3,cap3,hv3,_⟩:=how.rd.len_eq
    have el:(B++ [1]++A_ (2*q))=B++encI (.num q):=by simp [encI]
    rw [el] at how hv3
    rw [<-HT.out] at how hv3
    subst hv3
    have HE3:=hi_ (C_ HE2.out.1 HE2.out.2 hext hnear)
    have HB3:=hi_ how
    clear how hext hnear el hxr k1 k2
    go_wp2_with fail
    go_roundw
    case rel=> exact⟨i+1,by omega,by go_num,HB3,HE3⟩
    case measure=> simp [intOf];omega
   | txt s=>
    have hs:s.length<=4000:=hgx
    obtain⟨m1,m2,m3⟩:=hc
    simp only [itmV] at m1 m2 m3
    go_wp2_with (with_reducible refine f_ (d:=24) ?_)
    have hEb:Ext [] wr (wr.alloc (.cells #[.int .i64 2,.int .i64 0,.string ⟨s.toArray⟩] 215)):=(Ext.refl [] wr).alloc _
    have hb0:=heap_alloc_new wr (.cells #[.int .i64 2,.int .i64 0,.string ⟨s.toArray⟩] 215)
    have hnb: ∀x∈blkL (.slice pb B.length cb),x < wr.heap.size:=HB.out.lt
    refine k_ rfl fun K hK=> b_ (E:=EB) (T:=5) (zero:=0) (bytes:=1) (v:= .slice pb B.length cb) (xs:=B) (ys:= [2]) tiB Tryz.underlying158 Tryz.underlying158 rfl rfl rfl (HB.out.ext0 (hEb.alloc _)) (eR_ _ _ rfl (by simp)) (by simp;omega) (by simp;omega) ?_
    intro v2 w2 how hext hnear hnn
    obtain⟨p2,cap2,hv2,_⟩:=how.rd.len_eq
    rw [List.length_append,List.length_singleton] at hv2
    subst hv2
    have HB2:=hi_ how
    have HE2:=hi_ (C_ (HE.out.1.trans (hEb.alloc _)) HE.out.2 hext hnear)
    have hb2:=hext.blk (((Ext.refl [] _).alloc _).blk hb0 (by simp)) (fun h=> by have:=hnb _ h;omega)
    have hl2: ∀x∈blkL (.slice p2 (B.length+1) cap2),x≠wr.heap.size:=fun x hx=> by
     rcases hnear x hx with h | h
     ·have:=hnb x h;omega
     ·simp at h;omega
    clear how hext hnear hnn hb0 hEb
    refine hK _ _ ?_
    clear hK
    have k1:w2.cell? ⟨wr.heap.size,0,none⟩=some (.int .i64 2):=by rw [cell_of_row w2 _ 0 _ _ _ hb2];rfl
    have k3:w2.cell? ⟨wr.heap.size,2,none⟩=some (.string ⟨s.toArray⟩):=by rw [cell_of_row w2 _ 2 _ _ _ hb2];rfl
    clear hb2 m1 m2 m3
    obtain⟨bx,hbx⟩: ∃b,b=wr.heap.size:=⟨_,rfl⟩
    rw [<-hbx] at k1 k3 hl2
    simp only [<-hbx]
    clear hbx hnb
    go_wp2_with fail
    have hD:=(Ext.refl [] w2).drew
    have hwr:IntKind.u64.wrap (s.length:Int)=(s.length:Int):=by simp [IntKind.wrap,IntKind.bits,IntKind.signed];omega
    refine e_ (fun W=> W.cell? ⟨bx,2,none⟩=some (.string ⟨s.toArray⟩)) (fun i=> i==2 || i==5 || i==7) (by kernel_rfl) (hD.cell k3 (by simp)) (fun hS=> ?_)
    refine PUq 0 ?_;(try go_frame)
    refine PUq 1 ?_;(try go_frame)
    refine PUq 6 ?_;(try go_frame)
    refine ta 2 ?_;(try go_frame)
    refine PUq 3 ?_;(try go_frame)
    refine PUq 4 ?_;(try go_frame)
    refine ta 7 ?_;(try go_frame)
    refine a_ (i:=5) (by kernel_rfl) rfl (fun K hK=> ?_)
    (try simp only [Act.put,zA,zB,zC,List.setIfInBounds_toArray,zD,zE]);refine iw rfl ?_
    go_simp
    refine(fT_ _ (B++ [2]) s.length _ (HB2.out.ext0 hD) (by simp;omega) (by omega)).mono ?_
    rintro e W3 ⟨v3,rfl,how,hext,hnear⟩
    obtain⟨p3,cap3,hv3,_⟩:=how.rd.len_eq
    subst hv3
    have s3:=hext.cell hS (fun h=> hl2 _ h rfl)
    have HE3:=hi_ (C_ (HE2.out.1.trans hD) HE2.out.2 hext hnear)
    have HB3:=hi_ how
    refine hK.out _ _ (fun _=> s3) (fun _=> ?_)
    clear hK how hext hnear hS s3 hwr
    refine a_ (i:=8) (by kernel_rfl) rfl (fun K hK=> ?_)
    (try simp only [Act.put,zA,zB,zC,List.setIfInBounds_toArray,zD,zE]);refine iw rfl ?_
    refine dT_ (s:= .tmp 44) (x:= .tmp 46) (T:=5) (v:= .slice p3 (B++ [2]++A_ s.length).length cap3) (xs:=B++ [2]++A_ s.length) (ys:=s) tiB Tryz.underlying158 Tryz.underlying9 rfl rfl rfl HB3.out (by have:=x_ 9 s.length (by omega);simp;omega) ?_
    intro v4 w4 how hext hnear _
    have el:(B++ [2]++A_ s.length++s)=B++encI (.txt s):=by simp [encI]
    rw [el,<-HT.out] at how
    obtain⟨p4,cap4,hv4,_⟩:=how.rd.len_eq
    subst hv4
    have HE4:=hi_ (C_ HE3.out.1 HE3.out.2 hext hnear)
    have HB4:=hi_ how
    refine nk hK ?_
    clear hK how hext hnear el
    refine PUq 9 ?_;(try go_frame)
    refine c_ (by kernel_rfl) ?_ _
    go_wp2_with fail
    go_roundw
    case rel=> exact⟨i+1,by omega,by go_num,HB4,HE4⟩
    case measure=> simp [intOf];omega
  ·obtain rfl:i=n:=by omega
   have z1: ¬((i:Int) < (i:Int)):=by omega
   have e:encL (l.take i)=encL l:=by rw [List.take_of_length_le (by rw [<-HN.out];exact Nat.le_refl _)]
   rw [e] at HB HE
   simp only [e]
   clear e
   go_wp2
   go_ret2
   exact⟨_,rfl,HB.out,HE.out⟩
theorem or64 (a b:Nat) (ha:a < 18446744073709551616) (hb:b < 18446744073709551616):bits BinOp.or IntKind.u64 (a:Int) (b:Int)=((a ||| b:Nat):Int):=by
 have hab:a ||| b < 2 ^ 64:=Nat.or_lt_two_pow (by simpa using ha) (by simpa using hb)
 simp [bits,IntKind.wrap,IntKind.bits,IntKind.signed]
 show (((BitVec.ofNat 64 a ||| BitVec.ofNat 64 b:BitVec 64).toNat:Int) % 18446744073709551616)=_
 rw [BitVec.toNat_or,BitVec.toNat_ofNat,BitVec.toNat_ofNat,Nat.mod_eq_of_lt (by simpa using ha),Nat.mod_eq_of_lt (by simpa using hb)]
 omega
theorem and127 (m:Nat) (h:m < 256):bits BinOp.and IntKind.u8 (m:Int) 127=((m % 128:Nat):Int):=by
 have: ∀m:Fin 256,bits BinOp.and IntKind.u8 ((m.1:Nat):Int) 127=((m.1 % 128:Nat):Int):=by decide+kernel
 exact this ⟨m,h⟩
theorem cnt_or (acc x i:Nat) (hi:i<=8) (hx:x < 256) (ha:acc < 2 ^ (7*i)):bits BinOp.or IntKind.u64 (acc:Int) (IntKind.u64.wrap (IntKind.u64.wrap (bits BinOp.and IntKind.u8 (x:Int) 127)*2 ^ (7*i)))=((acc+x % 128*2 ^ (7*i):Nat):Int):=by
 have h56:2 ^ (7*i)<=2 ^ 56:=Nat.pow_le_pow_right (by omega) (by omega)
 have hw: ∀m:Nat,m < 18446744073709551616->IntKind.u64.wrap (m:Int)=(m:Int):=fun m hm=> by simp [IntKind.wrap,IntKind.bits,IntKind.signed];omega
 have hm:x % 128*2 ^ (7*i) < 18446744073709551616:=by
  have h1:x % 128*2 ^ (7*i)<=127*2 ^ 56:=Nat.mul_le_mul (by omega) h56
  omega
 rw [and127 x hx,hw _ (by omega)]
 have e:((x % 128:Nat):Int)*2 ^ (7*i)=((x % 128*2 ^ (7*i):Nat):Int):=by simp
 have h2:=or_add acc (x % 128) i ha
 rw [Nat.shiftLeft_eq] at h2
 rw [e,hw _ hm,or64 _ _ (by omega) hm,h2]
def CntPost (c:Nat) (rest:List UInt8) (v:Value) (w:World) (e:Ending) (w':World):Prop:=
 ∃u,e= .returned (.tuple #[.int .u64 c,u,.bool true])/\EB.Rd w' u rest/\(∀g∈blkL u,g∈blkL v)/\Ext [] w w'/\ ∃g o c',u= .slice (some ⟨g,o,none⟩) rest.length c'
theorem gj_ (v:Value) (c:Nat) (rest:List UInt8) (w:World) (hv:EB.Rd w v (A_ c++rest)) (hc:c < 9223372036854775808) (hl:rest.length<=1000000):
  Calls Tryz.prog 173 #[v] w (CntPost c rest v w):=by
 have hlen:=x_ 8 c (by omega)
 obtain⟨HV,HL⟩:=h_2 hv hlen
 obtain⟨g,o,cap,rfl,hcap,hg⟩: ∃g o cap,v= .slice (some ⟨g,o,none⟩) (A_ c++rest).length cap/\(A_ c++rest).length<=cap/\g < w.heap.size:=by
  rcases hv with ⟨_,h⟩ | ⟨g,o,cap,h1,h2,h3,_⟩
  ·have h5:=congrArg List.length h;rw [List.length_append,List.length_nil] at h5;omega
  ·exact⟨g,o,cap,h1,h2,h3⟩
 obtain⟨n,hn⟩: ∃n,n=(A_ c++rest).length:=⟨_,rfl⟩
 rw [<-hn] at HV hcap ⊢
 have hn2:n=(A_ c).length+rest.length:=by rw [hn,List.length_append]
 obtain⟨HN,HN2⟩:=h_2 hn hn2
 have hnb:n<=2000000:=by omega
 clear hv hlen hn hn2
 go_enter Tryz.func173,Tryz.ntmps173
 go_wp2_with fail
 go_loopw [5,6,7,10] (fun av _ _ iv wr=> ∃(i acc rem:Nat) (pre:List UInt8),iv= .int .i64 i/\av= .int .u64 acc/\i<=8/\pre.length=i/\Hid (A_ c=pre++A_ rem)/\Hid (acc+rem*2 ^ (7*i)=c)/\Hid (acc < 2 ^ (7*i))/\(0 < i->0 < rem)/\wr=w) (fun _ _ _ iv _=> 100 - (intOf iv).toNat)
 case atStart=> exact⟨0,0,c,[],rfl,rfl,by omega,rfl,hi_ rfl,hi_ (by simp),hi_ (by simp),by omega,rfl⟩
 case round=>
  obtain⟨i,acc,rem,pre,rfl,rfl,hi,hpre,HS,HA,HAl,hpos,rfl⟩:=hrel
  have hlr:1<=(A_ rem).length/\(A_ c).length=i+(A_ rem).length:=by
   have h1:=congrArg List.length HS.out
   rw [List.length_append,hpre] at h1
   refine⟨?_,h1⟩
   by_cases h:rem < 128
   ·rw [w_ h];simp
   ·rw [ar_ (by omega)];simp
  have z1:(i:Int) < (n:Int):=by have:=HN2.out;omega
  have hrem:rem<=c:=by
   have h1:=HA.out
   have h2:rem*1<=rem*2 ^ (7*i):=Nat.mul_le_mul_left _ (Nat.one_le_two_pow)
   omega
  by_cases h:rem < 128
  ·have hx:wr.cell? ⟨g,o+i,none⟩=some (.int .u8 rem):=by
    have h1:=bA_ HV.out i (by rw [<-HN.out];omega)
    have e:(A_ c++rest).getD i 0=UInt8.ofNat rem:=by
     rw [HS.out,w_ h,List.append_assoc]
     simp [List.getD,hpre]
    rw [h1,e,UInt8.toNat_ofNat',Nat.mod_eq_of_lt (by omega)]
   have z2:((i:Int)==10)=false:=beq_eq_false_iff_ne.2 (by omega)
   have z3:((i:Int)==9)=false:=beq_eq_false_iff_ne.2 (by omega)
   have z4:((rem:Int) < 128):=by omega
   have z6:(i:Int)+1<=(n:Int):=by omega
   have z7:(i:Int)+1<=(cap:Int):=by omega
   have hor:=cnt_or acc rem i (by omega) (by omega) HAl.out
   rw [Nat.mod_eq_of_lt h,HA.out] at hor
   have fin: ∀nq:Nat,CntPost c rest (.slice (some ⟨g,o,none⟩) n cap) wr (.returned (.tuple #[.int .u64 c,.slice (if cap=i+1 then some ⟨g,o,none⟩ else some ⟨g,o+(i+1),none⟩) (n - (i+1)) (cap - (i+1)),.bool true])) (wr.drewN nq):=by
    intro nq
    have hE:Ext [] wr (wr.drewN nq):=(Ext.refl [] wr).drewN nq
    have h1:=(HV.out.ext0 hE).dropS2 (k:=i+1)
    have e:(A_ c++rest).drop (i+1)=rest:=by
     rw [HS.out,w_ h,List.append_assoc,<-hpre,List.drop_length_add_append]
     rfl
    rw [e] at h1
    have en:n - (i+1)=rest.length:=by
     have h1:=HN2.out
     rw [HS.out,w_ h,List.length_append,hpre] at h1
     simp at h1
     omega
    refine⟨_,rfl, ?_, ?_,hE, ?_⟩
    ·simpa [EB] using h1
    ·split <;> simp [blkL]
    ·rw [en]
     split
     ·exact⟨_,_,_,rfl⟩
     ·exact⟨_,_,_,rfl⟩
   have FIN:=hi_ fin
   clear fin
   by_cases hi0:i=0
   ·have z8: ¬((0:Int) < (i:Int)):=by omega
    clear hi0
    go_wp2_with fail
    go_quiet (fail)
    go_wp2_with fail
    all_goals
     go_ret3
     have h1:=FIN.out nq
     simp_all
   ·have z5:((rem:Int)==0)=false:=beq_eq_false_iff_ne.2 (by have:=hpos (by omega);omega)
    have z8:(0:Int) < (i:Int):=by omega
    clear hi0
    go_wp2_with fail
    go_quiet (fail)
    go_wp2_with fail
    all_goals
     go_ret3
     have h1:=FIN.out nq
     simp_all
  ·have hx:wr.cell? ⟨g,o+i,none⟩=some (.int .u8 ((rem % 128+128:Nat):Int)):=by
    have h1:=bA_ HV.out i (by rw [<-HN.out];omega)
    have e:(A_ c++rest).getD i 0=UInt8.ofNat (rem % 128+128):=by
     rw [HS.out,ar_ (by omega),List.append_assoc]
     simp [List.getD,hpre]
    rw [h1,e,UInt8.toNat_ofNat',Nat.mod_eq_of_lt (by omega)]
   have hi7:i+1<=8:=by
    have h1:=HL.out
    have h2:=hlr.2
    rw [ar_ (show 128<=rem by omega),List.length_cons] at h2
    have h3:1<=(A_ (rem / 128)).length:=by
     by_cases h:rem / 128 < 128
     ·rw [w_ h];simp
     ·rw [ar_ (by omega)];simp
    omega
   obtain⟨x,hxx⟩: ∃x,x=rem % 128+128:=⟨_,rfl⟩
   rw [<-hxx] at hx
   have z2:((i:Int)==10)=false:=beq_eq_false_iff_ne.2 (by omega)
   have z3:((i:Int)==9)=false:=beq_eq_false_iff_ne.2 (by omega)
   have z4: ¬((x:Int) < 128):=by omega
   have z5:((x:Int)==0)=false:=beq_eq_false_iff_ne.2 (by omega)
   have hor:=cnt_or acc x i (by omega) (by omega) HAl.out
   rw [show x % 128=rem % 128 by omega] at hor
   have hP:2 ^ (7*(i+1))=128*2 ^ (7*i):=by rw [Nat.mul_add,Nat.pow_add,Nat.mul_comm]
   have hA2:acc+rem % 128*2 ^ (7*i)+rem / 128*2 ^ (7*(i+1))=c:=by
    rw [hP,<-HA.out,Nat.add_assoc,<-Nat.mul_assoc,<-Nat.add_mul]
    congr 2
    omega
   have hL2:acc+rem % 128*2 ^ (7*i) < 2 ^ (7*(i+1)):=by
    have h1:=HAl.out
    have h2:rem % 128*2 ^ (7*i)<=127*2 ^ (7*i):=Nat.mul_le_mul_right _ (by omega)
    rw [hP]
    omega
   have hS2:A_ c=(pre++ [UInt8.ofNat (rem % 128+128)])++A_ (rem / 128):=by rw [HS.out,ar_ (by omega),List.append_assoc];rfl
   have hR2:0 < rem / 128:=by omega
   obtain⟨HA2,HL2,HS2,HR2,HI7⟩:=h_5 hA2 hL2 hS2 hR2 hi7
   obtain⟨A2,hA2e⟩: ∃a,a=acc+rem % 128*2 ^ (7*i):=⟨_,rfl⟩
   rw [<-hA2e] at HA2 HL2 hor
   clear hA2 hL2 hS2 hR2 hP hi7 hxx hA2e
   by_cases hi0:i=0
   ·have z8: ¬((0:Int) < (i:Int)):=by omega
    clear hi0
    go_wp2_with fail
    go_roundw
    case rel=> exact⟨i+1,A2,rem / 128,pre++ [UInt8.ofNat (rem % 128+128)],by go_num,rfl,HI7.out,by simp [hpre],HS2,HA2,HL2,fun _=> HR2.out,trivial⟩
    case measure=> simp [intOf];omega
   ·have z8:(0:Int) < (i:Int):=by omega
    clear hi0
    go_wp2_with fail
    go_roundw
    case rel=> exact⟨i+1,A2,rem / 128,pre++ [UInt8.ofNat (rem % 128+128)],by go_num,rfl,HI7.out,by simp [hpre],HS2,HA2,HL2,fun _=> HR2.out,trivial⟩
    case measure=> simp [intOf];omega
def r_ (w:World) (y:Nat):Option TypeId:=match w.heap[y]? with
 | some (.cells _ T _)=> some T
 | _=> none
theorem d_ {y:Nat} {c:Array Value} {x:Nat×Nat} (h:w.heap[y]? =some (.cells c T x)):r_ w y=some T:=by simp [r_,h]
def ExtT (bs:List Nat) (Ts:List TypeId) (w w':World):Prop:= ∃S,Ext S w w'/\ ∀y∈S,y∈bs\/ ∃T∈Ts,r_ w y=some T/\ ∃b∈bs,b<=y
theorem ExtT.of (h:Ext S w w') (hs: ∀y∈S,y∈bs\/(∃T∈Ts,r_ w y=some T/\ ∃b∈bs,b<=y)\/w.heap.size<=y):ExtT bs Ts w w':=by
 refine⟨S.filter (fun y=> decide (y < w.heap.size)),h.mono (fun x hx=> ?_),fun y hy=> ?_⟩
 ·by_cases hl:x < w.heap.size
  ·exact .inl (by simp [hx,hl])
  ·exact .inr (by omega)
 ·simp at hy
  rcases hs y hy.1 with h | h | h
  ·exact .inl h
  ·exact .inr h
  ·omega
theorem ExtT.of0 (h:Ext [] w w'):ExtT bs Ts w w':=⟨[],h,by simp⟩
theorem ExtT.refl (bs:List Nat) (Ts:List TypeId) (w:World):ExtT bs Ts w w:= .of0 (Ext.refl _ _)
theorem ExtT.size (h:ExtT bs Ts w w'):w.heap.size<=w'.heap.size:=by obtain⟨S,h,_⟩:=h;exact h.size
theorem ExtT.trans' {bs bs' bs'':List Nat} {Ts Ts' Ts'':List TypeId} {a b c:World} (h:ExtT bs Ts a b) (k:ExtT bs' Ts' b c) (h1: ∀x∈bs,x∈bs''\/a.heap.size<=x) (h2: ∀x∈bs',x∈bs''\/a.heap.size<=x) (t1: ∀T∈Ts,T∈Ts'') (t2: ∀T∈Ts',T∈Ts''):ExtT bs'' Ts'' a c:=by
 obtain⟨S,hS,hs⟩:=h
 obtain⟨S',hS',hs'⟩:=k
 refine .of (S:=S++S') (hS.trans' hS' (fun x hx=> .inl (by simp [hx])) (fun x hx=> .inl (by simp [hx]))) (fun y hy=> ?_)
 have up1:(∃b∈bs,b<=y)->(∃b∈bs'',b<=y)\/a.heap.size<=y:=fun⟨b,hb,hby⟩=> by
  rcases h1 b hb with h | h
  ·exact .inl ⟨b,h,hby⟩
  ·exact .inr (by omega)
 have up2:(∃b∈bs',b<=y)->(∃b∈bs'',b<=y)\/a.heap.size<=y:=fun⟨b,hb,hby⟩=> by
  rcases h2 b hb with h | h
  ·exact .inl ⟨b,h,hby⟩
  ·exact .inr (by omega)
 by_cases hin:y∈S
 ·rcases hs y hin with h | ⟨T,h,h',h''⟩
  ·rcases h1 y h with h | h
   ·exact .inl h
   ·exact .inr (.inr h)
  ·rcases up1 h'' with h3 | h3
   ·exact .inr (.inl ⟨T,t1 T h,h',h3⟩)
   ·exact .inr (.inr h3)
 ·have hy':y∈S':=by simpa [hin] using hy
  rcases hs' y hy' with h | ⟨T,h,h',h''⟩
  ·rcases h2 y h with h | h
   ·exact .inl h
   ·exact .inr (.inr h)
  ·by_cases hl:y < a.heap.size
   ·rcases up2 h'' with h3 | h3
    ·refine .inr (.inl ⟨T,t2 T h, ?_,h3⟩)
     rw [r_] at h' ⊢
     rwa [hS.block y hl hin] at h'
    ·omega
   ·exact .inr (.inr (by omega))
theorem ExtT.trans {a b c:World} (h:ExtT bs Ts a b) (k:ExtT bs Ts b c):ExtT bs Ts a c:=h.trans' k (fun _ h=> .inl h) (fun _ h=> .inl h) (fun _ h=> h) (fun _ h=> h)
theorem ExtT.mono {bs bs':List Nat} {Ts Ts':List TypeId} {a b:World} (h:ExtT bs Ts a b) (hs: ∀x∈bs,x∈bs'\/a.heap.size<=x) (ht: ∀T∈Ts,T∈Ts'):ExtT bs' Ts' a b:=
 h.trans' (ExtT.refl [] [] b) hs (by simp) ht (by simp)
theorem ExtT.blk (h:ExtT bs Ts w w') {c:Array Value} {x:Nat×Nat} (hg:w.heap[g]? =some (.cells c T x)) (hn:g∉bs) (hT:T∉Ts):w'.heap[g]? =some (.cells c T x):=by
 obtain⟨S,hS,hs⟩:=h
 refine hS.blk hg (fun hy=> ?_)
 rcases hs g hy with h | ⟨T',h,h',_⟩
 ·exact hn h
 ·rw [d_ hg] at h'
  cases h'
  exact hT h
theorem Enc.Ow.extT {α:Type} {E:Enc α} {v:Value} {xs:List α} (h:E.Ow T w v xs) (he:ExtT bs Ts w w') (hn: ∀g∈blkL v,g∉bs) (hT:T∉Ts):E.Ow T w' v xs:=by
 obtain⟨S,hS,hs⟩:=he
 refine h.ext hS (fun y hy hy2=> ?_)
 obtain⟨c,hc⟩:=h.tag y hy
 rcases hs y hy2 with h | ⟨T',h,h',_⟩
 ·exact hn y hy h
 ·rw [d_ hc] at h'
  cases h'
  exact hT h
@[simp] theorem EPc_k:EPc.k=6:=rfl
theorem szPc:(Tryz.prog.info? 184).map (·.size)=some EPc.k:=by kernel_rfl
theorem ij_ {g q:Nat} {l xs:List Pcm} {fr:Nat×Nat} (hg:w.heap[g]? =some (.cells (EPc.flat l).toArray T fr)) (hx:win l q xs.length=xs) (i:Nat):
  ∀j u,(EPc.flat (xs.drop i))[j]? =some u->w.cell? ⟨g,q*6+i*6+j,none⟩=some u:=by
 intro j u hj
 rw [EPc.flat_drop,<-hx,win,EPc.flat_take,EPc.flat_drop,List.getElem?_drop,List.getElem?_take] at hj
 split at hj
 ·rw [List.getElem?_drop] at hj
  rw [cell_of_row w g _ _ _ _ hg]
  simpa [Nat.add_assoc] using hj
 ·cases hj
theorem eK_ (g q cap:Nat) (l:List Pcm) (u:Value) (xs ys:List Pcm) (i j:Nat) (w:World) (hg:w.heap[g]? =some (.cells (EPc.flat l).toArray 184 (0,0))) (hcap:xs.length<=cap) (hq:q+cap<=l.length) (hxs:win l q xs.length=xs)
  (hu:EPc.Ow 184 w u ys) (hne: ∀b∈blkL u,b≠g) (hij:i < j) (hj:j<=xs.length) (hl:xs.length+ys.length<=1000000) (hjn:j=xs.length):
  Calls Tryz.prog 134 #[.slice (some ⟨g,q*6,none⟩) xs.length cap,.int .i64 i,.int .i64 j,u] w (z_ EPc 184 (.slice (some ⟨g,q*6,none⟩) xs.length cap) (xs.take i++ys++xs.drop j) w):=by
 have hv:EPc.Ow 184 w (.slice (some ⟨g,q*6,none⟩) xs.length cap) xs:= .inr ⟨g,q,cap,l,rfl,hg,hcap,hq,hxs⟩
 obtain⟨HV,HU,HG,HX⟩:=h_4 hv hu hg hxs
 obtain⟨p,cu,rfl,hcu⟩:=hu.rd.len_eq
 have hvi:EPc.Ow 184 w (.slice (some ⟨g,q*6,none⟩) i cap) (xs.take i):=by
  have e:(xs.take i).length=i:=by simp;omega
  refine .inr ⟨g,q,cap,l,by rw [e];rfl,HG.out,by omega,hq, ?_⟩
  rw [e,<-HX.out,win,List.take_take,show min i xs.length=i from by omega]
 have HVI:=hi_ hvi
 clear hu hv hg hxs hvi
 have e1:(xs.take i).length=i:=by simp;omega
 subst hjn
 have hci: ¬cap=i:=by omega
 by_cases hsh:i+ys.length < xs.length
 ·go_enter Tryz.func134,Tryz.ntmps134
  go_wp2_with (with_reducible refine f_ (d:=34) ?_)
  refine k_ rfl fun K hK=> H_ (E:=EPc) (T:=184) (zero:=(R0,[])) (bytes:=64) (g:=g) (q:=q) (n:=i) (l:=l) (ys:=ys) tiEPc Tryz.underlying147 Tryz.underlying147 rfl rfl rfl HG.out HU.out.rd (by omega) hq ?_
  intro w2 hb2 hext2
  have HB2:=hi_ hb2
  clear hb2
  refine hK _ _ ?_
  clear hK
  have hn3: ¬cap=i+ys.length:=by omega
  go_wp2_with (with_reducible refine P_ ?_)
  refine k_ rfl fun K hK=> Z_ (E:=EPc) (T:=184) (zero:=(R0,[])) (bytes:=64) (g:=g) (q:=q+(i+ys.length)) (l:=splice l (q+i) ys) tiEPc Tryz.underlying147 rfl rfl HB2.out (fun _=> by simp [Nat.add_mul]) (by rw [length_splice _ _ _ (by omega)];omega) ?_
  intro w3 hb3 hext3
  refine hK _ _ ?_
  clear hK
  have fin:z_ EPc 184 (.slice (some ⟨g,q*6,none⟩) xs.length cap) (xs.take i++ys++xs.drop xs.length) w (.returned (.slice (some ⟨g,q*6,none⟩) (i+ys.length) cap)) w3:=by
   have e3:(xs.take i++ys++xs.drop xs.length).length=i+ys.length:=by simp;omega
   have hL1:(splice l (q+i) ys).length=l.length:=length_splice _ _ _ (by omega)
   refine⟨_,rfl,.inr ⟨g,q,cap,_,by rw [e3];rfl,hb3,by rw [e3];omega,by rw [length_splice _ _ _ (by rw [hL1];simp;omega),hL1];exact hq, ?_⟩,hext2.trans hext3,fun x hx=> .inl hx⟩
   rw [e3]
   show win _ _ _=_
   apply List.ext_getElem?
   intro k
   have hx:=congrArg (fun(z:List Pcm)=> z[k]?) HX.out
   simp only [v_] at hx
   rw [v_,m_ _ _ _ _ (by rw [hL1];omega),m_ _ _ _ _ (by omega)]
   simp only [List.drop_length,List.append_nil,List.getElem?_append,e1,List.getElem?_take]
   (repeat' split) <;> first | rfl | (exfalso;omega) | (rw [<-hx,if_pos (by omega)]) | (congr 1 <;> omega) | (rw [List.getElem?_eq_none (by omega)])
  clear hext2 hext3 hb3
  go_wp2
  go_ret
  exact fin
 ·go_enter Tryz.func134,Tryz.ntmps134
  go_wp2_with (with_reducible refine f_ (d:=34) ?_)
  refine k_ rfl fun K hK=> b_ (E:=EPc) (T:=184) (zero:=(R0,[])) (bytes:=64) (v:= .slice (some ⟨g,q*6,none⟩) i cap) (xs:=xs.take i) (ys:=ys) tiEPc Tryz.underlying147 Tryz.underlying147 rfl rfl rfl HVI.out HU.out.rd (by rw [e1];omega) (by rw [e1];omega) ?_
  intro v2 w2 how hext hnear hnn
  obtain⟨p2,c2,hv2,hc2⟩:=how.rd.len_eq
  have elen:(xs.take i++ys).length=i+ys.length:=by simp;omega
  rw [elen] at hv2 hc2
  subst hv2
  have fin:z_ EPc 184 (.slice (some ⟨g,q*6,none⟩) xs.length cap) (xs.take i++ys++xs.drop xs.length) w (.returned (.slice p2 (i+ys.length) c2)) w2:=
   ⟨_,rfl,by simpa using how,hext,hnear⟩
  clear how hnn hext hnear
  refine hK _ _ ?_
  clear hK
  go_wp2
  go_ret
  exact fin
theorem eJ_ (g q cap:Nat) (l:List Pcm) (u:Value) (xs ys:List Pcm) (i j:Nat) (w:World) (hg:w.heap[g]? =some (.cells (EPc.flat l).toArray 184 (0,0))) (hcap:xs.length<=cap) (hq:q+cap<=l.length) (hxs:win l q xs.length=xs)
  (hu:EPc.Ow 184 w u ys) (hne: ∀b∈blkL u,b≠g) (hij:i < j) (hj:j<=xs.length) (hl:xs.length+ys.length<=1000000) (hjn:j≠xs.length) (hroom: ¬cap < i+ys.length+(xs.length - j)) (hfit:i+ys.length<=j):
  Calls Tryz.prog 134 #[.slice (some ⟨g,q*6,none⟩) xs.length cap,.int .i64 i,.int .i64 j,u] w (z_ EPc 184 (.slice (some ⟨g,q*6,none⟩) xs.length cap) (xs.take i++ys++xs.drop j) w):=by
 have hv:EPc.Ow 184 w (.slice (some ⟨g,q*6,none⟩) xs.length cap) xs:= .inr ⟨g,q,cap,l,rfl,hg,hcap,hq,hxs⟩
 obtain⟨HV,HU,HG,HX⟩:=h_4 hv hu hg hxs
 obtain⟨p,cu,rfl,hcu⟩:=hu.rd.len_eq
 have hvi:EPc.Ow 184 w (.slice (some ⟨g,q*6,none⟩) i cap) (xs.take i):=by
  have e:(xs.take i).length=i:=by simp;omega
  refine .inr ⟨g,q,cap,l,by rw [e];rfl,HG.out,by omega,hq, ?_⟩
  rw [e,<-HX.out,win,List.take_take,show min i xs.length=i from by omega]
 have HVI:=hi_ hvi
 clear hu hv hg hxs hvi
 have e1:(xs.take i).length=i:=by simp;omega
 have hjn':j < xs.length:=by omega
 have ew1:IntKind.i64.wrap ((i:Int)+(ys.length:Int))=(i:Int)+(ys.length:Int):=IntWalk.i64_in _ (by omega)
 have ew2:IntKind.i64.wrap ((i:Int)+(ys.length:Int)+((xs.length - j:Nat):Int))=(i:Int)+(ys.length:Int)+((xs.length - j:Nat):Int):=IntWalk.i64_in _ (by omega)
 have hn1: ¬cap=j:=by omega
 have hn2: ¬cap=i:=by omega
 have ekk:(xs.drop j).length=xs.length - j:=by simp
 have e3:(xs.take i++ys++xs.drop j).length=i+ys.length+(xs.length - j):=by simp;omega
 have hL1:(splice l (q+i) ys).length=l.length:=length_splice _ _ _ (by omega)
 have hn3: ¬cap=i+ys.length:=by omega
 have hn4:(0:Int)<=(i:Int)+(ys.length:Int):=by omega
 have hn5:((i:Int)+(ys.length:Int)).toNat=i+ys.length:=by omega
 have hn6:(i:Int)+(ys.length:Int)<=(i:Int)+(ys.length:Int)+((xs.length - j:Nat):Int):=by omega
 have hjz:(j:Int)<=xs.length:=by omega
 have hnj: ¬xs.length - j=0:=by omega
 have hu:=HU.out
 have hct:cap=i+ys.length+(xs.length - j)\/ ¬cap=i+ys.length+(xs.length - j):=by omega
 rcases hct with rfl | hct
 all_goals
  go_enter Tryz.func134,Tryz.ntmps134
  go_wp2_with (with_reducible refine f_ (d:=97) ?_)
  go_quiet (fail)
  go_wp2_with (with_reducible refine f_ (d:=97) ?_)
  generalize hW:w.drewN nq=W
  have hE0:Ext [] w W:=hW ▸ (Ext.refl _ _).drewN _
  clear hW hu
  refine k_ rfl fun K hK=> N_ (E:=EPc) (T:=184) (g:=g) (q:=q+i) (l:=l) (ys:=ys) Tryz.underlying147 szPc rfl rfl rfl (hE0.blk HG.out (by simp)) (by omega) ?_ (by omega) ?_
  ·intro hpos
   rcases(HU.out.ext0 hE0).rd with ⟨_,h⟩ | ⟨g',o',c',h,_,_,h3⟩
   ·subst h;simp at hpos
   ·cases h;exact⟨by simp [Nat.add_mul],g',o',rfl,h3⟩
  intro w3 hb3 hext3
  have hE3:Ext [g] w w3:=hE0.nil.trans hext3
  have HB3:=hi_ hb3
  have hsrc2: ∀k u,(EPc.flat (xs.drop j))[k]? =some u->w3.cell? ⟨g,q*6+j*6+k,none⟩=some u:=by
   have hw:win (splice l (q+i) ys) q (splice xs i ys).length=splice xs i ys:=by
    rw [length_splice _ _ _ (by omega),I_ _ _ _ _ _ (by omega) (by omega),HX.out]
   have ht:(splice xs i ys).drop j=xs.drop j:=by
    apply List.ext_getElem?
    intro k
    rw [List.getElem?_drop,List.getElem?_drop,m_ _ _ _ _ (by omega),if_neg (by omega),if_neg (by omega)]
   have h:=ij_ hb3 hw j
   rwa [ht] at h
  clear hb3 hext3
  refine hK _ _ ?_
  clear hK
  go_wp2_with fail
  go_region_law ((try simp only [Act.put,zA,zB,zC,List.setIfInBounds_toArray,zD,zE]);refine iw rfl ?_;refine(N_ (s:= .tmp 103) (x:= .tmp 106) (dT:=147) (sT:=147) (E:=EPc) (T:=184) (g:=g) (q:=q+(i+ys.length)) (l:=splice l (q+i) ys) (ys:=xs.drop j) Tryz.underlying147 szPc (by rfl) (by rfl) (by rfl) (by exact HB3.out) (by simp <;> omega) (by exact fun _=> ⟨by simp [Nat.add_mul],g,q*6+j*6,rfl,hsrc2⟩) (by rw [hL1];simp;omega) ?_);intro w4 hb4 hext4)
  have hE4:Ext [g] w w4:=hE3.drew.trans hext4
  have HB4:=hi_ hb4
  clear hb4 hext4
  have hL2:(splice (splice l (q+i) ys) (q+(i+ys.length)) (xs.drop j)).length=l.length:=by rw [length_splice _ _ _ (by rw [hL1];simp;omega),hL1]
  go_wp2_with (with_reducible refine P_ ?_)
  refine k_ rfl fun K hK=> Z_ (E:=EPc) (T:=184) (zero:=(R0,[])) (bytes:=64) (g:=g) (q:=q+(i+ys.length+(xs.length - j))) tiEPc Tryz.underlying147 rfl rfl HB4.out ?_ (by rw [hL2];omega) ?_
  ·intro hpos
   first | (exfalso;omega) | (simp [Nat.add_mul])
  intro w5 hb5 hext5
  have hE:Ext [g] w w5:=hE4.trans hext5
  have HB5:=hi_ hb5
  clear hb5 hext5
  refine hK _ _ ?_
  clear hK
  go_wp2
  go_ret
  refine⟨_,rfl,.inr ⟨g,q,_,_,by rw [e3];rfl,HB5.out,by rw [e3];omega,by rw [length_splice _ _ _ (by rw [hL2];simp;omega),hL2];exact hq, ?_⟩,hE,fun x hx=> .inl hx⟩
  rw [e3]
  show win _ _ _=_
  apply List.ext_getElem?
  intro k
  have hx:=congrArg (fun(z:List Pcm)=> z[k]?) HX.out
  simp only [v_] at hx
  rw [v_,m_ _ _ _ _ (by rw [hL2];omega),m_ _ _ _ _ (by rw [hL1];omega),m_ _ _ _ _ (by omega)]
  simp only [List.getElem?_append,e1,List.getElem?_take,ekk,List.length_append,List.getElem?_drop]
  (repeat' split) <;> first | rfl | (exfalso;omega) | (rw [<-hx,if_pos (by omega)]) | (congr 1 <;> omega) | (rw [List.getElem?_eq_none (by omega)])
end Go.Proofs.YtkpgjkekmdecbaaGreat
