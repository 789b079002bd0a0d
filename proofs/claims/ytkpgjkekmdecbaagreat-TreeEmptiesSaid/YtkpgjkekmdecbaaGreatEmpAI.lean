/- Lemmas for the claim. No conditions beside those that each states. -/
import Derived.Test.YtkpgjkekmdecbaaGreatEmpAD
import Derived.BigQuiet
import Derived.Test.YtkpgjkekmdecbaaGreatEmpAA
import Derived.Test.YtkpgjkekmdecbaaGreatEmpAC
import Derived.WalkLawsBesides
import Derived.Test.YtkpgjkekmdecbaaGreatEmpAB
set_option maxRecDepth 100000
set_option maxHeartbeats 8000000
set_option linter.all false

namespace Go.Proofs.YtkpgjkekmdecbaaGreat
open Go.RowKit
variable {w w':World} {T:TypeId} {n g:Nat} {S bs:List Nat} {Ts:List TypeId} {l:List Pr}
theorem fc_ {v:Value} (W0:World) (x:UInt8) (h:v= .int .u8 x.toNat) (hn:n=W0.heap.size:=by rfl):EB.Rd (W0.alloc (.cells #[v] T)) (.slice (some ⟨n,0,none⟩) 1 1) [x]:=by
 subst h hn
 refine .inr ⟨W0.heap.size,0,1,rfl,Nat.le_refl _,by simp,fun j u hj=> ?_⟩
 rw [cell_of_row _ W0.heap.size _ _ _ _ (heap_alloc_new _ _)]
 match j,hj with
 | 0,hj=> exact hj
 | j+1,hj=> simp [EB,Enc.flat] at hj
theorem or128 (m:Nat) (h:m < 256):bits BinOp.or IntKind.u8 (m:Int) 128=((m % 128+128:Nat):Int):=by
 have: ∀m:Fin 256,bits BinOp.or IntKind.u8 ((m.1:Nat):Int) 128=((m.1 % 128+128:Nat):Int):=by decide+kernel
 exact this ⟨m,h⟩
def AppB (v:Value) (ys:List UInt8) (w:World) (e:Ending) (w':World):Prop:= ∃v',e= .returned v'/\EB.Ow 5 w' v' ys/\Ext (blkL v) w w'/\Near w v v'
theorem gd_ (v:Value) (bs:List UInt8) (c:Nat) (w:World) (hv:EB.Ow 5 w v bs) (hl:bs.length<=1000000000) (hc:c < 18446744073709551616):
  Calls Tryz.prog 141 #[v,.int .u64 c] w (AppB v (bs++D_ c) w):=by
 have HV:=hi_ hv
 clear hv
 have hlen:=y_ 9 c (by omega)
 have HL:=hi_ hlen
 clear hlen
 go_enter Tryz.func141,Tryz.ntmps141
 go_wp2_with fail
 go_loopw [0,1] (fun bv cv wr=> ∃(c1:Nat) (b1:List UInt8),c1 < 18446744073709551616/\cv= .int .u64 c1/\Hid (EB.Ow 5 wr bv b1)/\Hid (b1++D_ c1=bs++D_ c)/\Hid (Ext (blkL v) w wr/\Near w v bv)) (fun _ cv _=> (intOf cv).toNat)
 case atStart=> exact⟨c,bs,hc,rfl,HV,hi_ rfl,hi_ ⟨Ext.refl _ _,fun g hg=> .inl hg⟩⟩
 case round=>
  obtain⟨c1,b1,hc1,rfl,HB,HS,HE⟩:=hrel
  have hb1:b1.length<=1000000010:=by
   have h1:=congrArg List.length HS.out
   have h2:=HL.out
   simp only [List.length_append] at h1
   omega
  obtain⟨p,cap,hbv,_⟩:=HB.out.rd.len_eq
  subst hbv
  by_cases h:128<=c1
  ·have z1: ¬((c1:Int) < 128):=by omega
   have hb:bits BinOp.or IntKind.u8 ((c1:Int) % 256) 128=((c1 % 128+128:Nat):Int):=by
    have h1:=or128 (c1 % 256) (by omega)
    rw [show ((c1:Int) % 256)=((c1 % 256:Nat):Int) by omega,h1]
    omega
   go_wp2_with (with_reducible refine e_ (d:=14) ?_)
   refine k_ rfl fun K hK=> b_ (E:=EB) (T:=5) (zero:=0) (bytes:=1) (v:= .slice p b1.length cap) (xs:=b1) (ys:= [UInt8.ofNat (c1 % 128+128)]) tiB Tryz.underlying158 Tryz.underlying158 rfl rfl rfl (HB.out.ext0 ((Ext.refl [] wr).alloc _)) (fc_ wr _ (by rw [UInt8.toNat_ofNat'];congr 1;omega)) (by simp;omega) (by simp;omega) ?_
   intro v2 w2 how hext hnear hnn
   obtain⟨p2,cap2,hv2,_⟩:=how.rd.len_eq
   rw [List.length_append,List.length_singleton] at hv2
   subst hv2
   have HO2:=hi_ how
   have HE2:Hid (Ext (blkL v) w w2/\Near w v (.slice p2 (b1.length+1) cap2)):=hi_ ⟨HE.out.1.trans' (((Ext.refl [] wr).alloc _).nil.trans hext) (fun x hx=> .inl hx) (fun x hx=> HE.out.2 x hx),fun x hx=> by
    rcases hnear x hx with h1 | h1
    ·exact HE.out.2 x h1
    ·have:=HE.out.1.size
     simp at h1
     omega⟩
   clear how hext hnear hnn hb
   refine hK _ _ ?_
   clear hK
   go_wp2_with fail
   go_roundw
   case rel=>
    have e:=HS.out
    rw [ar_ h] at e
    exact⟨c1 / 128,b1++ [UInt8.ofNat (c1 % 128+128)],by omega,by go_num,HO2,hi_ (by rw [List.append_assoc];exact e),HE2⟩
   case measure=> simp [intOf];omega
  ·have z1:((c1:Int) < 128):=by omega
   go_wp2_with (with_reducible refine e_ (d:=19) ?_)
   refine k_ rfl fun K hK=> b_ (E:=EB) (T:=5) (zero:=0) (bytes:=1) (v:= .slice p b1.length cap) (xs:=b1) (ys:= [UInt8.ofNat c1]) tiB Tryz.underlying158 Tryz.underlying158 rfl rfl rfl (HB.out.ext0 ((Ext.refl [] wr).alloc _)) (fc_ wr _ (by rw [UInt8.toNat_ofNat'];congr 1;omega)) (by simp;omega) (by simp;omega) ?_
   intro v2 w2 how hext hnear hnn
   refine hK _ _ ?_
   clear hK
   go_wp2
   go_ret
   have e:=HS.out
   rw [x_ (by omega)] at e
   rw [e] at how
   exact⟨v2,rfl,how,HE.out.1.trans' (((Ext.refl [] wr).alloc _).nil.trans hext) (fun x hx=> .inl hx) (fun x hx=> HE.out.2 x hx),fun x hx=> by
    rcases hnear x hx with h1 | h1
    ·exact HE.out.2 x h1
    ·have:=HE.out.1.size
     simp at h1
     omega⟩
theorem s_ {w a b:World} {v v':Value} (h:Ext [] w a) (hv: ∀g∈blkL v,w.heap.size<=g) (k:Ext (blkL v) a b) (n:Near a v v'):Ext [] w b/\ ∀g∈blkL v',w.heap.size<=g:=by
 refine⟨h.trans' k (by simp) (fun x hx=> .inr (hv x hx)),fun g hg=> ?_⟩
 rcases n g hg with h1 | h1
 ·exact hv g h1
 ·have:=h.size;omega
theorem encI_len (x:Itm) (hg:GoodI x):(encI x).length<=4012:=by
 cases x with
 | num n=>
  have h:n<=4611686018427387903:=hg
  have:=y_ 9 (2*n) (by omega)
  simp only [encI,List.length_cons]
  omega
 | txt s=>
  have h:s.length<=4000:=hg
  have:=y_ 9 s.length (by omega)
  simp only [encI,List.length_cons,List.length_append]
  omega
theorem hY_ (l:List Itm) (hg: ∀x∈l,GoodI x):(encL l).length<=4012*l.length:=by
 induction l with
 | nil=> simp [encL]
 | cons a l ih=>
  rw [r_,List.length_append,List.length_cons]
  have h1:=encI_len a (hg a (by simp))
  have h2:=ih (fun x hx=> hg x (List.mem_cons_of_mem _ hx))
  omega
theorem xor0 (m:Nat) (h:m < 18446744073709551616):bits BinOp.xor IntKind.u64 (m:Int) 0=(m:Int):=by
 simp [bits,IntKind.wrap,IntKind.bits,IntKind.signed]
 show (((BitVec.ofNat 64 m ^^^ 0#64:BitVec 64).toNat:Int) % 18446744073709551616)=m
 rw [BitVec.xor_zero,BitVec.toNat_ofNat]
 omega
def NewB (ys:List UInt8) (w:World) (e:Ending) (w':World):Prop:= ∃u,e= .returned (.tuple #[u,.int .i64 0])/\EB.Ow 5 w' u ys/\Ext [] w w'/\ ∀g∈blkL u,w.heap.size<=g
theorem hX_ (v:Value) (l:List Itm) (w:World) (hv:EIt.Rd w v (l.map itmV)) (hg:gA_ l):Calls Tryz.prog 104 #[v] w (NewB (encL l) w):=by
 have hck:=pkcheck_c v l w hv hg
 obtain⟨p,cap,rfl,_⟩:=hv.len_eq
 obtain⟨HV,HG,HC⟩:=h_3 hv hg hck
 have hl:=hg.1
 rw [List.length_map] at HV HC ⊢
 obtain⟨n,hn⟩: ∃n,n=l.length:=⟨_,rfl⟩
 rw [<-hn] at HV hl HC ⊢
 have HN:=hi_ hn
 clear hv hg hn hck
 go_enter Tryz.func104,Tryz.ntmps104
 go_wp2_with fail
 refine HC.out.mono ?_
 rintro e W1 ⟨rfl,hE1⟩
 go_wp2_with fail
 go_loopw [5,7,15] (fun bv _ iv wr=> ∃i:Nat,i<=n/\iv= .int .i64 i/\Hid (EB.Ow 5 wr bv (encL (l.take i)))/\Hid (Ext [] w wr/\ ∀g∈blkL bv,w.heap.size<=g)) (fun _ _ iv _=> n - (intOf iv).toNat)
 case atStart=> exact⟨0,Nat.zero_le _,rfl,hi_ (.inl ⟨rfl,rfl⟩),hi_ ⟨hE1,by simp [blkL]⟩⟩
 case round=>
  obtain⟨i,hi,rfl,HB,HE⟩:=hrel
  obtain⟨pb,cb,hbv,_⟩:=HB.out.rd.len_eq
  subst hbv
  have hbl:(encL (l.take i)).length<=8024000:=by
   have h1:=hY_ (l.take i) (fun x hx=> HG.out.2 x (List.mem_of_mem_take hx))
   rw [List.length_take] at h1
   omega
  by_cases hlt:i < n
  ·have z1:(i:Int) < (n:Int):=by omega
   have hil:i < l.length:=by rw [<-HN.out];exact hlt
   obtain⟨g,o,rfl⟩: ∃g o,p=some ⟨g,o,none⟩:=by
    rcases HV.out with ⟨h,_⟩ | ⟨g,o,c,h,_⟩
    ·simp at h;omega
    ·simp only [Value.slice.injEq] at h;exact⟨g,o,h.1⟩
   have hc:=aQ_ (HV.out.ext0 HE.out.1) i (by rw [List.length_map];exact hil)
   have hx:(l.map itmV).getD i I0=itmV l[i]:=by simp [List.getD,hil]
   rw [hx] at hc
   have hT:encL (l.take (i+1))=encL (l.take i)++encI l[i]:=by
    rw [List.take_succ_eq_append_getElem hil,bA_,r_]
    simp [encL]
   have hgx:=HG.out.2 l[i] (List.getElem_mem hil)
   obtain⟨x,hx⟩: ∃x,x=l[i]:=⟨_,rfl⟩
   rw [<-hx] at hc hT hgx
   obtain⟨B,hB⟩: ∃B,B=encL (l.take i):=⟨_,rfl⟩
   rw [<-hB] at HB HE hT hbl
   simp only [<-hB]
   have HT:=hi_ hT
   clear hx hT hB
   cases x with
   | num q=>
    have hq:q<=4611686018427387903:=hgx
    obtain⟨m1,m2,m3⟩:=hc
    simp only [itmV] at m1 m2 m3
    go_wp2_with (with_reducible refine e_ (d:=24) ?_)
    obtain⟨bx,hbx⟩: ∃b,b=wr.heap.size:=⟨_,rfl⟩
    have hEb:Ext [] wr (wr.alloc (.cells #[.int .i64 1,.int .i64 q,.string ⟨#[]⟩] 215)):=(Ext.refl [] wr).alloc _
    have hb0:=heap_alloc_new wr (.cells #[.int .i64 1,.int .i64 q,.string ⟨#[]⟩] 215)
    have hnb: ∀x∈blkL (.slice pb B.length cb),x < wr.heap.size:=HB.out.lt
    refine k_ rfl fun K hK=> b_ (E:=EB) (T:=5) (zero:=0) (bytes:=1) (v:= .slice pb B.length cb) (xs:=B) (ys:= [1]) tiB Tryz.underlying158 Tryz.underlying158 rfl rfl rfl (HB.out.ext0 (hEb.alloc _)) (fc_ _ _ rfl (by simp)) (by simp;omega) (by simp;omega) ?_
    intro v2 w2 how hext hnear hnn
    obtain⟨p2,cap2,hv2,_⟩:=how.rd.len_eq
    rw [List.length_append,List.length_singleton] at hv2
    subst hv2
    have HB2:=hi_ how
    have HE2:=hi_ (s_ (HE.out.1.trans (hEb.alloc _)) HE.out.2 hext hnear)
    have hb2:=hext.blk (((Ext.refl [] _).alloc _).blk hb0 (by simp)) (fun h=> by have:=hnb _ h;omega)
    clear how hext hnear hnn hb0 hEb
    refine hK _ _ ?_
    clear hK
    have k1:w2.cell? ⟨wr.heap.size,0,none⟩=some (.int .i64 1):=by rw [cell_of_row w2 _ 0 _ _ _ hb2];rfl
    have k2:w2.cell? ⟨wr.heap.size,1,none⟩=some (.int .i64 q):=by rw [cell_of_row w2 _ 1 _ _ _ hb2];rfl
    clear hb2 m1 m2 m3
    have hxr:bits BinOp.xor IntKind.u64 ((q:Int)*2) ((q:Int) / 9223372036854775808)=((2*q:Nat):Int):=by
     have:=xor0 (2*q) (by omega)
     rw [show (q:Int) / 9223372036854775808=0 by omega,show (q:Int)*2=((2*q:Nat):Int) by omega,this]
    go_wp2_with fail
    refine(gd_ _ (B++ [1]) (2*q) _ HB2.out (by simp;omega) (by omega)).mono ?_
    rintro e W3 ⟨v3,rfl,how,hext,hnear⟩
    obtain⟨p3,cap3,hv3,_⟩:=how.rd.len_eq
    have el:(B++ [1]++D_ (2*q))=B++encI (.num q):=by simp [encI]
    rw [el] at how hv3
    rw [<-HT.out] at how hv3
    subst hv3
    have HE3:=hi_ (s_ HE2.out.1 HE2.out.2 hext hnear)
    have HB3:=hi_ how
    clear how hext hnear el hxr k1 k2
    go_wp2_with fail
    go_roundw
    case rel=> exact⟨i+1,by omega,by go_num,HB3,HE3⟩
    case measure=> simp [intOf];omega
   | txt s=>
    have hs:s.length<=4000:=hgx
    obtain⟨m1,m2,m3⟩:=hc
    simp only [itmV] at m1 m2 m3
    go_wp2_with (with_reducible refine e_ (d:=24) ?_)
    have hEb:Ext [] wr (wr.alloc (.cells #[.int .i64 2,.int .i64 0,.string ⟨s.toArray⟩] 215)):=(Ext.refl [] wr).alloc _
    have hb0:=heap_alloc_new wr (.cells #[.int .i64 2,.int .i64 0,.string ⟨s.toArray⟩] 215)
    have hnb: ∀x∈blkL (.slice pb B.length cb),x < wr.heap.size:=HB.out.lt
    refine k_ rfl fun K hK=> b_ (E:=EB) (T:=5) (zero:=0) (bytes:=1) (v:= .slice pb B.length cb) (xs:=B) (ys:= [2]) tiB Tryz.underlying158 Tryz.underlying158 rfl rfl rfl (HB.out.ext0 (hEb.alloc _)) (fc_ _ _ rfl (by simp)) (by simp;omega) (by simp;omega) ?_
    intro v2 w2 how hext hnear hnn
    obtain⟨p2,cap2,hv2,_⟩:=how.rd.len_eq
    rw [List.length_append,List.length_singleton] at hv2
    subst hv2
    have HB2:=hi_ how
    have HE2:=hi_ (s_ (HE.out.1.trans (hEb.alloc _)) HE.out.2 hext hnear)
    have hb2:=hext.blk (((Ext.refl [] _).alloc _).blk hb0 (by simp)) (fun h=> by have:=hnb _ h;omega)
    have hl2: ∀x∈blkL (.slice p2 (B.length+1) cap2),x≠wr.heap.size:=fun x hx=> by
     rcases hnear x hx with h | h
     ·have:=hnb x h;omega
     ·simp at h;omega
    clear how hext hnear hnn hb0 hEb
    refine hK _ _ ?_
    clear hK
    have k1:w2.cell? ⟨wr.heap.size,0,none⟩=some (.int .i64 2):=by rw [cell_of_row w2 _ 0 _ _ _ hb2];rfl
    have k3:w2.cell? ⟨wr.heap.size,2,none⟩=some (.string ⟨s.toArray⟩):=by rw [cell_of_row w2 _ 2 _ _ _ hb2];rfl
    clear hb2 m1 m2 m3
    obtain⟨bx,hbx⟩: ∃b,b=wr.heap.size:=⟨_,rfl⟩
    rw [<-hbx] at k1 k3 hl2
    simp only [<-hbx]
    clear hbx hnb
    go_wp2_with fail
    have hD:=(Ext.refl [] w2).drew
    have hwr:IntKind.u64.wrap (s.length:Int)=(s.length:Int):=by simp [IntKind.wrap,IntKind.bits,IntKind.signed];omega
    refine f_ (fun W=> W.cell? ⟨bx,2,none⟩=some (.string ⟨s.toArray⟩)) (fun i=> i==2 || i==5 || i==7) (by kernel_rfl) (hD.cell k3 (by simp)) (fun hS=> ?_)
    refine PUq 0 ?_;(try go_frame)
    refine PUq 1 ?_;(try go_frame)
    refine PUq 6 ?_;(try go_frame)
    refine ta 2 ?_;(try go_frame)
    refine PUq 3 ?_;(try go_frame)
    refine PUq 4 ?_;(try go_frame)
    refine ta 7 ?_;(try go_frame)
    refine a_ (i:=5) (by kernel_rfl) rfl (fun K hK=> ?_)
    (try simp only [Act.put,zA,zB,zC,List.setIfInBounds_toArray,zD,zE]);refine iw rfl ?_
    go_simp
    refine(gd_ _ (B++ [2]) s.length _ (HB2.out.ext0 hD) (by simp;omega) (by omega)).mono ?_
    rintro e W3 ⟨v3,rfl,how,hext,hnear⟩
    obtain⟨p3,cap3,hv3,_⟩:=how.rd.len_eq
    subst hv3
    have s3:=hext.cell hS (fun h=> hl2 _ h rfl)
    have HE3:=hi_ (s_ (HE2.out.1.trans hD) HE2.out.2 hext hnear)
    have HB3:=hi_ how
    refine hK.out _ _ (fun _=> s3) (fun _=> ?_)
    clear hK how hext hnear hS s3 hwr
    refine a_ (i:=8) (by kernel_rfl) rfl (fun K hK=> ?_)
    (try simp only [Act.put,zA,zB,zC,List.setIfInBounds_toArray,zD,zE]);refine iw rfl ?_
    refine dZ_ (s:= .tmp 44) (x:= .tmp 46) (T:=5) (v:= .slice p3 (B++ [2]++D_ s.length).length cap3) (xs:=B++ [2]++D_ s.length) (ys:=s) tiB Tryz.underlying158 Tryz.underlying9 rfl rfl rfl HB3.out (by have:=y_ 9 s.length (by omega);simp;omega) ?_
    intro v4 w4 how hext hnear _
    have el:(B++ [2]++D_ s.length++s)=B++encI (.txt s):=by simp [encI]
    rw [el,<-HT.out] at how
    obtain⟨p4,cap4,hv4,_⟩:=how.rd.len_eq
    subst hv4
    have HE4:=hi_ (s_ HE3.out.1 HE3.out.2 hext hnear)
    have HB4:=hi_ how
    refine nk hK ?_
    clear hK how hext hnear el
    refine PUq 9 ?_;(try go_frame)
    refine c_ (by kernel_rfl) ?_ _
    go_wp2_with fail
    go_roundw
    case rel=> exact⟨i+1,by omega,by go_num,HB4,HE4⟩
    case measure=> simp [intOf];omega
  ·obtain rfl:i=n:=by omega
   have z1: ¬((i:Int) < (i:Int)):=by omega
   have e:encL (l.take i)=encL l:=by rw [List.take_of_length_le (by rw [<-HN.out];exact Nat.le_refl _)]
   rw [e] at HB HE
   simp only [e]
   clear e
   go_wp2
   go_ret2
   exact⟨_,rfl,HB.out,HE.out⟩
theorem or64 (a b:Nat) (ha:a < 18446744073709551616) (hb:b < 18446744073709551616):bits BinOp.or IntKind.u64 (a:Int) (b:Int)=((a ||| b:Nat):Int):=by
 have hab:a ||| b < 2 ^ 64:=Nat.or_lt_two_pow (by simpa using ha) (by simpa using hb)
 simp [bits,IntKind.wrap,IntKind.bits,IntKind.signed]
 show (((BitVec.ofNat 64 a ||| BitVec.ofNat 64 b:BitVec 64).toNat:Int) % 18446744073709551616)=_
 rw [BitVec.toNat_or,BitVec.toNat_ofNat,BitVec.toNat_ofNat,Nat.mod_eq_of_lt (by simpa using ha),Nat.mod_eq_of_lt (by simpa using hb)]
 omega
theorem and127 (m:Nat) (h:m < 256):bits BinOp.and IntKind.u8 (m:Int) 127=((m % 128:Nat):Int):=by
 have: ∀m:Fin 256,bits BinOp.and IntKind.u8 ((m.1:Nat):Int) 127=((m.1 % 128:Nat):Int):=by decide+kernel
 exact this ⟨m,h⟩
theorem cnt_or (acc x i:Nat) (hi:i<=8) (hx:x < 256) (ha:acc < 2 ^ (7*i)):bits BinOp.or IntKind.u64 (acc:Int) (IntKind.u64.wrap (IntKind.u64.wrap (bits BinOp.and IntKind.u8 (x:Int) 127)*2 ^ (7*i)))=((acc+x % 128*2 ^ (7*i):Nat):Int):=by
 have h56:2 ^ (7*i)<=2 ^ 56:=Nat.pow_le_pow_right (by omega) (by omega)
 have hw: ∀m:Nat,m < 18446744073709551616->IntKind.u64.wrap (m:Int)=(m:Int):=fun m hm=> by simp [IntKind.wrap,IntKind.bits,IntKind.signed];omega
 have hm:x % 128*2 ^ (7*i) < 18446744073709551616:=by
  have h1:x % 128*2 ^ (7*i)<=127*2 ^ 56:=Nat.mul_le_mul (by omega) h56
  omega
 rw [and127 x hx,hw _ (by omega)]
 have e:((x % 128:Nat):Int)*2 ^ (7*i)=((x % 128*2 ^ (7*i):Nat):Int):=by simp
 have h2:=or_add acc (x % 128) i ha
 rw [Nat.shiftLeft_eq] at h2
 rw [e,hw _ hm,or64 _ _ (by omega) hm,h2]
def CntPost (c:Nat) (rest:List UInt8) (v:Value) (w:World) (e:Ending) (w':World):Prop:=
 ∃u,e= .returned (.tuple #[.int .u64 c,u,.bool true])/\EB.Rd w' u rest/\(∀g∈blkL u,g∈blkL v)/\Ext [] w w'/\ ∃g o c',u= .slice (some ⟨g,o,none⟩) rest.length c'
theorem gt_ (v:Value) (c:Nat) (rest:List UInt8) (w:World) (hv:EB.Rd w v (D_ c++rest)) (hc:c < 9223372036854775808) (hl:rest.length<=1000000):
  Calls Tryz.prog 173 #[v] w (CntPost c rest v w):=by
 have hlen:=y_ 8 c (by omega)
 obtain⟨HV,HL⟩:=h_2 hv hlen
 obtain⟨g,o,cap,rfl,hcap,hg⟩: ∃g o cap,v= .slice (some ⟨g,o,none⟩) (D_ c++rest).length cap/\(D_ c++rest).length<=cap/\g < w.heap.size:=by
  rcases hv with ⟨_,h⟩ | ⟨g,o,cap,h1,h2,h3,_⟩
  ·have h5:=congrArg List.length h;rw [List.length_append,List.length_nil] at h5;omega
  ·exact⟨g,o,cap,h1,h2,h3⟩
 obtain⟨n,hn⟩: ∃n,n=(D_ c++rest).length:=⟨_,rfl⟩
 rw [<-hn] at HV hcap ⊢
 have hn2:n=(D_ c).length+rest.length:=by rw [hn,List.length_append]
 obtain⟨HN,HN2⟩:=h_2 hn hn2
 have hnb:n<=2000000:=by omega
 clear hv hlen hn hn2
 go_enter Tryz.func173,Tryz.ntmps173
 go_wp2_with fail
 go_loopw [5,6,7,10] (fun av _ _ iv wr=> ∃(i acc rem:Nat) (pre:List UInt8),iv= .int .i64 i/\av= .int .u64 acc/\i<=8/\pre.length=i/\Hid (D_ c=pre++D_ rem)/\Hid (acc+rem*2 ^ (7*i)=c)/\Hid (acc < 2 ^ (7*i))/\(0 < i->0 < rem)/\wr=w) (fun _ _ _ iv _=> 100 - (intOf iv).toNat)
 case atStart=> exact⟨0,0,c,[],rfl,rfl,by omega,rfl,hi_ rfl,hi_ (by simp),hi_ (by simp),by omega,rfl⟩
 case round=>
  obtain⟨i,acc,rem,pre,rfl,rfl,hi,hpre,HS,HA,HAl,hpos,rfl⟩:=hrel
  have hlr:1<=(D_ rem).length/\(D_ c).length=i+(D_ rem).length:=by
   have h1:=congrArg List.length HS.out
   rw [List.length_append,hpre] at h1
   refine⟨?_,h1⟩
   by_cases h:rem < 128
   ·rw [x_ h];simp
   ·rw [ar_ (by omega)];simp
  have z1:(i:Int) < (n:Int):=by have:=HN2.out;omega
  have hrem:rem<=c:=by
   have h1:=HA.out
   have h2:rem*1<=rem*2 ^ (7*i):=Nat.mul_le_mul_left _ (Nat.one_le_two_pow)
   omega
  by_cases h:rem < 128
  ·have hx:wr.cell? ⟨g,o+i,none⟩=some (.int .u8 rem):=by
    have h1:=bE_ HV.out i (by rw [<-HN.out];omega)
    have e:(D_ c++rest).getD i 0=UInt8.ofNat rem:=by
     rw [HS.out,x_ h,List.append_assoc]
     simp [List.getD,hpre]
    rw [h1,e,UInt8.toNat_ofNat',Nat.mod_eq_of_lt (by omega)]
   have z2:((i:Int)==10)=false:=beq_eq_false_iff_ne.2 (by omega)
   have z3:((i:Int)==9)=false:=beq_eq_false_iff_ne.2 (by omega)
   have z4:((rem:Int) < 128):=by omega
   have z6:(i:Int)+1<=(n:Int):=by omega
   have z7:(i:Int)+1<=(cap:Int):=by omega
   have hor:=cnt_or acc rem i (by omega) (by omega) HAl.out
   rw [Nat.mod_eq_of_lt h,HA.out] at hor
   have fin: ∀nq:Nat,CntPost c rest (.slice (some ⟨g,o,none⟩) n cap) wr (.returned (.tuple #[.int .u64 c,.slice (if cap=i+1 then some ⟨g,o,none⟩ else some ⟨g,o+(i+1),none⟩) (n - (i+1)) (cap - (i+1)),.bool true])) (wr.drewN nq):=by
    intro nq
    have hE:Ext [] wr (wr.drewN nq):=(Ext.refl [] wr).drewN nq
    have h1:=(HV.out.ext0 hE).dropS2 (k:=i+1)
    have e:(D_ c++rest).drop (i+1)=rest:=by
     rw [HS.out,x_ h,List.append_assoc,<-hpre,List.drop_length_add_append]
     rfl
    rw [e] at h1
    have en:n - (i+1)=rest.length:=by
     have h1:=HN2.out
     rw [HS.out,x_ h,List.length_append,hpre] at h1
     simp at h1
     omega
    refine⟨_,rfl, ?_, ?_,hE, ?_⟩
    ·simpa [EB] using h1
    ·split <;> simp [blkL]
    ·rw [en]
     split
     ·exact⟨_,_,_,rfl⟩
     ·exact⟨_,_,_,rfl⟩
   have FIN:=hi_ fin
   clear fin
   by_cases hi0:i=0
   ·have z8: ¬((0:Int) < (i:Int)):=by omega
    clear hi0
    go_wp2_with fail
    go_quiet (fail)
    go_wp2_with fail
    all_goals
     go_ret3
     have h1:=FIN.out nq
     simp_all
   ·have z5:((rem:Int)==0)=false:=beq_eq_false_iff_ne.2 (by have:=hpos (by omega);omega)
    have z8:(0:Int) < (i:Int):=by omega
    clear hi0
    go_wp2_with fail
    go_quiet (fail)
    go_wp2_with fail
    all_goals
     go_ret3
     have h1:=FIN.out nq
     simp_all
  ·have hx:wr.cell? ⟨g,o+i,none⟩=some (.int .u8 ((rem % 128+128:Nat):Int)):=by
    have h1:=bE_ HV.out i (by rw [<-HN.out];omega)
    have e:(D_ c++rest).getD i 0=UInt8.ofNat (rem % 128+128):=by
     rw [HS.out,ar_ (by omega),List.append_assoc]
     simp [List.getD,hpre]
    rw [h1,e,UInt8.toNat_ofNat',Nat.mod_eq_of_lt (by omega)]
   have hi7:i+1<=8:=by
    have h1:=HL.out
    have h2:=hlr.2
    rw [ar_ (show 128<=rem by omega),List.length_cons] at h2
    have h3:1<=(D_ (rem / 128)).length:=by
     by_cases h:rem / 128 < 128
     ·rw [x_ h];simp
     ·rw [ar_ (by omega)];simp
    omega
   obtain⟨x,hxx⟩: ∃x,x=rem % 128+128:=⟨_,rfl⟩
   rw [<-hxx] at hx
   have z2:((i:Int)==10)=false:=beq_eq_false_iff_ne.2 (by omega)
   have z3:((i:Int)==9)=false:=beq_eq_false_iff_ne.2 (by omega)
   have z4: ¬((x:Int) < 128):=by omega
   have z5:((x:Int)==0)=false:=beq_eq_false_iff_ne.2 (by omega)
   have hor:=cnt_or acc x i (by omega) (by omega) HAl.out
   rw [show x % 128=rem % 128 by omega] at hor
   have hP:2 ^ (7*(i+1))=128*2 ^ (7*i):=by rw [Nat.mul_add,Nat.pow_add,Nat.mul_comm]
   have hA2:acc+rem % 128*2 ^ (7*i)+rem / 128*2 ^ (7*(i+1))=c:=by
    rw [hP,<-HA.out,Nat.add_assoc,<-Nat.mul_assoc,<-Nat.add_mul]
    congr 2
    omega
   have hL2:acc+rem % 128*2 ^ (7*i) < 2 ^ (7*(i+1)):=by
    have h1:=HAl.out
    have h2:rem % 128*2 ^ (7*i)<=127*2 ^ (7*i):=Nat.mul_le_mul_right _ (by omega)
    rw [hP]
    omega
   have hS2:D_ c=(pre++ [UInt8.ofNat (rem % 128+128)])++D_ (rem / 128):=by rw [HS.out,ar_ (by omega),List.append_assoc];rfl
   have hR2:0 < rem / 128:=by omega
   obtain⟨HA2,HL2,HS2,HR2,HI7⟩:=h_5 hA2 hL2 hS2 hR2 hi7
   obtain⟨A2,hA2e⟩: ∃a,a=acc+rem % 128*2 ^ (7*i):=⟨_,rfl⟩
   rw [<-hA2e] at HA2 HL2 hor
   clear hA2 hL2 hS2 hR2 hP hi7 hxx hA2e
   by_cases hi0:i=0
   ·have z8: ¬((0:Int) < (i:Int)):=by omega
    clear hi0
    go_wp2_with fail
    go_roundw
    case rel=> exact⟨i+1,A2,rem / 128,pre++ [UInt8.ofNat (rem % 128+128)],by go_num,rfl,HI7.out,by simp [hpre],HS2,HA2,HL2,fun _=> HR2.out,trivial⟩
    case measure=> simp [intOf];omega
   ·have z8:(0:Int) < (i:Int):=by omega
    clear hi0
    go_wp2_with fail
    go_roundw
    case rel=> exact⟨i+1,A2,rem / 128,pre++ [UInt8.ofNat (rem % 128+128)],by go_num,rfl,HI7.out,by simp [hpre],HS2,HA2,HL2,fun _=> HR2.out,trivial⟩
    case measure=> simp [intOf];omega
def p_ (w:World) (y:Nat):Option TypeId:=match w.heap[y]? with
 | some (.cells _ T _)=> some T
 | _=> none
theorem d_ {y:Nat} {c:Array Value} {x:Nat×Nat} (h:w.heap[y]? =some (.cells c T x)):p_ w y=some T:=by simp [p_,h]
def ExtT (bs:List Nat) (Ts:List TypeId) (w w':World):Prop:= ∃S,Ext S w w'/\ ∀y∈S,y∈bs\/ ∃T∈Ts,p_ w y=some T/\ ∃b∈bs,b<=y
theorem ExtT.of (h:Ext S w w') (hs: ∀y∈S,y∈bs\/(∃T∈Ts,p_ w y=some T/\ ∃b∈bs,b<=y)\/w.heap.size<=y):ExtT bs Ts w w':=by
 refine⟨S.filter (fun y=> decide (y < w.heap.size)),h.mono (fun x hx=> ?_),fun y hy=> ?_⟩
 ·by_cases hl:x < w.heap.size
  ·exact .inl (by simp [hx,hl])
  ·exact .inr (by omega)
 ·simp at hy
  rcases hs y hy.1 with h | h | h
  ·exact .inl h
  ·exact .inr h
  ·omega
theorem ExtT.of0 (h:Ext [] w w'):ExtT bs Ts w w':=⟨[],h,by simp⟩
theorem ExtT.refl (bs:List Nat) (Ts:List TypeId) (w:World):ExtT bs Ts w w:= .of0 (Ext.refl _ _)
theorem ExtT.size (h:ExtT bs Ts w w'):w.heap.size<=w'.heap.size:=by obtain⟨S,h,_⟩:=h;exact h.size
theorem ExtT.trans' {bs bs' bs'':List Nat} {Ts Ts' Ts'':List TypeId} {a b c:World} (h:ExtT bs Ts a b) (k:ExtT bs' Ts' b c) (h1: ∀x∈bs,x∈bs''\/a.heap.size<=x) (h2: ∀x∈bs',x∈bs''\/a.heap.size<=x) (t1: ∀T∈Ts,T∈Ts'') (t2: ∀T∈Ts',T∈Ts''):ExtT bs'' Ts'' a c:=by
 obtain⟨S,hS,hs⟩:=h
 obtain⟨S',hS',hs'⟩:=k
 refine .of (S:=S++S') (hS.trans' hS' (fun x hx=> .inl (by simp [hx])) (fun x hx=> .inl (by simp [hx]))) (fun y hy=> ?_)
 have up1:(∃b∈bs,b<=y)->(∃b∈bs'',b<=y)\/a.heap.size<=y:=fun⟨b,hb,hby⟩=> by
  rcases h1 b hb with h | h
  ·exact .inl ⟨b,h,hby⟩
  ·exact .inr (by omega)
 have up2:(∃b∈bs',b<=y)->(∃b∈bs'',b<=y)\/a.heap.size<=y:=fun⟨b,hb,hby⟩=> by
  rcases h2 b hb with h | h
  ·exact .inl ⟨b,h,hby⟩
  ·exact .inr (by omega)
 by_cases hin:y∈S
 ·rcases hs y hin with h | ⟨T,h,h',h''⟩
  ·rcases h1 y h with h | h
   ·exact .inl h
   ·exact .inr (.inr h)
  ·rcases up1 h'' with h3 | h3
   ·exact .inr (.inl ⟨T,t1 T h,h',h3⟩)
   ·exact .inr (.inr h3)
 ·have hy':y∈S':=by simpa [hin] using hy
  rcases hs' y hy' with h | ⟨T,h,h',h''⟩
  ·rcases h2 y h with h | h
   ·exact .inl h
   ·exact .inr (.inr h)
  ·by_cases hl:y < a.heap.size
   ·rcases up2 h'' with h3 | h3
    ·refine .inr (.inl ⟨T,t2 T h, ?_,h3⟩)
     rw [p_] at h' ⊢
     rwa [hS.block y hl hin] at h'
    ·omega
   ·exact .inr (.inr (by omega))
theorem ExtT.trans {a b c:World} (h:ExtT bs Ts a b) (k:ExtT bs Ts b c):ExtT bs Ts a c:=h.trans' k (fun _ h=> .inl h) (fun _ h=> .inl h) (fun _ h=> h) (fun _ h=> h)
theorem ExtT.mono {bs bs':List Nat} {Ts Ts':List TypeId} {a b:World} (h:ExtT bs Ts a b) (hs: ∀x∈bs,x∈bs'\/a.heap.size<=x) (ht: ∀T∈Ts,T∈Ts'):ExtT bs' Ts' a b:=
 h.trans' (ExtT.refl [] [] b) hs (by simp) ht (by simp)
theorem ExtT.blk (h:ExtT bs Ts w w') {c:Array Value} {x:Nat×Nat} (hg:w.heap[g]? =some (.cells c T x)) (hn:g∉bs) (hT:T∉Ts):w'.heap[g]? =some (.cells c T x):=by
 obtain⟨S,hS,hs⟩:=h
 refine hS.blk hg (fun hy=> ?_)
 rcases hs g hy with h | ⟨T',h,h',_⟩
 ·exact hn h
 ·rw [d_ hg] at h'
  cases h'
  exact hT h
theorem Enc.Ow.extT {α:Type} {E:Enc α} {v:Value} {xs:List α} (h:E.Ow T w v xs) (he:ExtT bs Ts w w') (hn: ∀g∈blkL v,g∉bs) (hT:T∉Ts):E.Ow T w' v xs:=by
 obtain⟨S,hS,hs⟩:=he
 refine h.ext hS (fun y hy hy2=> ?_)
 obtain⟨c,hc⟩:=h.tag y hy
 rcases hs y hy2 with h | ⟨T',h,h',_⟩
 ·exact hn y hy h
 ·rw [d_ hc] at h'
  cases h'
  exact hT h
theorem ay_: ∀(x y:List UInt8),Op.bytesLess x y=decide (x < y)
 | [],[]=> by simp [Op.bytesLess]
 | _::_,[]=> by simp [Op.bytesLess]
 | [],_::_=> by simp [Op.bytesLess]
 | a::x,b::y=> by
  rw [Op.bytesLess,ay_ x y]
  simp only [List.cons_lt_cons_iff]
  by_cases h1:a < b <;> by_cases h2:a=b <;> by_cases h3:x < y <;> simp [h1,h2,h3]
theorem ax_ (a:Ky): ¬a < a:=List.lt_irrefl a
theorem P_ {a b c:Ky} (h:a < b) (k:b < c):a < c:=List.lt_trans h k
theorem es_ (a b:Ky):a < b\/a=b\/b < a:=by
 by_cases h:a < b
 ·exact .inl h
 ·by_cases k:b < a
  ·exact .inr (.inr k)
  ·exact .inr (.inl (List.le_antisymm (List.not_lt.1 k) (List.not_lt.1 h)))
theorem bg_ {a b:Ky} (h:a < b): ¬b < a:=fun k=> ax_ _ (P_ h k)
theorem bT_ {a b c:Ky} (h: ¬b < a) (k:b < c):a < c:=by
 rcases es_ a b with h1 | h1 | h1
 ·exact P_ h1 k
 ·subst h1;exact k
 ·exact absurd h1 h
theorem cr_ {a b c:Ky} (h:a < b) (k: ¬c < b):a < c:=by
 rcases es_ b c with h1 | h1 | h1
 ·exact P_ h h1
 ·subst h1;exact h
 ·exact absurd h1 k
def cmpK (a b:Ky):Int:=if a < b then -1 else if b < a then 1 else 0
theorem ct_ (a:ByteArray) (w:World):Calls Tryz.prog 96 #[.string a] w fun e w'=> e= .returned (.bool false)/\w=w':=by
 go_enter Tryz.func96,Tryz.ntmps96
 go_wp2
 go_ret
 simp
theorem isNaNSl_c (a:ByteArray) (w:World):Calls Tryz.prog 153 #[.string a] w fun e w'=> e= .returned (.bool false)/\w=w':=by
 go_enter Tryz.func153,Tryz.ntmps153
 go_wp2
 go_ret
 simp
theorem cmpS_c (a b:Ky) (w:World):Calls Tryz.prog 68 #[.string ⟨a.toArray⟩,.string ⟨b.toArray⟩] w fun e w'=> e= .returned (.int .i64 (cmpK a b))/\w=w':=by
 unfold cmpK
 by_cases h1:a < b
 ·rw [if_pos h1]
  have hb:Op.bytesLess a b=true:=by rw [ay_];simpa using h1
  go_enter Tryz.func68,Tryz.ntmps68
  go_wp2_with (go_at_call 96;refine(ct_ _ _).mono ?_;rintro e w' ⟨rfl,rfl⟩)
  all_goals (go_ret;simp)
 ·rw [if_neg h1]
  have hb:Op.bytesLess a b=false:=by rw [ay_];simpa using h1
  by_cases h2:b < a
  ·rw [if_pos h2]
   have hq:(a==b)=false:=beq_eq_false_iff_ne.2 (fun e=> ax_ b (e ▸ h2))
   go_enter Tryz.func68,Tryz.ntmps68
   go_wp2_with (go_at_call 96;refine(ct_ _ _).mono ?_;rintro e w' ⟨rfl,rfl⟩)
   all_goals (go_ret;simp)
  ·rw [if_neg h2]
   obtain rfl:a=b:=by rcases es_ a b with h | h | h;exact absurd h h1;exact h;exact absurd h h2
   go_enter Tryz.func68,Tryz.ntmps68
   go_wp2_with (go_at_call 96;refine(ct_ _ _).mono ?_;rintro e w' ⟨rfl,rfl⟩)
   all_goals (go_ret;simp)
theorem lessS_c (a b:Ky) (w:World):Calls Tryz.prog 152 #[.string ⟨a.toArray⟩,.string ⟨b.toArray⟩] w fun e w'=> e= .returned (.bool (decide (a < b)))/\w=w':=by
 by_cases h1:a < b
 ·have hb:Op.bytesLess a b=true:=by rw [ay_];simpa using h1
  rw [decide_eq_true h1]
  go_enter Tryz.func152,Tryz.ntmps152
  go_wp2_with (go_at_call 96;refine(ct_ _ _).mono ?_;rintro e w' ⟨rfl,rfl⟩)
  all_goals (go_ret;simp)
 ·have hb:Op.bytesLess a b=false:=by rw [ay_];simpa using h1
  rw [decide_eq_false h1]
  go_enter Tryz.func152,Tryz.ntmps152
  go_wp2_with (go_at_call 96;refine(ct_ _ _).mono ?_;rintro e w' ⟨rfl,rfl⟩)
  all_goals (go_ret;simp)
theorem at1S_c (p:Pr) (k:Ky) (w:World):Calls Tryz.prog 74 #[.agg #[.string ⟨p.1.toArray⟩,.string ⟨p.2.toArray⟩],.string ⟨k.toArray⟩] w fun e w'=> e= .returned (.int .i64 (cmpK p.1 k))/\Ext [] w w':=by
 go_enter Tryz.func74,Tryz.ntmps74
 go_wp2_with (go_at_call 68;refine(cmpS_c _ _ _).mono ?_;rintro e w' ⟨rfl,rfl⟩)
 go_ret
 exact⟨rfl,(Ext.refl _ _).alloc _⟩
def SrtK (l:List Pr):Prop:=l.Pairwise (fun a b=> a.1 < b.1)
theorem SrtK.at (h:SrtK l) {i j:Nat} (hij:i < j) (hj:j < l.length):(l.getD i ([],[])).1 < (l.getD j ([],[])).1:=by
 have:=List.pairwise_iff_getElem.1 h i j (by omega) hj hij
 simpa [List.getD,hj,show i < l.length by omega] using this
theorem cN_ {α:Type} (p:α->Bool) (l:List α) (k:Nat) (hk:k<=l.length) (h1: ∀(i:Nat) x,i < k->l[i]? =some x->p x=true) (h2: ∀(i:Nat) x,k<=i->l[i]? =some x->p x=false):l.countP p=k:=by
 have e:l=l.take k++l.drop k:=(List.take_append_drop k l).symm
 rw [e,List.countP_append]
 have e1:(l.take k).countP p=(l.take k).length:=by
  rw [List.countP_eq_length]
  intro x hx
  obtain⟨i,hi⟩:=List.getElem?_of_mem hx
  rw [List.getElem?_take] at hi
  split at hi
  ·exact h1 i x (by assumption) hi
  ·cases hi
 have e2:(l.drop k).countP p=0:=by
  rw [List.countP_eq_zero]
  intro x hx
  obtain⟨i,hi⟩:=List.getElem?_of_mem hx
  rw [List.getElem?_drop] at hi
  have:=h2 (k+i) x (by omega) hi
  simp [this]
 rw [e1,e2,List.length_take]
 omega
def fy_ (s:List Pr) (k:Ky) (w:World) (e:Ending) (w':World):Prop:=e= .returned (.tuple #[.int .i64 (atF s k),.bool (F_ s k)])/\Ext [] w w'
theorem atF_of {s:List Pr} {k:Ky} {a:Nat} (ha:a<=s.length) (h1: ∀i,i < a->(s.getD i ([],[])).1 < k) (h2: ∀i,a<=i->i < s.length-> ¬(s.getD i ([],[])).1 < k):atF s k=a:=by
 refine cN_ _ s a ha (fun i x hi hx=> ?_) (fun i x hi hx=> ?_)
 ·have:=h1 i hi
  simpa [List.getD,hx] using this
 ·have hl:=(List.getElem?_eq_some_iff.1 hx).1
  have:=h2 i hi hl
  simpa [List.getD,hx] using this
theorem bsfPr_c (v:Value) (s:List Pr) (k:Ky) (w:World) (hl:s.length<=1000000) (hv:EPr.Rd w v s) (hs:SrtK s):
  Calls Tryz.prog 73 #[v,.string ⟨k.toArray⟩,.func (.func 74) #[] #[]] w (fy_ s k w):=by
 have HS:=hi_ hs
 clear hs
 have hv0:=hi_ hv
 rcases hv with ⟨rfl,rfl⟩ | ⟨g,o,cap,rfl,h1,hg,_⟩
 ·go_enter Tryz.func73,Tryz.ntmps73
  go_wp2
  go_loopw [9,10,11] (fun lo hi _ wr=> lo= .int .i64 0/\hi= .int .i64 0/\wr=w) (fun _ _ _ _=> 0)
  case atStart=> exact⟨rfl,rfl,rfl⟩
  case round=>
   obtain⟨rfl,rfl,rfl⟩:=hrel
   go_wp2
   go_ret2
   exact⟨rfl,Ext.refl _ _⟩
 ·obtain⟨n,hn⟩: ∃n,n=s.length:=⟨_,rfl⟩
  rw [<-hn] at h1 hl ⊢
  have HN:=hi_ hn
  clear hn
  go_enter Tryz.func73,Tryz.ntmps73
  go_wp2
  go_loopw [9,10,11] (fun lo hi _ wr=> ∃a b:Nat,lo= .int .i64 a/\hi= .int .i64 b/\a<=b/\b<=n/\Hid (∀i,i < a->(s.getD i ([],[])).1 < k)/\Hid (∀i,b<=i->i < s.length-> ¬(s.getD i ([],[])).1 < k)/\Ext [] w wr)
   (fun lo hi _ _=> (intOf hi).toNat - (intOf lo).toNat)
  case atStart=> exact⟨0,n,rfl,rfl,Nat.zero_le _,Nat.le_refl _,hi_ (fun i h=> by omega),hi_ (fun i h1 h2=> by rw [<-HN.out] at h2;omega),Ext.refl _ _⟩
  case round=>
   obtain⟨a,b,rfl,rfl,hab,hbn,h1,h2,hB⟩:=hrel
   have hv1:=hv0.out.ext0 hB
   rw [<-HN.out] at hv1
   by_cases hlt:a < b
   ·obtain⟨hm1,hm2⟩:=ag_ hv1 ((a+b)/2) (by rw [<-HN.out];omega)
    obtain⟨x,hx⟩: ∃x,x=s.getD ((a+b)/2) ([],[]):=⟨_,rfl⟩
    rw [<-hx] at hm1 hm2
    have HX:=hi_ hx
    clear hx
    go_wp2_with fail
    refine(at1S_c _ _ _).mono ?_
    rintro e w1 ⟨rfl,hB1⟩
    unfold cmpK
    have hB2:=hB.trans hB1
    clear hB hB1 hm1 hm2 hv1
    by_cases hx2:x.1 < k
    ·rw [if_pos hx2]
     have HX2:=hi_ hx2
     clear hx2
     go_wp2
     go_roundw
     case rel=> exact⟨(a+b)/2+1,b,by go_num,rfl,by omega,hbn,hi_ (fun i hi=> by
       have e:=HX.out
       by_cases hi':i=(a+b)/2
       ·subst hi';rw [<-e];exact HX2.out
       ·have:=HS.out.at (i:=i) (j:=(a+b)/2) (by omega) (by rw [<-HN.out];omega);rw [<-e] at this;exact P_ this HX2.out),h2,hB2⟩
     case measure=> simp [intOf];omega
    ·rw [if_neg hx2]
     have HX2:=hi_ hx2
     clear hx2
     by_cases hx4:k < x.1
     ·rw [if_pos hx4]
      have HX4:=hi_ hx4
      clear hx4
      go_wp2
      go_roundw
      case rel=> exact⟨a,(a+b)/2,rfl,by go_num,by omega,by omega,h1,hi_ (fun i hi hi2=> by
        have e:=HX.out
        by_cases hi':i=(a+b)/2
        ·subst hi';rw [<-e];exact HX2.out
        ·have:=HS.out.at (i:=(a+b)/2) (j:=i) (by omega) hi2;rw [<-e] at this;exact fun hh=> HX2.out (P_ this hh)),hB2⟩
      case measure=> simp [intOf];omega
     ·rw [if_neg hx4]
      have HX4:=hi_ hx4
      clear hx4
      go_wp2
      go_roundw
      case rel=> exact⟨a,(a+b)/2,rfl,by go_num,by omega,by omega,h1,hi_ (fun i hi hi2=> by
        have e:=HX.out
        by_cases hi':i=(a+b)/2
        ·subst hi';rw [<-e];exact HX2.out
        ·have:=HS.out.at (i:=(a+b)/2) (j:=i) (by omega) hi2;rw [<-e] at this;exact fun hh=> HX2.out (P_ this hh)),hB2⟩
      case measure=> simp [intOf];omega
   ·have hab':a=b:=by omega
    subst hab'
    have hat:atF s k=a:=atF_of (by rw [<-HN.out];exact hbn) h1.out h2.out
    by_cases hal:a < n
    ·obtain⟨hm1,hm2⟩:=ag_ hv1 a (by rw [<-HN.out];exact hal)
     have hxe:s[a]? =some (s.getD a ([],[])):=by simp [List.getD,show a < s.length by rw [<-HN.out];exact hal]
     obtain⟨x,hx⟩: ∃x,x=s.getD a ([],[]):=⟨_,rfl⟩
     rw [<-hx] at hm1 hm2 hxe
     obtain⟨HAT,HXE⟩:=h_2 hat hxe
     have hnl: ¬x.1 < k:=by rw [hx];exact h2.out a (Nat.le_refl _) (by rw [<-HN.out];exact hal)
     have HNL:=hi_ hnl
     clear hx hxe hat hnl
     go_wp2_with fail
     refine(at1S_c _ _ _).mono ?_
     rintro e w1 ⟨rfl,hB1⟩
     have hB2:=hB.trans hB1
     clear hB hB1 hm1 hm2 hv1
     have hth:F_ s k=(cmpK x.1 k==0):=by
      have hnl:=HNL.out
      rw [F_,HAT.out,HXE.out,cmpK,if_neg hnl]
      by_cases hk:k < x.1
      ·rw [if_pos hk]
       have:x.1≠k:=fun e=> ax_ k (e ▸ hk)
       simpa using this
      ·rw [if_neg hk]
       have:x.1=k:=by
        rcases es_ x.1 k with h | h | h
        ·exact absurd h hnl
        ·exact h
        ·exact absurd h hk
       simp [this]
     have HTH:=hi_ hth
     clear hth
     generalize cmpK x.1 k=c at HTH ⊢
     go_wp2
     go_ret2
     refine⟨?_,hB2⟩
     rw [HAT.out,HTH.out]
     rfl
    ·have HAT:=hi_ hat
     clear hat
     go_wp2_with fail
     go_ret2
     refine⟨?_,hB⟩
     have hth:F_ s k=false:=by
      rw [F_,HAT.out,List.getElem?_eq_none (by rw [<-HN.out];omega)]
      rfl
     rw [HAT.out,hth]
     rfl
theorem trat_c (v:Value) (s:List Pr) (k:Ky) (w:World) (hl:s.length<=1000000) (hv:EPr.Rd w v s) (hs:SrtK s):
  Calls Tryz.prog 43 #[v,.string ⟨k.toArray⟩] w (fy_ s k w):=by
 go_enter Tryz.func43,Tryz.ntmps43
 go_wp2_with fail
 refine(bsfPr_c v s k _ hl hv hs).mono ?_
 rintro e w1 ⟨rfl,hB⟩
 go_wp2
 go_ret2
 exact⟨rfl,hB⟩
section
variable {P:Program} {ops:Array Oper} {Q:Exit->Act->World->Prop} {md:Region.Mode} {S:World->Prop} {nd:Nat->Bool}
def putT:List (Nat×Nat)->(Nat->Value)->Array Value->Array Value
 | [],_,ts=> ts
 | x::r,vals,ts=> putT r vals (ts.setIfInBounds x.1 (vals x.2))
def putG (G:List (Nat×Nat)) (vals:Nat->Value) (a:Act):Act:={a with tmps:=putT G vals a.tmps}
def cV_:List (Nat×Nat)->Array Bool->Array Bool
 | [],L=> L
 | x::r,L=> cV_ r (L.setIfInBounds x.2 true)
def upd (vals:Nat->Value) (j:Nat) (v:Value):Nat->Value:=fun k=> if k=j then v else vals k
theorem hJ_: ∀(G:List (Nat×Nat)) (vals:Nat->Value) (ts:Array Value) (d:Nat) (v:Value),d∉G.map (·.1)->putT G vals (ts.setIfInBounds d v)=(putT G vals ts).setIfInBounds d v
 | [],_,_,_,_,_=> rfl
 | x::r,vals,ts,d,v,h=> by
  simp only [List.map_cons,List.mem_cons,not_or] at h
  rw [putT,putT,Array.setIfInBounds_comm _ _ h.1,hJ_ r vals _ d v h.2]
theorem hI_: ∀(G:List (Nat×Nat)) (vals:Nat->Value) (ts:Array Value) (j:Nat) (v:Value),j∉G.map (·.2)->putT G (upd vals j v) ts=putT G vals ts
 | [],_,_,_,_,_=> rfl
 | x::r,vals,ts,j,v,h=> by
  simp only [List.map_cons,List.mem_cons,not_or] at h
  rw [putT,putT,hI_ r vals _ j v h.2]
  rw [show upd vals j v x.2=vals x.2 from if_neg (Ne.symm h.1)]
theorem fX_: ∀(G:List (Nat×Nat)) (vals:Nat->Value) (ts:Array Value) (x:Nat×Nat) (v:Value),x∈G->(G.map (·.1)).Nodup->(G.map (·.2)).Nodup->(putT G vals ts).setIfInBounds x.1 v=putT G (upd vals x.2 v) ts
 | [],_,_,_,_,h,_,_=> by cases h
 | y::r,vals,ts,x,v,h,h1,h2=> by
  simp only [List.map_cons,List.nodup_cons] at h1 h2
  rcases List.mem_cons.1 h with rfl | h
  ·rw [putT,putT,hI_ r vals _ _ v h2.1,show upd vals x.2 v x.2=v from if_pos rfl,<-hJ_ r vals _ _ _ h1.1,Array.setIfInBounds_setIfInBounds]
  ·have hne:y.2≠x.2:=fun e=> h2.1 (e ▸ List.mem_map_of_mem h)
   rw [putT,putT,show upd vals x.2 v y.2=vals y.2 from if_neg hne]
   exact fX_ r vals _ x v h h1.2 h2.2
theorem putT_id: ∀(G:List (Nat×Nat)) (vals:Nat->Value) (ts:Array Value),(∀x∈G,vals x.2=ts.getD x.1 undef)->putT G vals ts=ts
 | [],_,_,_=> rfl
 | x::r,vals,ts,h=> by
  have e:ts.setIfInBounds x.1 (vals x.2)=ts:=by
   rw [h x (by simp)]
   apply Array.ext_getElem?
   intro i
   rw [Array.getElem?_setIfInBounds]
   split
   ·rename_i hi
    subst hi
    split
    ·rename_i hl;simp [hl]
    ·rename_i hl;simp at hl;simp [hl]
   ·rfl
  rw [putT,e]
  exact putT_id r vals ts (fun y hy=> h y (List.mem_cons_of_mem _ hy))
theorem cF_: ∀(G:List (Nat×Nat)) (L:Array Bool) (k:Nat),k∉G.map (·.2)->(cV_ G L)[k]? =L[k]?
 | [],_,_,_=> rfl
 | x::r,L,k,h=> by
  simp only [List.map_cons,List.mem_cons,not_or] at h
  rw [cV_,cF_ r _ k h.2,Array.getElem?_setIfInBounds_ne (Ne.symm h.1)]
theorem fQ_: ∀(G:List (Nat×Nat)) (L:Array Bool) (k:Nat),k∈G.map (·.2)->k < L.size->(cV_ G L)[k]? =some true
 | [],_,_,h,_=> by cases h
 | x::r,L,k,h,hl=> by
  rw [cV_]
  by_cases hk:k∈r.map (·.2)
  ·exact fQ_ r _ k hk (by simpa using hl)
  ·simp only [List.map_cons,List.mem_cons] at h
   rcases h with h | h
   ·subst h
    rw [cF_ r _ _ hk]
    simp [hl]
   ·exact absurd h hk
def it_ (md:Region.Mode) (ops:Array Oper):List (Nat×Nat)->Array Bool->Bool
 | [],_=> true
 | x::r,L=> (match ops[x.2]? with
  | some o=> o.dst==some x.1 && o.guard.isNone && o.after.all (fun e=> !Region.binds md e || L.getD e.on false)
  | none=> false) && it_ md ops r (L.setIfInBounds x.2 true)
def grpB (md:Region.Mode) (ops:Array Oper) (L0:Array Bool) (G:List (Nat×Nat)) (dep:Nat->List Nat):Bool:=
 decide (G.map (·.1)).Nodup && decide (G.map (·.2)).Nodup && hf_ md ops L0 && it_ md ops G L0 && G.all (fun x=> decide (x.2 < L0.size) && !L0.getD x.2 true && (dep x.2).all (fun k=> (G.map (·.2)).contains k && ca_ md ops k 8 x.2)) &&
  (List.range ops.size).all (fun j=> L0.getD j true || (G.map (·.2)).contains j || G.all (fun x=> ca_ md ops x.2 8 j))
theorem fM_: ∀(G:List (Nat×Nat)) (L:Array Bool),it_ md ops G L=true-> ∀x∈G,∃o,ops[x.2]? =some o/\o.dst=some x.1/\o.guard=none
 | [],_,_,_,h=> by cases h
 | y::r,L,h,x,hx=> by
  rw [it_,Bool.and_eq_true] at h
  rcases List.mem_cons.1 hx with rfl | hx
  ·cases ho:ops[x.2]? with
   | none=> rw [ho] at h;cases h.1
   | some o=>
    rw [ho] at h
    simp only [Bool.and_eq_true,beq_iff_eq,Option.isNone_iff_eq_none] at h
    exact⟨o,rfl,h.1.1.1,h.1.1.2⟩
  ·exact fM_ r _ h.2 x hx
theorem ds_: ∀(G:List (Nat×Nat)) (L listed:Array Bool),it_ md ops G L=true->(∀k,L.getD k false=true->listed.getD k false=true)->(∀x∈G,x.2 < listed.size)->(∃x∈G,listed.getD x.2 true=false)-> ∃x∈G,x.2∈Region.ready md ops listed
 | [],_,_,_,_,_,h=> by obtain⟨x,h,_⟩:=h;cases h
 | y::r,L,listed,h,hm,hsz,hx=> by
  rw [it_,Bool.and_eq_true] at h
  by_cases hy:listed.getD y.2 true=false
  ·refine⟨y,by simp,mem_ready.2 ⟨hy, ?_⟩⟩
   cases ho:ops[y.2]? with
   | none=> rw [ho] at h;cases h.1
   | some o=>
    rw [ho] at h
    simp only [Bool.and_eq_true,beq_iff_eq,Option.isNone_iff_eq_none,Array.all_eq_true_iff_forall_mem,Bool.or_eq_true,Bool.not_eq_true'] at h
    refine⟨o,rfl,fun e he hb=> hm _ ?_⟩
    rcases h.1.2 e he with h1 | h1
    ·rw [hb] at h1;cases h1
    ·exact h1
  ·have hy':listed.getD y.2 true=true:=by simpa using hy
   obtain⟨x,hx,hx2⟩:=hx
   have hxr:x∈r:=by
    rcases List.mem_cons.1 hx with rfl | h
    ·rw [hx2] at hy';cases hy'
    ·exact h
   obtain⟨z,hz,hz2⟩:=ds_ r (L.setIfInBounds y.2 true) listed h.2 (fun k hk=> by
    by_cases hyk:y.2=k
    ·subst hyk
     have hlt:=hsz y (by simp)
     simp [hlt] at hy' ⊢
     exact hy'
    ·rw [getD_set_ne false hyk] at hk
     exact hm k hk) (fun x hx=> hsz x (List.mem_cons_of_mem _ hx)) ⟨x,hxr,hx2⟩
   exact⟨z,List.mem_cons_of_mem _ hz,hz2⟩
def cG_ (G:List (Nat×Nat)) (listed:Array Bool):Nat:=(G.filter (fun x=> !listed.getD x.2 true)).length
theorem ge_: ∀(G:List (Nat×Nat)) (listed:Array Bool) (x:Nat×Nat),x∈G->(G.map (·.2)).Nodup->listed.getD x.2 true=false->cG_ G listed=cG_ G (listed.setIfInBounds x.2 true)+1
 | [],_,_,h,_,_=> by cases h
 | y::r,listed,x,h,hn,hl=> by
  simp only [List.map_cons,List.nodup_cons] at hn
  have hlt:x.2 < listed.size:=by
   rcases Nat.lt_or_ge x.2 listed.size with h' | h'
   ·exact h'
   ·simp [Array.getElem?_eq_none h'] at hl
  rcases List.mem_cons.1 h with rfl | h
  ·have e:cG_ r (listed.setIfInBounds x.2 true)=cG_ r listed:=by
    unfold cG_
    congr 1
    apply List.filter_congr
    intro z hz
    rw [getD_set_ne true (fun e=> hn.1 (by rw [e];exact List.mem_map_of_mem hz))]
   unfold cG_ at e ⊢
   rw [List.filter_cons,List.filter_cons,hl]
   simp only [Bool.not_false,if_true,List.length_cons]
   rw [<-e]
   simp [hlt]
  ·have ih:=ge_ r listed x h hn.2 hl
   have hne:x.2≠y.2:=fun e=> hn.1 (by rw [<-e];exact List.mem_map_of_mem h)
   unfold cG_ at ih ⊢
   rw [List.filter_cons,List.filter_cons,getD_set_ne true hne]
   split
   ·rw [List.length_cons,List.length_cons,ih]
   ·exact ih
theorem iC_ {G:List (Nat×Nat)} {listed:Array Bool} (h:cG_ G listed=0): ∀x∈G,listed.getD x.2 true=true:=fun x hx=> by
 unfold cG_ at h
 rw [List.length_eq_zero_iff,List.filter_eq_nil_iff] at h
 simpa using h x hx
theorem hW_: ∀(G:List (Nat×Nat)) (x:Nat×Nat),x∈G->(G.map (·.2)).Nodup->G.find? (fun y=> y.2==x.2)=some x
 | [],_,h,_=> by cases h
 | y::r,x,hx,h=> by
  simp only [List.map_cons,List.nodup_cons] at h
  rw [List.find?_cons]
  rcases List.mem_cons.1 hx with rfl | hx
  ·simp
  ·have hne:y.2≠x.2:=fun e=> h.1 (by rw [e];exact List.mem_map_of_mem hx)
   rw [show (y.2==x.2)=false from beq_eq_false_iff_ne.2 hne]
   exact hW_ r x hx h.2
theorem il_ (G:List (Nat×Nat)) (dep:Nat->List Nat) (R:Nat->Value->World->Prop) (S2:World->Prop) {L0:Array Bool} {a0:Act} {w0:World} (n':Nat) (hn:n=n'+G.length)
  (hok:grpB md ops L0 G dep=true) (hS: ∀w,S2 w->S w) (hS2: ∀w w',S2 w->Ext [] w w'->S2 w') (h0:S2 w0) (hR: ∀x∈G,∀v w w',R x.2 v w->Ext [] w w'->R x.2 v w')
  (hspec: ∀x∈G,∀o,ops[x.2]? =some o-> ∀(vals:Nat->Value) (w:World),Ext [] w0 w->S2 w->(∀k∈dep x.2,R k (vals k) w)-> ∀K:Act->World->Prop,Hid (∀v w',Ext [] w w'->R x.2 v w'->K ((putG G vals a0).put (some x.1) v) w')->Oper.wp P o (putG G vals a0) w K Q)
  (hfin: ∀vals w,Ext [] w0 w->S2 w->(∀x∈G,R x.2 (vals x.2) w)->ab_ P md ops Q S nd n' (cV_ G L0) (putG G vals a0) w):
  ab_ P md ops Q S nd n L0 a0 w0:=by
 unfold grpB at hok
 simp only [Bool.and_eq_true,decide_eq_true_eq,List.all_eq_true,Bool.or_eq_true,Bool.not_eq_true',List.mem_range,List.contains_iff_mem] at hok
 obtain⟨⟨⟨⟨⟨h1,h2⟩,h3⟩,h4⟩,h5⟩,h6⟩:=hok
 have hcl:=da_ h3
 have aux: ∀(m:Nat) (listed:Array Bool) (vals:Nat->Value) (w:World),cG_ G listed=m->(∀k,L0.getD k true=true->listed.getD k true=true)->(∀k,L0.getD k false=true->listed.getD k false=true)->listed.size=L0.size->(∀k,k∉G.map (·.2)->listed[k]? =L0[k]?)->Closed md ops listed->(∀x∈G,listed.getD x.2 true=true->R x.2 (vals x.2) w)->Ext [] w0 w->S2 w->ab_ P md ops Q S nd (n'+m) listed (putG G vals a0) w:=by
  intro m
  induction m with
  | zero=>
   intro listed vals w hm _ _ hsz hoth _ hRl hE hS2w
   have hall:=iC_ hm
   have e:listed=cV_ G L0:=by
    apply Array.ext_getElem?
    intro k
    by_cases hk:k∈G.map (·.2)
    ·obtain⟨x,hx,rfl⟩:=List.mem_map.1 hk
     have hlt:=(h5 x hx).1.1
     rw [fQ_ G L0 _ hk hlt]
     have:=hall x hx
     have hlt':x.2 < listed.size:=by omega
     simp [hlt'] at this ⊢
     exact this
    ·rw [hoth k hk,cF_ G L0 k hk]
   rw [e]
   exact hfin vals w hE hS2w (fun x hx=> hRl x hx (hall x hx))
  | succ m ih=>
   intro listed vals w hm hmono hmonoF hsz hoth hc hRl hE hS2w
   have hex: ∃x∈G,listed.getD x.2 true=false:=by
    have hpos:0 < (G.filter (fun x=> !listed.getD x.2 true)).length:=by unfold cG_ at hm;omega
    obtain⟨x,hx⟩:=List.exists_mem_of_length_pos hpos
    rw [List.mem_filter] at hx
    exact⟨x,hx.1,by simpa using hx.2⟩
   refine⟨fun hr=> ?_,fun i hi=> ?_⟩
   ·obtain⟨x,_,hx⟩:=ds_ G L0 listed h4 hmonoF (fun x hx=> by have:=(h5 x hx).1.1;omega) hex
    rw [hr] at hx
    cases hx
   ·have hcl':=hc.step hi
    obtain⟨hiun,oi,hoi,hall⟩:=mem_ready.1 hi
    have hilt:i < ops.size:=(Array.getElem?_eq_some_iff.1 hoi).1
    have hil:i < listed.size:=by
     rcases Nat.lt_or_ge i listed.size with h' | h'
     ·exact h'
     ·simp [Array.getElem?_eq_none h'] at hiun
    have hself:(listed.setIfInBounds i true).getD i true=true:=by simp
    have hiG:i∈G.map (·.2):=by
     rcases h6 i hilt with (h | h) | h
     ·have:=hmono i h;rw [hiun] at this;cases this
     ·exact h
     ·obtain⟨x,hx,hxu⟩:=hex
      have hw:=bb_ hcl' 8 i hself (h x hx)
      by_cases hix:i=x.2
      ·exact hix ▸ List.mem_map_of_mem hx
      ·rw [getD_set_ne true hix,hxu] at hw;cases hw
    obtain⟨x,hx,rfl⟩:=List.mem_map.1 hiG
    obtain⟨o,ho,hdst,hgd⟩:=fM_ G L0 h4 x hx
    rw [hoi] at ho
    cases ho
    unfold wpOp
    rw [hoi]
    have hwant:Region.wanted oi (yielded ops (putG G vals a0).tmps)=true:=by unfold Region.wanted;rw [hgd]
    show if Region.wanted oi (yielded ops (putG G vals a0).tmps)=true then _ else _
    rw [if_pos hwant]
    refine .inl (hspec x hx oi hoi vals w hE hS2w (fun k hk=> ?_) _ (hi_ (fun v w' hE' hRv=> ⟨fun _=> hS _ (hS2 _ _ hS2w hE'), ?_⟩)))
    ·have hd:=(h5 x hx).2 k hk
     obtain⟨y,hy,rfl⟩:=List.mem_map.1 hd.1
     refine hRl y hy ?_
     have hw:=bb_ hcl' 8 x.2 hself hd.2
     by_cases hxy:x.2=y.2
     ·exfalso
      have hdw:=hd.2
      rw [<-hxy] at hdw
      -- an operation never waits for itself: its edges are listed
      have key: ∀(n j:Nat),ca_ md ops x.2 n j=true->(∀oj,ops[j]? =some oj-> ∀e∈oj.after,Region.binds md e=true->listed.getD e.on true=true)->False:=by
       intro n
       cases n with
       | zero=> intro j h;simp [ca_] at h
       | succ n=>
        intro j h hl
        rw [ca_] at h
        cases hoj:ops[j]? with
        | none=> rw [hoj] at h;cases h
        | some oj=>
         rw [hoj] at h
         obtain⟨e,he,hb⟩:=Array.any_eq_true'.1 h
         simp only [Bool.and_eq_true,Bool.or_eq_true,beq_iff_eq] at hb
         have hle:=hl oj hoj e he hb.1
         rcases hb.2 with h2 | h2
         ·rw [h2,hiun] at hle;cases hle
         ·have:=bb_ hc n e.on hle h2
          rw [hiun] at this;cases this
      refine key 8 x.2 hdw (fun oj hoj e he hb=> ?_)
      rw [hoi] at hoj
      cases hoj
      have:=hall e he hb
      rcases Nat.lt_or_ge e.on listed.size with h' | h'
      ·simp [h'] at this ⊢;exact this
      ·simp [Array.getElem?_eq_none h']
     ·rwa [getD_set_ne true hxy] at hw
    ·have hput:(putG G vals a0).put (some x.1) v=putG G (upd vals x.2 v) a0:=by
      show ({putG G vals a0 with tmps:=(putT G vals a0.tmps).setIfInBounds x.1 v}:Act)=_
      rw [fX_ G vals a0.tmps x v hx h1 h2]
      rfl
     rw [hput]
     have hcnt:=ge_ G listed x hx h2 hiun
     refine ih _ _ _ (by omega) (fun k hk=> ?_) (fun k hk=> getD_set_true (hmonoF k hk)) (by simpa using hsz) (fun k hk=> ?_) hcl' (fun y hy hyl=> ?_) (hE.trans hE') (hS2 _ _ hS2w hE')
     ·by_cases hxk:x.2=k
      ·subst hxk;exact hself
      ·rw [getD_set_ne true hxk];exact hmono k hk
     ·rw [Array.getElem?_setIfInBounds_ne (fun e=> hk (by rw [<-e];exact hiG))]
      exact hoth k hk
     ·by_cases hxy:y.2=x.2
      ·rw [hxy,show upd vals x.2 v x.2=v from if_pos rfl];exact hRv
      ·rw [show upd vals x.2 v y.2=vals y.2 from if_neg hxy]
       rw [getD_set_ne true (Ne.symm hxy)] at hyl
       exact hR y hy _ _ _ (hRl y hy hyl) hE'
 have hG0:cG_ G L0=G.length:=by
  unfold cG_
  rw [List.filter_eq_self.2 (fun x hx=> ?_)]
  simpa using (h5 x hx).1.2
 have h:=aux G.length L0 (fun i=> ((G.find? (fun x=> x.2==i)).map (fun x=> a0.tmps.getD x.1 undef)).getD undef) w0 hG0 (fun _ h=> h) (fun _ h=> h) rfl (fun _ _=> rfl) hcl (fun x hx hl=> by
  have:=(h5 x hx).1.2;rw [hl] at this;cases this) (Ext.refl _ _) h0
 have hid:putG G (fun i=> ((G.find? (fun x=> x.2==i)).map (fun x=> a0.tmps.getD x.1 undef)).getD undef) a0=a0:=by
  unfold putG
  rw [putT_id]
  intro x hx
  have hf:=hW_ G x hx h2
  show ((G.find? (fun y=> y.2==x.2)).map (fun x=> a0.tmps.getD x.1 undef)).getD undef=_
  rw [hf]
  rfl
 rw [hid] at h
 rw [hn]
 exact h
theorem aC_ (G:List (Nat×Nat)) (dep:Nat->List Nat) (R:Nat->Value->World->Prop) (S2:World->Prop) {L0:Array Bool} {a0:Act} {w0:World} (n':Nat) {A:(Nat->Value)->Act} (hn:n=n'+G.length)
  (hok:grpB md ops L0 G dep=true) (hS: ∀w,S2 w->S w) (hS2: ∀w w',S2 w->Ext [] w w'->S2 w') (h0:S2 w0) (hR: ∀x∈G,∀v w w',R x.2 v w->Ext [] w w'->R x.2 v w')
  (hA: ∀vals,putG G vals a0=A vals)
  (hspec: ∀x∈G,∀o,ops[x.2]? =some o-> ∀(vals:Nat->Value) (w:World),Ext [] w0 w->S2 w->(∀k∈dep x.2,R k (vals k) w)-> ∀K:Act->World->Prop,Hid (∀v w',Ext [] w w'->R x.2 v w'->K ((A vals).put (some x.1) v) w')->Oper.wp P o (A vals) w K Q)
  (hfin: ∀vals w,Ext [] w0 w->S2 w->(∀x∈G,R x.2 (vals x.2) w)->ab_ P md ops Q S nd n' (cV_ G L0) (A vals) w):
  ab_ P md ops Q S nd n L0 a0 w0:=
 il_ G dep R S2 n' hn hok hS hS2 h0 hR (fun x hx o ho vals w hE h2 hd K hK=> by rw [hA vals];exact hspec x hx o ho vals w hE h2 hd K (by rw [hA vals] at hK;exact hK)) (fun vals w hE h2 hall=> by rw [hA vals];exact hfin vals w hE h2 hall)
end
end Go.Proofs.YtkpgjkekmdecbaaGreat
