/- Lemmas for the claim. No conditions beside those that each states. -/
import Derived.Test.YtkpgjkekmdecbaaGreatFullAD
import Derived.BigQuiet
import Derived.Test.YtkpgjkekmdecbaaGreatFullAA
import Derived.Test.YtkpgjkekmdecbaaGreatFullAC
import Derived.WalkLawsBesides
set_option maxRecDepth 100000
set_option maxHeartbeats 8000000
set_option linter.all false

namespace Go.Proofs.YtkpgjkekmdecbaaGreat
open Go.RowKit
variable {w w':World} {T:TypeId} {n g:Nat} {S bs:List Nat} {Ts:List TypeId} {l:List Pr}
theorem eY_ {v:Value} (W0:World) (x:UInt8) (h:v= .int .u8 x.toNat) (hn:n=W0.heap.size:=by rfl):EB.Rd (W0.alloc (.cells #[v] T)) (.slice (some ⟨n,0,none⟩) 1 1) [x]:=by
 subst h hn
 refine .inr ⟨W0.heap.size,0,1,rfl,Nat.le_refl _,by simp,fun j u hj=> ?_⟩
 rw [cell_of_row _ W0.heap.size _ _ _ _ (heap_alloc_new _ _)]
 match j,hj with
 | 0,hj=> exact hj
 | j+1,hj=> simp [EB,Enc.flat] at hj
theorem or128 (m:Nat) (h:m < 256):bits BinOp.or IntKind.u8 (m:Int) 128=((m % 128+128:Nat):Int):=by
 have: ∀m:Fin 256,bits BinOp.or IntKind.u8 ((m.1:Nat):Int) 128=((m.1 % 128+128:Nat):Int):=by decide+kernel
 exact this ⟨m,h⟩
def AppB (v:Value) (ys:List UInt8) (w:World) (e:Ending) (w':World):Prop:= ∃v',e= .returned v'/\EB.Ow 5 w' v' ys/\Ext (blkL v) w w'/\Near w v v'
theorem fX_ (v:Value) (bs:List UInt8) (c:Nat) (w:World) (hv:EB.Ow 5 w v bs) (hl:bs.length<=1000000000) (hc:c < 18446744073709551616):
  Calls Tryz.prog 141 #[v,.int .u64 c] w (AppB v (bs++C_ c) w):=by
 have HV:=hi_ hv
 clear hv
 have hlen:=x_ 9 c (by omega)
 have HL:=hi_ hlen
 clear hlen
 go_enter Tryz.func141,Tryz.ntmps141
 go_wp2_with fail
 go_loopw [0,1] (fun bv cv wr=> ∃(c1:Nat) (b1:List UInt8),c1 < 18446744073709551616/\cv= .int .u64 c1/\Hid (EB.Ow 5 wr bv b1)/\Hid (b1++C_ c1=bs++C_ c)/\Hid (Ext (blkL v) w wr/\Near w v bv)) (fun _ cv _=> (intOf cv).toNat)
 case atStart=> exact⟨c,bs,hc,rfl,HV,hi_ rfl,hi_ ⟨Ext.refl _ _,fun g hg=> .inl hg⟩⟩
 case round=>
  obtain⟨c1,b1,hc1,rfl,HB,HS,HE⟩:=hrel
  have hb1:b1.length<=1000000010:=by
   have h1:=congrArg List.length HS.out
   have h2:=HL.out
   simp only [List.length_append] at h1
   omega
  obtain⟨p,cap,hbv,_⟩:=HB.out.rd.len_eq
  subst hbv
  by_cases h:128<=c1
  ·have z1: ¬((c1:Int) < 128):=by omega
   have hb:bits BinOp.or IntKind.u8 ((c1:Int) % 256) 128=((c1 % 128+128:Nat):Int):=by
    have h1:=or128 (c1 % 256) (by omega)
    rw [show ((c1:Int) % 256)=((c1 % 256:Nat):Int) by omega,h1]
    omega
   go_wp2_with (with_reducible refine f_ (d:=14) ?_)
   refine m_ rfl fun K hK=> b_ (E:=EB) (T:=5) (zero:=0) (bytes:=1) (v:= .slice p b1.length cap) (xs:=b1) (ys:= [UInt8.ofNat (c1 % 128+128)]) tiB Tryz.underlying158 Tryz.underlying158 rfl rfl rfl (HB.out.ext0 ((Ext.refl [] wr).alloc _)) (eY_ wr _ (by rw [UInt8.toNat_ofNat'];congr 1;omega)) (by simp;omega) (by simp;omega) ?_
   intro v2 w2 how hext hnear hnn
   obtain⟨p2,cap2,hv2,_⟩:=how.rd.len_eq
   rw [List.length_append,List.length_singleton] at hv2
   subst hv2
   have HO2:=hi_ how
   have HE2:Hid (Ext (blkL v) w w2/\Near w v (.slice p2 (b1.length+1) cap2)):=hi_ ⟨HE.out.1.trans' (((Ext.refl [] wr).alloc _).nil.trans hext) (fun x hx=> .inl hx) (fun x hx=> HE.out.2 x hx),fun x hx=> by
    rcases hnear x hx with h1 | h1
    ·exact HE.out.2 x h1
    ·have:=HE.out.1.size
     simp at h1
     omega⟩
   clear how hext hnear hnn hb
   refine hK _ _ ?_
   clear hK
   go_wp2_with fail
   go_roundw
   case rel=>
    have e:=HS.out
    rw [as_ h] at e
    exact⟨c1 / 128,b1++ [UInt8.ofNat (c1 % 128+128)],by omega,by go_num,HO2,hi_ (by rw [List.append_assoc];exact e),HE2⟩
   case measure=> simp [intOf];omega
  ·have z1:((c1:Int) < 128):=by omega
   go_wp2_with (with_reducible refine f_ (d:=19) ?_)
   refine m_ rfl fun K hK=> b_ (E:=EB) (T:=5) (zero:=0) (bytes:=1) (v:= .slice p b1.length cap) (xs:=b1) (ys:= [UInt8.ofNat c1]) tiB Tryz.underlying158 Tryz.underlying158 rfl rfl rfl (HB.out.ext0 ((Ext.refl [] wr).alloc _)) (eY_ wr _ (by rw [UInt8.toNat_ofNat'];congr 1;omega)) (by simp;omega) (by simp;omega) ?_
   intro v2 w2 how hext hnear hnn
   refine hK _ _ ?_
   clear hK
   go_wp2
   go_ret
   have e:=HS.out
   rw [w_ (by omega)] at e
   rw [e] at how
   exact⟨v2,rfl,how,HE.out.1.trans' (((Ext.refl [] wr).alloc _).nil.trans hext) (fun x hx=> .inl hx) (fun x hx=> HE.out.2 x hx),fun x hx=> by
    rcases hnear x hx with h1 | h1
    ·exact HE.out.2 x h1
    ·have:=HE.out.1.size
     simp at h1
     omega⟩
theorem p_ {w a b:World} {v v':Value} (h:Ext [] w a) (hv: ∀g∈blkL v,w.heap.size<=g) (k:Ext (blkL v) a b) (n:Near a v v'):Ext [] w b/\ ∀g∈blkL v',w.heap.size<=g:=by
 refine⟨h.trans' k (by simp) (fun x hx=> .inr (hv x hx)),fun g hg=> ?_⟩
 rcases n g hg with h1 | h1
 ·exact hv g h1
 ·have:=h.size;omega
theorem encI_len (x:Itm) (hg:GoodI x):(encI x).length<=4012:=by
 cases x with
 | num n=>
  have h:n<=4611686018427387903:=hg
  have:=x_ 9 (2*n) (by omega)
  simp only [encI,List.length_cons]
  omega
 | txt s=>
  have h:s.length<=4000:=hg
  have:=x_ 9 s.length (by omega)
  simp only [encI,List.length_cons,List.length_append]
  omega
theorem hU_ (l:List Itm) (hg: ∀x∈l,GoodI x):(encL l).length<=4012*l.length:=by
 induction l with
 | nil=> simp [encL]
 | cons a l ih=>
  rw [s_,List.length_append,List.length_cons]
  have h1:=encI_len a (hg a (by simp))
  have h2:=ih (fun x hx=> hg x (List.mem_cons_of_mem _ hx))
  omega
theorem xor0 (m:Nat) (h:m < 18446744073709551616):bits BinOp.xor IntKind.u64 (m:Int) 0=(m:Int):=by
 simp [bits,IntKind.wrap,IntKind.bits,IntKind.signed]
 show (((BitVec.ofNat 64 m ^^^ 0#64:BitVec 64).toNat:Int) % 18446744073709551616)=m
 rw [BitVec.xor_zero,BitVec.toNat_ofNat]
 omega
def NewB (ys:List UInt8) (w:World) (e:Ending) (w':World):Prop:= ∃u,e= .returned (.tuple #[u,.int .i64 0])/\EB.Ow 5 w' u ys/\Ext [] w w'/\ ∀g∈blkL u,w.heap.size<=g
theorem hT_ (v:Value) (l:List Itm) (w:World) (hv:EIt.Rd w v (l.map itmV)) (hg:gt_ l):Calls Tryz.prog 104 #[v] w (NewB (encL l) w):=by
 have hck:=pkcheck_c v l w hv hg
 obtain⟨p,cap,rfl,_⟩:=hv.len_eq
 obtain⟨HV,HG,HC⟩:=h_3 hv hg hck
 have hl:=hg.1
 rw [List.length_map] at HV HC ⊢
 obtain⟨n,hn⟩: ∃n,n=l.length:=⟨_,rfl⟩
 rw [<-hn] at HV hl HC ⊢
 have HN:=hi_ hn
 clear hv hg hn hck
 go_enter Tryz.func104,Tryz.ntmps104
 go_wp2_with fail
 refine HC.out.mono ?_
 rintro e W1 ⟨rfl,hE1⟩
 go_wp2_with fail
 go_loopw [5,7,15] (fun bv _ iv wr=> ∃i:Nat,i<=n/\iv= .int .i64 i/\Hid (EB.Ow 5 wr bv (encL (l.take i)))/\Hid (Ext [] w wr/\ ∀g∈blkL bv,w.heap.size<=g)) (fun _ _ iv _=> n - (intOf iv).toNat)
 case atStart=> exact⟨0,Nat.zero_le _,rfl,hi_ (.inl ⟨rfl,rfl⟩),hi_ ⟨hE1,by simp [blkL]⟩⟩
 case round=>
  obtain⟨i,hi,rfl,HB,HE⟩:=hrel
  obtain⟨pb,cb,hbv,_⟩:=HB.out.rd.len_eq
  subst hbv
  have hbl:(encL (l.take i)).length<=8024000:=by
   have h1:=hU_ (l.take i) (fun x hx=> HG.out.2 x (List.mem_of_mem_take hx))
   rw [List.length_take] at h1
   omega
  by_cases hlt:i < n
  ·have z1:(i:Int) < (n:Int):=by omega
   have hil:i < l.length:=by rw [<-HN.out];exact hlt
   obtain⟨g,o,rfl⟩: ∃g o,p=some ⟨g,o,none⟩:=by
    rcases HV.out with ⟨h,_⟩ | ⟨g,o,c,h,_⟩
    ·simp at h;omega
    ·simp only [Value.slice.injEq] at h;exact⟨g,o,h.1⟩
   have hc:=aO_ (HV.out.ext0 HE.out.1) i (by rw [List.length_map];exact hil)
   have hx:(l.map itmV).getD i I0=itmV l[i]:=by simp [List.getD,hil]
   rw [hx] at hc
   have hT:encL (l.take (i+1))=encL (l.take i)++encI l[i]:=by
    rw [List.take_succ_eq_append_getElem hil,bB_,s_]
    simp [encL]
   have hgx:=HG.out.2 l[i] (List.getElem_mem hil)
   obtain⟨x,hx⟩: ∃x,x=l[i]:=⟨_,rfl⟩
   rw [<-hx] at hc hT hgx
   obtain⟨B,hB⟩: ∃B,B=encL (l.take i):=⟨_,rfl⟩
   rw [<-hB] at HB HE hT hbl
   simp only [<-hB]
   have HT:=hi_ hT
   clear hx hT hB
   cases x with
   | num q=>
    have hq:q<=4611686018427387903:=hgx
    obtain⟨m1,m2,m3⟩:=hc
    simp only [itmV] at m1 m2 m3
    go_wp2_with (with_reducible refine f_ (d:=24) ?_)
    obtain⟨bx,hbx⟩: ∃b,b=wr.heap.size:=⟨_,rfl⟩
    have hEb:Ext [] wr (wr.alloc (.cells #[.int .i64 1,.int .i64 q,.string ⟨#[]⟩] 215)):=(Ext.refl [] wr).alloc _
    have hb0:=heap_alloc_new wr (.cells #[.int .i64 1,.int .i64 q,.string ⟨#[]⟩] 215)
    have hnb: ∀x∈blkL (.slice pb B.length cb),x < wr.heap.size:=HB.out.lt
    refine m_ rfl fun K hK=> b_ (E:=EB) (T:=5) (zero:=0) (bytes:=1) (v:= .slice pb B.length cb) (xs:=B) (ys:= [1]) tiB Tryz.underlying158 Tryz.underlying158 rfl rfl rfl (HB.out.ext0 (hEb.alloc _)) (eY_ _ _ rfl (by simp)) (by simp;omega) (by simp;omega) ?_
    intro v2 w2 how hext hnear hnn
    obtain⟨p2,cap2,hv2,_⟩:=how.rd.len_eq
    rw [List.length_append,List.length_singleton] at hv2
    subst hv2
    have HB2:=hi_ how
    have HE2:=hi_ (p_ (HE.out.1.trans (hEb.alloc _)) HE.out.2 hext hnear)
    have hb2:=hext.blk (((Ext.refl [] _).alloc _).blk hb0 (by simp)) (fun h=> by have:=hnb _ h;omega)
    clear how hext hnear hnn hb0 hEb
    refine hK _ _ ?_
    clear hK
    have k1:w2.cell? ⟨wr.heap.size,0,none⟩=some (.int .i64 1):=by rw [cell_of_row w2 _ 0 _ _ _ hb2];rfl
    have k2:w2.cell? ⟨wr.heap.size,1,none⟩=some (.int .i64 q):=by rw [cell_of_row w2 _ 1 _ _ _ hb2];rfl
    clear hb2 m1 m2 m3
    have hxr:bits BinOp.xor IntKind.u64 ((q:Int)*2) ((q:Int) / 9223372036854775808)=((2*q:Nat):Int):=by
     have:=xor0 (2*q) (by omega)
     rw [show (q:Int) / 9223372036854775808=0 by omega,show (q:Int)*2=((2*q:Nat):Int) by omega,this]
    go_wp2_with fail
    refine(fX_ _ (B++ [1]) (2*q) _ HB2.out (by simp;omega) (by omega)).mono ?_
    rintro e W3 ⟨v3,rfl,how,hext,hnear⟩
    obtain⟨p3,cap3,hv3,_⟩:=how.rd.len_eq
    have el:(B++ [1]++C_ (2*q))=B++encI (.num q):=by simp [encI]
    rw [el] at how hv3
    rw [<-HT.out] at how hv3
    subst hv3
    have HE3:=hi_ (p_ HE2.out.1 HE2.out.2 hext hnear)
    have HB3:=hi_ how
    clear how hext hnear el hxr k1 k2
    go_wp2_with fail
    go_roundw
    case rel=> exact⟨i+1,by omega,by go_num,HB3,HE3⟩
    case measure=> simp [intOf];omega
   | txt s=>
    have hs:s.length<=4000:=hgx
    obtain⟨m1,m2,m3⟩:=hc
    simp only [itmV] at m1 m2 m3
    go_wp2_with (with_reducible refine f_ (d:=24) ?_)
    have hEb:Ext [] wr (wr.alloc (.cells #[.int .i64 2,.int .i64 0,.string ⟨s.toArray⟩] 215)):=(Ext.refl [] wr).alloc _
    have hb0:=heap_alloc_new wr (.cells #[.int .i64 2,.int .i64 0,.string ⟨s.toArray⟩] 215)
    have hnb: ∀x∈blkL (.slice pb B.length cb),x < wr.heap.size:=HB.out.lt
    refine m_ rfl fun K hK=> b_ (E:=EB) (T:=5) (zero:=0) (bytes:=1) (v:= .slice pb B.length cb) (xs:=B) (ys:= [2]) tiB Tryz.underlying158 Tryz.underlying158 rfl rfl rfl (HB.out.ext0 (hEb.alloc _)) (eY_ _ _ rfl (by simp)) (by simp;omega) (by simp;omega) ?_
    intro v2 w2 how hext hnear hnn
    obtain⟨p2,cap2,hv2,_⟩:=how.rd.len_eq
    rw [List.length_append,List.length_singleton] at hv2
    subst hv2
    have HB2:=hi_ how
    have HE2:=hi_ (p_ (HE.out.1.trans (hEb.alloc _)) HE.out.2 hext hnear)
    have hb2:=hext.blk (((Ext.refl [] _).alloc _).blk hb0 (by simp)) (fun h=> by have:=hnb _ h;omega)
    have hl2: ∀x∈blkL (.slice p2 (B.length+1) cap2),x≠wr.heap.size:=fun x hx=> by
     rcases hnear x hx with h | h
     ·have:=hnb x h;omega
     ·simp at h;omega
    clear how hext hnear hnn hb0 hEb
    refine hK _ _ ?_
    clear hK
    have k1:w2.cell? ⟨wr.heap.size,0,none⟩=some (.int .i64 2):=by rw [cell_of_row w2 _ 0 _ _ _ hb2];rfl
    have k3:w2.cell? ⟨wr.heap.size,2,none⟩=some (.string ⟨s.toArray⟩):=by rw [cell_of_row w2 _ 2 _ _ _ hb2];rfl
    clear hb2 m1 m2 m3
    obtain⟨bx,hbx⟩: ∃b,b=wr.heap.size:=⟨_,rfl⟩
    rw [<-hbx] at k1 k3 hl2
    simp only [<-hbx]
    clear hbx hnb
    go_wp2_with fail
    have hD:=(Ext.refl [] w2).drew
    have hwr:IntKind.u64.wrap (s.length:Int)=(s.length:Int):=by simp [IntKind.wrap,IntKind.bits,IntKind.signed];omega
    refine e_ (fun W=> W.cell? ⟨bx,2,none⟩=some (.string ⟨s.toArray⟩)) (fun i=> i==2 || i==5 || i==7) (by kernel_rfl) (hD.cell k3 (by simp)) (fun hS=> ?_)
    refine PUq 0 ?_;(try go_frame)
    refine PUq 1 ?_;(try go_frame)
    refine PUq 6 ?_;(try go_frame)
    refine ta 2 ?_;(try go_frame)
    refine PUq 3 ?_;(try go_frame)
    refine PUq 4 ?_;(try go_frame)
    refine ta 7 ?_;(try go_frame)
    refine a_ (i:=5) (by kernel_rfl) rfl (fun K hK=> ?_)
    (try simp only [Act.put,zA,zB,zC,List.setIfInBounds_toArray,zD,zE]);refine iw rfl ?_
    go_simp
    refine(fX_ _ (B++ [2]) s.length _ (HB2.out.ext0 hD) (by simp;omega) (by omega)).mono ?_
    rintro e W3 ⟨v3,rfl,how,hext,hnear⟩
    obtain⟨p3,cap3,hv3,_⟩:=how.rd.len_eq
    subst hv3
    have s3:=hext.cell hS (fun h=> hl2 _ h rfl)
    have HE3:=hi_ (p_ (HE2.out.1.trans hD) HE2.out.2 hext hnear)
    have HB3:=hi_ how
    refine hK.out _ _ (fun _=> s3) (fun _=> ?_)
    clear hK how hext hnear hS s3 hwr
    refine a_ (i:=8) (by kernel_rfl) rfl (fun K hK=> ?_)
    (try simp only [Act.put,zA,zB,zC,List.setIfInBounds_toArray,zD,zE]);refine iw rfl ?_
    refine dW_ (s:= .tmp 44) (x:= .tmp 46) (T:=5) (v:= .slice p3 (B++ [2]++C_ s.length).length cap3) (xs:=B++ [2]++C_ s.length) (ys:=s) tiB Tryz.underlying158 Tryz.underlying9 rfl rfl rfl HB3.out (by have:=x_ 9 s.length (by omega);simp;omega) ?_
    intro v4 w4 how hext hnear _
    have el:(B++ [2]++C_ s.length++s)=B++encI (.txt s):=by simp [encI]
    rw [el,<-HT.out] at how
    obtain⟨p4,cap4,hv4,_⟩:=how.rd.len_eq
    subst hv4
    have HE4:=hi_ (p_ HE3.out.1 HE3.out.2 hext hnear)
    have HB4:=hi_ how
    refine nk hK ?_
    clear hK how hext hnear el
    refine PUq 9 ?_;(try go_frame)
    refine c_ (by kernel_rfl) ?_ _
    go_wp2_with fail
    go_roundw
    case rel=> exact⟨i+1,by omega,by go_num,HB4,HE4⟩
    case measure=> simp [intOf];omega
  ·obtain rfl:i=n:=by omega
   have z1: ¬((i:Int) < (i:Int)):=by omega
   have e:encL (l.take i)=encL l:=by rw [List.take_of_length_le (by rw [<-HN.out];exact Nat.le_refl _)]
   rw [e] at HB HE
   simp only [e]
   clear e
   go_wp2
   go_ret2
   exact⟨_,rfl,HB.out,HE.out⟩
theorem or64 (a b:Nat) (ha:a < 18446744073709551616) (hb:b < 18446744073709551616):bits BinOp.or IntKind.u64 (a:Int) (b:Int)=((a ||| b:Nat):Int):=by
 have hab:a ||| b < 2 ^ 64:=Nat.or_lt_two_pow (by simpa using ha) (by simpa using hb)
 simp [bits,IntKind.wrap,IntKind.bits,IntKind.signed]
 show (((BitVec.ofNat 64 a ||| BitVec.ofNat 64 b:BitVec 64).toNat:Int) % 18446744073709551616)=_
 rw [BitVec.toNat_or,BitVec.toNat_ofNat,BitVec.toNat_ofNat,Nat.mod_eq_of_lt (by simpa using ha),Nat.mod_eq_of_lt (by simpa using hb)]
 omega
theorem and127 (m:Nat) (h:m < 256):bits BinOp.and IntKind.u8 (m:Int) 127=((m % 128:Nat):Int):=by
 have: ∀m:Fin 256,bits BinOp.and IntKind.u8 ((m.1:Nat):Int) 127=((m.1 % 128:Nat):Int):=by decide+kernel
 exact this ⟨m,h⟩
theorem cnt_or (acc x i:Nat) (hi:i<=8) (hx:x < 256) (ha:acc < 2 ^ (7*i)):bits BinOp.or IntKind.u64 (acc:Int) (IntKind.u64.wrap (IntKind.u64.wrap (bits BinOp.and IntKind.u8 (x:Int) 127)*2 ^ (7*i)))=((acc+x % 128*2 ^ (7*i):Nat):Int):=by
 have h56:2 ^ (7*i)<=2 ^ 56:=Nat.pow_le_pow_right (by omega) (by omega)
 have hw: ∀m:Nat,m < 18446744073709551616->IntKind.u64.wrap (m:Int)=(m:Int):=fun m hm=> by simp [IntKind.wrap,IntKind.bits,IntKind.signed];omega
 have hm:x % 128*2 ^ (7*i) < 18446744073709551616:=by
  have h1:x % 128*2 ^ (7*i)<=127*2 ^ 56:=Nat.mul_le_mul (by omega) h56
  omega
 rw [and127 x hx,hw _ (by omega)]
 have e:((x % 128:Nat):Int)*2 ^ (7*i)=((x % 128*2 ^ (7*i):Nat):Int):=by simp
 have h2:=or_add acc (x % 128) i ha
 rw [Nat.shiftLeft_eq] at h2
 rw [e,hw _ hm,or64 _ _ (by omega) hm,h2]
def CntPost (c:Nat) (rest:List UInt8) (v:Value) (w:World) (e:Ending) (w':World):Prop:=
 ∃u,e= .returned (.tuple #[.int .u64 c,u,.bool true])/\EB.Rd w' u rest/\(∀g∈blkL u,g∈blkL v)/\Ext [] w w'/\ ∃g o c',u= .slice (some ⟨g,o,none⟩) rest.length c'
theorem gm_ (v:Value) (c:Nat) (rest:List UInt8) (w:World) (hv:EB.Rd w v (C_ c++rest)) (hc:c < 9223372036854775808) (hl:rest.length<=1000000):
  Calls Tryz.prog 173 #[v] w (CntPost c rest v w):=by
 have hlen:=x_ 8 c (by omega)
 obtain⟨HV,HL⟩:=h_2 hv hlen
 obtain⟨g,o,cap,rfl,hcap,hg⟩: ∃g o cap,v= .slice (some ⟨g,o,none⟩) (C_ c++rest).length cap/\(C_ c++rest).length<=cap/\g < w.heap.size:=by
  rcases hv with ⟨_,h⟩ | ⟨g,o,cap,h1,h2,h3,_⟩
  ·have h5:=congrArg List.length h;rw [List.length_append,List.length_nil] at h5;omega
  ·exact⟨g,o,cap,h1,h2,h3⟩
 obtain⟨n,hn⟩: ∃n,n=(C_ c++rest).length:=⟨_,rfl⟩
 rw [<-hn] at HV hcap ⊢
 have hn2:n=(C_ c).length+rest.length:=by rw [hn,List.length_append]
 obtain⟨HN,HN2⟩:=h_2 hn hn2
 have hnb:n<=2000000:=by omega
 clear hv hlen hn hn2
 go_enter Tryz.func173,Tryz.ntmps173
 go_wp2_with fail
 go_loopw [5,6,7,10] (fun av _ _ iv wr=> ∃(i acc rem:Nat) (pre:List UInt8),iv= .int .i64 i/\av= .int .u64 acc/\i<=8/\pre.length=i/\Hid (C_ c=pre++C_ rem)/\Hid (acc+rem*2 ^ (7*i)=c)/\Hid (acc < 2 ^ (7*i))/\(0 < i->0 < rem)/\wr=w) (fun _ _ _ iv _=> 100 - (intOf iv).toNat)
 case atStart=> exact⟨0,0,c,[],rfl,rfl,by omega,rfl,hi_ rfl,hi_ (by simp),hi_ (by simp),by omega,rfl⟩
 case round=>
  obtain⟨i,acc,rem,pre,rfl,rfl,hi,hpre,HS,HA,HAl,hpos,rfl⟩:=hrel
  have hlr:1<=(C_ rem).length/\(C_ c).length=i+(C_ rem).length:=by
   have h1:=congrArg List.length HS.out
   rw [List.length_append,hpre] at h1
   refine⟨?_,h1⟩
   by_cases h:rem < 128
   ·rw [w_ h];simp
   ·rw [as_ (by omega)];simp
  have z1:(i:Int) < (n:Int):=by have:=HN2.out;omega
  have hrem:rem<=c:=by
   have h1:=HA.out
   have h2:rem*1<=rem*2 ^ (7*i):=Nat.mul_le_mul_left _ (Nat.one_le_two_pow)
   omega
  by_cases h:rem < 128
  ·have hx:wr.cell? ⟨g,o+i,none⟩=some (.int .u8 rem):=by
    have h1:=bF_ HV.out i (by rw [<-HN.out];omega)
    have e:(C_ c++rest).getD i 0=UInt8.ofNat rem:=by
     rw [HS.out,w_ h,List.append_assoc]
     simp [List.getD,hpre]
    rw [h1,e,UInt8.toNat_ofNat',Nat.mod_eq_of_lt (by omega)]
   have z2:((i:Int)==10)=false:=beq_eq_false_iff_ne.2 (by omega)
   have z3:((i:Int)==9)=false:=beq_eq_false_iff_ne.2 (by omega)
   have z4:((rem:Int) < 128):=by omega
   have z6:(i:Int)+1<=(n:Int):=by omega
   have z7:(i:Int)+1<=(cap:Int):=by omega
   have hor:=cnt_or acc rem i (by omega) (by omega) HAl.out
   rw [Nat.mod_eq_of_lt h,HA.out] at hor
   have fin: ∀nq:Nat,CntPost c rest (.slice (some ⟨g,o,none⟩) n cap) wr (.returned (.tuple #[.int .u64 c,.slice (if cap=i+1 then some ⟨g,o,none⟩ else some ⟨g,o+(i+1),none⟩) (n - (i+1)) (cap - (i+1)),.bool true])) (wr.drewN nq):=by
    intro nq
    have hE:Ext [] wr (wr.drewN nq):=(Ext.refl [] wr).drewN nq
    have h1:=(HV.out.ext0 hE).dropS2 (k:=i+1)
    have e:(C_ c++rest).drop (i+1)=rest:=by
     rw [HS.out,w_ h,List.append_assoc,<-hpre,List.drop_length_add_append]
     rfl
    rw [e] at h1
    have en:n - (i+1)=rest.length:=by
     have h1:=HN2.out
     rw [HS.out,w_ h,List.length_append,hpre] at h1
     simp at h1
     omega
    refine⟨_,rfl, ?_, ?_,hE, ?_⟩
    ·simpa [EB] using h1
    ·split <;> simp [blkL]
    ·rw [en]
     split
     ·exact⟨_,_,_,rfl⟩
     ·exact⟨_,_,_,rfl⟩
   have FIN:=hi_ fin
   clear fin
   by_cases hi0:i=0
   ·have z8: ¬((0:Int) < (i:Int)):=by omega
    clear hi0
    go_wp2_with fail
    go_quiet (fail)
    go_wp2_with fail
    all_goals
     go_ret3
     have h1:=FIN.out nq
     simp_all
   ·have z5:((rem:Int)==0)=false:=beq_eq_false_iff_ne.2 (by have:=hpos (by omega);omega)
    have z8:(0:Int) < (i:Int):=by omega
    clear hi0
    go_wp2_with fail
    go_quiet (fail)
    go_wp2_with fail
    all_goals
     go_ret3
     have h1:=FIN.out nq
     simp_all
  ·have hx:wr.cell? ⟨g,o+i,none⟩=some (.int .u8 ((rem % 128+128:Nat):Int)):=by
    have h1:=bF_ HV.out i (by rw [<-HN.out];omega)
    have e:(C_ c++rest).getD i 0=UInt8.ofNat (rem % 128+128):=by
     rw [HS.out,as_ (by omega),List.append_assoc]
     simp [List.getD,hpre]
    rw [h1,e,UInt8.toNat_ofNat',Nat.mod_eq_of_lt (by omega)]
   have hi7:i+1<=8:=by
    have h1:=HL.out
    have h2:=hlr.2
    rw [as_ (show 128<=rem by omega),List.length_cons] at h2
    have h3:1<=(C_ (rem / 128)).length:=by
     by_cases h:rem / 128 < 128
     ·rw [w_ h];simp
     ·rw [as_ (by omega)];simp
    omega
   obtain⟨x,hxx⟩: ∃x,x=rem % 128+128:=⟨_,rfl⟩
   rw [<-hxx] at hx
   have z2:((i:Int)==10)=false:=beq_eq_false_iff_ne.2 (by omega)
   have z3:((i:Int)==9)=false:=beq_eq_false_iff_ne.2 (by omega)
   have z4: ¬((x:Int) < 128):=by omega
   have z5:((x:Int)==0)=false:=beq_eq_false_iff_ne.2 (by omega)
   have hor:=cnt_or acc x i (by omega) (by omega) HAl.out
   rw [show x % 128=rem % 128 by omega] at hor
   have hP:2 ^ (7*(i+1))=128*2 ^ (7*i):=by rw [Nat.mul_add,Nat.pow_add,Nat.mul_comm]
   have hA2:acc+rem % 128*2 ^ (7*i)+rem / 128*2 ^ (7*(i+1))=c:=by
    rw [hP,<-HA.out,Nat.add_assoc,<-Nat.mul_assoc,<-Nat.add_mul]
    congr 2
    omega
   have hL2:acc+rem % 128*2 ^ (7*i) < 2 ^ (7*(i+1)):=by
    have h1:=HAl.out
    have h2:rem % 128*2 ^ (7*i)<=127*2 ^ (7*i):=Nat.mul_le_mul_right _ (by omega)
    rw [hP]
    omega
   have hS2:C_ c=(pre++ [UInt8.ofNat (rem % 128+128)])++C_ (rem / 128):=by rw [HS.out,as_ (by omega),List.append_assoc];rfl
   have hR2:0 < rem / 128:=by omega
   obtain⟨HA2,HL2,HS2,HR2,HI7⟩:=h_5 hA2 hL2 hS2 hR2 hi7
   obtain⟨A2,hA2e⟩: ∃a,a=acc+rem % 128*2 ^ (7*i):=⟨_,rfl⟩
   rw [<-hA2e] at HA2 HL2 hor
   clear hA2 hL2 hS2 hR2 hP hi7 hxx hA2e
   by_cases hi0:i=0
   ·have z8: ¬((0:Int) < (i:Int)):=by omega
    clear hi0
    go_wp2_with fail
    go_roundw
    case rel=> exact⟨i+1,A2,rem / 128,pre++ [UInt8.ofNat (rem % 128+128)],by go_num,rfl,HI7.out,by simp [hpre],HS2,HA2,HL2,fun _=> HR2.out,trivial⟩
    case measure=> simp [intOf];omega
   ·have z8:(0:Int) < (i:Int):=by omega
    clear hi0
    go_wp2_with fail
    go_roundw
    case rel=> exact⟨i+1,A2,rem / 128,pre++ [UInt8.ofNat (rem % 128+128)],by go_num,rfl,HI7.out,by simp [hpre],HS2,HA2,HL2,fun _=> HR2.out,trivial⟩
    case measure=> simp [intOf];omega
def q_ (w:World) (y:Nat):Option TypeId:=match w.heap[y]? with
 | some (.cells _ T _)=> some T
 | _=> none
theorem d_ {y:Nat} {c:Array Value} {x:Nat×Nat} (h:w.heap[y]? =some (.cells c T x)):q_ w y=some T:=by simp [q_,h]
def ExtT (bs:List Nat) (Ts:List TypeId) (w w':World):Prop:= ∃S,Ext S w w'/\ ∀y∈S,y∈bs\/ ∃T∈Ts,q_ w y=some T/\ ∃b∈bs,b<=y
theorem ExtT.of (h:Ext S w w') (hs: ∀y∈S,y∈bs\/(∃T∈Ts,q_ w y=some T/\ ∃b∈bs,b<=y)\/w.heap.size<=y):ExtT bs Ts w w':=by
 refine⟨S.filter (fun y=> decide (y < w.heap.size)),h.mono (fun x hx=> ?_),fun y hy=> ?_⟩
 ·by_cases hl:x < w.heap.size
  ·exact .inl (by simp [hx,hl])
  ·exact .inr (by omega)
 ·simp at hy
  rcases hs y hy.1 with h | h | h
  ·exact .inl h
  ·exact .inr h
  ·omega
theorem ExtT.of0 (h:Ext [] w w'):ExtT bs Ts w w':=⟨[],h,by simp⟩
theorem ExtT.refl (bs:List Nat) (Ts:List TypeId) (w:World):ExtT bs Ts w w:= .of0 (Ext.refl _ _)
theorem ExtT.size (h:ExtT bs Ts w w'):w.heap.size<=w'.heap.size:=by obtain⟨S,h,_⟩:=h;exact h.size
theorem ExtT.trans' {bs bs' bs'':List Nat} {Ts Ts' Ts'':List TypeId} {a b c:World} (h:ExtT bs Ts a b) (k:ExtT bs' Ts' b c) (h1: ∀x∈bs,x∈bs''\/a.heap.size<=x) (h2: ∀x∈bs',x∈bs''\/a.heap.size<=x) (t1: ∀T∈Ts,T∈Ts'') (t2: ∀T∈Ts',T∈Ts''):ExtT bs'' Ts'' a c:=by
 obtain⟨S,hS,hs⟩:=h
 obtain⟨S',hS',hs'⟩:=k
 refine .of (S:=S++S') (hS.trans' hS' (fun x hx=> .inl (by simp [hx])) (fun x hx=> .inl (by simp [hx]))) (fun y hy=> ?_)
 have up1:(∃b∈bs,b<=y)->(∃b∈bs'',b<=y)\/a.heap.size<=y:=fun⟨b,hb,hby⟩=> by
  rcases h1 b hb with h | h
  ·exact .inl ⟨b,h,hby⟩
  ·exact .inr (by omega)
 have up2:(∃b∈bs',b<=y)->(∃b∈bs'',b<=y)\/a.heap.size<=y:=fun⟨b,hb,hby⟩=> by
  rcases h2 b hb with h | h
  ·exact .inl ⟨b,h,hby⟩
  ·exact .inr (by omega)
 by_cases hin:y∈S
 ·rcases hs y hin with h | ⟨T,h,h',h''⟩
  ·rcases h1 y h with h | h
   ·exact .inl h
   ·exact .inr (.inr h)
  ·rcases up1 h'' with h3 | h3
   ·exact .inr (.inl ⟨T,t1 T h,h',h3⟩)
   ·exact .inr (.inr h3)
 ·have hy':y∈S':=by simpa [hin] using hy
  rcases hs' y hy' with h | ⟨T,h,h',h''⟩
  ·rcases h2 y h with h | h
   ·exact .inl h
   ·exact .inr (.inr h)
  ·by_cases hl:y < a.heap.size
   ·rcases up2 h'' with h3 | h3
    ·refine .inr (.inl ⟨T,t2 T h, ?_,h3⟩)
     rw [q_] at h' ⊢
     rwa [hS.block y hl hin] at h'
    ·omega
   ·exact .inr (.inr (by omega))
theorem ExtT.trans {a b c:World} (h:ExtT bs Ts a b) (k:ExtT bs Ts b c):ExtT bs Ts a c:=h.trans' k (fun _ h=> .inl h) (fun _ h=> .inl h) (fun _ h=> h) (fun _ h=> h)
theorem ExtT.mono {bs bs':List Nat} {Ts Ts':List TypeId} {a b:World} (h:ExtT bs Ts a b) (hs: ∀x∈bs,x∈bs'\/a.heap.size<=x) (ht: ∀T∈Ts,T∈Ts'):ExtT bs' Ts' a b:=
 h.trans' (ExtT.refl [] [] b) hs (by simp) ht (by simp)
theorem ExtT.blk (h:ExtT bs Ts w w') {c:Array Value} {x:Nat×Nat} (hg:w.heap[g]? =some (.cells c T x)) (hn:g∉bs) (hT:T∉Ts):w'.heap[g]? =some (.cells c T x):=by
 obtain⟨S,hS,hs⟩:=h
 refine hS.blk hg (fun hy=> ?_)
 rcases hs g hy with h | ⟨T',h,h',_⟩
 ·exact hn h
 ·rw [d_ hg] at h'
  cases h'
  exact hT h
theorem Enc.Ow.extT {α:Type} {E:Enc α} {v:Value} {xs:List α} (h:E.Ow T w v xs) (he:ExtT bs Ts w w') (hn: ∀g∈blkL v,g∉bs) (hT:T∉Ts):E.Ow T w' v xs:=by
 obtain⟨S,hS,hs⟩:=he
 refine h.ext hS (fun y hy hy2=> ?_)
 obtain⟨c,hc⟩:=h.tag y hy
 rcases hs y hy2 with h | ⟨T',h,h',_⟩
 ·exact hn y hy h
 ·rw [d_ hc] at h'
  cases h'
  exact hT h
theorem Z_: ∀(x y:List UInt8),Op.bytesLess x y=decide (x < y)
 | [],[]=> by simp [Op.bytesLess]
 | _::_,[]=> by simp [Op.bytesLess]
 | [],_::_=> by simp [Op.bytesLess]
 | a::x,b::y=> by
  rw [Op.bytesLess,Z_ x y]
  simp only [List.cons_lt_cons_iff]
  by_cases h1:a < b <;> by_cases h2:a=b <;> by_cases h3:x < y <;> simp [h1,h2,h3]
theorem bc_ (a:Ky): ¬a < a:=List.lt_irrefl a
theorem P_ {a b c:Ky} (h:a < b) (k:b < c):a < c:=List.lt_trans h k
theorem eo_ (a b:Ky):a < b\/a=b\/b < a:=by
 by_cases h:a < b
 ·exact .inl h
 ·by_cases k:b < a
  ·exact .inr (.inr k)
  ·exact .inr (.inl (List.le_antisymm (List.not_lt.1 k) (List.not_lt.1 h)))
theorem bU_ {a b:Ky} (h:a < b): ¬b < a:=fun k=> bc_ _ (P_ h k)
theorem bT_ {a b c:Ky} (h: ¬b < a) (k:b < c):a < c:=by
 rcases eo_ a b with h1 | h1 | h1
 ·exact P_ h1 k
 ·subst h1;exact k
 ·exact absurd h1 h
theorem ct_ {a b c:Ky} (h:a < b) (k: ¬c < b):a < c:=by
 rcases eo_ b c with h1 | h1 | h1
 ·exact P_ h h1
 ·subst h1;exact h
 ·exact absurd h1 k
def cmpK (a b:Ky):Int:=if a < b then -1 else if b < a then 1 else 0
theorem cv_ (a:ByteArray) (w:World):Calls Tryz.prog 96 #[.string a] w fun e w'=> e= .returned (.bool false)/\w=w':=by
 go_enter Tryz.func96,Tryz.ntmps96
 go_wp2
 go_ret
 simp
theorem isNaNSl_c (a:ByteArray) (w:World):Calls Tryz.prog 153 #[.string a] w fun e w'=> e= .returned (.bool false)/\w=w':=by
 go_enter Tryz.func153,Tryz.ntmps153
 go_wp2
 go_ret
 simp
theorem cmpS_c (a b:Ky) (w:World):Calls Tryz.prog 68 #[.string ⟨a.toArray⟩,.string ⟨b.toArray⟩] w fun e w'=> e= .returned (.int .i64 (cmpK a b))/\w=w':=by
 unfold cmpK
 by_cases h1:a < b
 ·rw [if_pos h1]
  have hb:Op.bytesLess a b=true:=by rw [Z_];simpa using h1
  go_enter Tryz.func68,Tryz.ntmps68
  go_wp2_with (go_at_call 96;refine(cv_ _ _).mono ?_;rintro e w' ⟨rfl,rfl⟩)
  all_goals (go_ret;simp)
 ·rw [if_neg h1]
  have hb:Op.bytesLess a b=false:=by rw [Z_];simpa using h1
  by_cases h2:b < a
  ·rw [if_pos h2]
   have hq:(a==b)=false:=beq_eq_false_iff_ne.2 (fun e=> bc_ b (e ▸ h2))
   go_enter Tryz.func68,Tryz.ntmps68
   go_wp2_with (go_at_call 96;refine(cv_ _ _).mono ?_;rintro e w' ⟨rfl,rfl⟩)
   all_goals (go_ret;simp)
  ·rw [if_neg h2]
   obtain rfl:a=b:=by rcases eo_ a b with h | h | h;exact absurd h h1;exact h;exact absurd h h2
   go_enter Tryz.func68,Tryz.ntmps68
   go_wp2_with (go_at_call 96;refine(cv_ _ _).mono ?_;rintro e w' ⟨rfl,rfl⟩)
   all_goals (go_ret;simp)
theorem lessS_c (a b:Ky) (w:World):Calls Tryz.prog 152 #[.string ⟨a.toArray⟩,.string ⟨b.toArray⟩] w fun e w'=> e= .returned (.bool (decide (a < b)))/\w=w':=by
 by_cases h1:a < b
 ·have hb:Op.bytesLess a b=true:=by rw [Z_];simpa using h1
  rw [decide_eq_true h1]
  go_enter Tryz.func152,Tryz.ntmps152
  go_wp2_with (go_at_call 96;refine(cv_ _ _).mono ?_;rintro e w' ⟨rfl,rfl⟩)
  all_goals (go_ret;simp)
 ·have hb:Op.bytesLess a b=false:=by rw [Z_];simpa using h1
  rw [decide_eq_false h1]
  go_enter Tryz.func152,Tryz.ntmps152
  go_wp2_with (go_at_call 96;refine(cv_ _ _).mono ?_;rintro e w' ⟨rfl,rfl⟩)
  all_goals (go_ret;simp)
theorem at1S_c (p:Pr) (k:Ky) (w:World):Calls Tryz.prog 74 #[.agg #[.string ⟨p.1.toArray⟩,.string ⟨p.2.toArray⟩],.string ⟨k.toArray⟩] w fun e w'=> e= .returned (.int .i64 (cmpK p.1 k))/\Ext [] w w':=by
 go_enter Tryz.func74,Tryz.ntmps74
 go_wp2_with (go_at_call 68;refine(cmpS_c _ _ _).mono ?_;rintro e w' ⟨rfl,rfl⟩)
 go_ret
 exact⟨rfl,(Ext.refl _ _).alloc _⟩
def SrtK (l:List Pr):Prop:=l.Pairwise (fun a b=> a.1 < b.1)
theorem SrtK.at (h:SrtK l) {i j:Nat} (hij:i < j) (hj:j < l.length):(l.getD i ([],[])).1 < (l.getD j ([],[])).1:=by
 have:=List.pairwise_iff_getElem.1 h i j (by omega) hj hij
 simpa [List.getD,hj,show i < l.length by omega] using this
theorem cN_ {α:Type} (p:α->Bool) (l:List α) (k:Nat) (hk:k<=l.length) (h1: ∀(i:Nat) x,i < k->l[i]? =some x->p x=true) (h2: ∀(i:Nat) x,k<=i->l[i]? =some x->p x=false):l.countP p=k:=by
 have e:l=l.take k++l.drop k:=(List.take_append_drop k l).symm
 rw [e,List.countP_append]
 have e1:(l.take k).countP p=(l.take k).length:=by
  rw [List.countP_eq_length]
  intro x hx
  obtain⟨i,hi⟩:=List.getElem?_of_mem hx
  rw [List.getElem?_take] at hi
  split at hi
  ·exact h1 i x (by assumption) hi
  ·cases hi
 have e2:(l.drop k).countP p=0:=by
  rw [List.countP_eq_zero]
  intro x hx
  obtain⟨i,hi⟩:=List.getElem?_of_mem hx
  rw [List.getElem?_drop] at hi
  have:=h2 (k+i) x (by omega) hi
  simp [this]
 rw [e1,e2,List.length_take]
 omega
def fv_ (s:List Pr) (k:Ky) (w:World) (e:Ending) (w':World):Prop:=e= .returned (.tuple #[.int .i64 (atF s k),.bool (B_ s k)])/\Ext [] w w'
theorem atF_of {s:List Pr} {k:Ky} {a:Nat} (ha:a<=s.length) (h1: ∀i,i < a->(s.getD i ([],[])).1 < k) (h2: ∀i,a<=i->i < s.length-> ¬(s.getD i ([],[])).1 < k):atF s k=a:=by
 refine cN_ _ s a ha (fun i x hi hx=> ?_) (fun i x hi hx=> ?_)
 ·have:=h1 i hi
  simpa [List.getD,hx] using this
 ·have hl:=(List.getElem?_eq_some_iff.1 hx).1
  have:=h2 i hi hl
  simpa [List.getD,hx] using this
theorem bsfPr_c (v:Value) (s:List Pr) (k:Ky) (w:World) (hl:s.length<=1000000) (hv:EPr.Rd w v s) (hs:SrtK s):
  Calls Tryz.prog 73 #[v,.string ⟨k.toArray⟩,.func (.func 74) #[] #[]] w (fv_ s k w):=by
 have HS:=hi_ hs
 clear hs
 have hv0:=hi_ hv
 rcases hv with ⟨rfl,rfl⟩ | ⟨g,o,cap,rfl,h1,hg,_⟩
 ·go_enter Tryz.func73,Tryz.ntmps73
  go_wp2
  go_loopw [9,10,11] (fun lo hi _ wr=> lo= .int .i64 0/\hi= .int .i64 0/\wr=w) (fun _ _ _ _=> 0)
  case atStart=> exact⟨rfl,rfl,rfl⟩
  case round=>
   obtain⟨rfl,rfl,rfl⟩:=hrel
   go_wp2
   go_ret2
   exact⟨rfl,Ext.refl _ _⟩
 ·obtain⟨n,hn⟩: ∃n,n=s.length:=⟨_,rfl⟩
  rw [<-hn] at h1 hl ⊢
  have HN:=hi_ hn
  clear hn
  go_enter Tryz.func73,Tryz.ntmps73
  go_wp2
  go_loopw [9,10,11] (fun lo hi _ wr=> ∃a b:Nat,lo= .int .i64 a/\hi= .int .i64 b/\a<=b/\b<=n/\Hid (∀i,i < a->(s.getD i ([],[])).1 < k)/\Hid (∀i,b<=i->i < s.length-> ¬(s.getD i ([],[])).1 < k)/\Ext [] w wr)
   (fun lo hi _ _=> (intOf hi).toNat - (intOf lo).toNat)
  case atStart=> exact⟨0,n,rfl,rfl,Nat.zero_le _,Nat.le_refl _,hi_ (fun i h=> by omega),hi_ (fun i h1 h2=> by rw [<-HN.out] at h2;omega),Ext.refl _ _⟩
  case round=>
   obtain⟨a,b,rfl,rfl,hab,hbn,h1,h2,hB⟩:=hrel
   have hv1:=hv0.out.ext0 hB
   rw [<-HN.out] at hv1
   by_cases hlt:a < b
   ·obtain⟨hm1,hm2⟩:=aj_ hv1 ((a+b)/2) (by rw [<-HN.out];omega)
    obtain⟨x,hx⟩: ∃x,x=s.getD ((a+b)/2) ([],[]):=⟨_,rfl⟩
    rw [<-hx] at hm1 hm2
    have HX:=hi_ hx
    clear hx
    go_wp2_with fail
    refine(at1S_c _ _ _).mono ?_
    rintro e w1 ⟨rfl,hB1⟩
    unfold cmpK
    have hB2:=hB.trans hB1
    clear hB hB1 hm1 hm2 hv1
    by_cases hx2:x.1 < k
    ·rw [if_pos hx2]
     have HX2:=hi_ hx2
     clear hx2
     go_wp2
     go_roundw
     case rel=> exact⟨(a+b)/2+1,b,by go_num,rfl,by omega,hbn,hi_ (fun i hi=> by
       have e:=HX.out
       by_cases hi':i=(a+b)/2
       ·subst hi';rw [<-e];exact HX2.out
       ·have:=HS.out.at (i:=i) (j:=(a+b)/2) (by omega) (by rw [<-HN.out];omega);rw [<-e] at this;exact P_ this HX2.out),h2,hB2⟩
     case measure=> simp [intOf];omega
    ·rw [if_neg hx2]
     have HX2:=hi_ hx2
     clear hx2
     by_cases hx4:k < x.1
     ·rw [if_pos hx4]
      have HX4:=hi_ hx4
      clear hx4
      go_wp2
      go_roundw
      case rel=> exact⟨a,(a+b)/2,rfl,by go_num,by omega,by omega,h1,hi_ (fun i hi hi2=> by
        have e:=HX.out
        by_cases hi':i=(a+b)/2
        ·subst hi';rw [<-e];exact HX2.out
        ·have:=HS.out.at (i:=(a+b)/2) (j:=i) (by omega) hi2;rw [<-e] at this;exact fun hh=> HX2.out (P_ this hh)),hB2⟩
      case measure=> simp [intOf];omega
     ·rw [if_neg hx4]
      have HX4:=hi_ hx4
      clear hx4
      go_wp2
      go_roundw
      case rel=> exact⟨a,(a+b)/2,rfl,by go_num,by omega,by omega,h1,hi_ (fun i hi hi2=> by
        have e:=HX.out
        by_cases hi':i=(a+b)/2
        ·subst hi';rw [<-e];exact HX2.out
        ·have:=HS.out.at (i:=(a+b)/2) (j:=i) (by omega) hi2;rw [<-e] at this;exact fun hh=> HX2.out (P_ this hh)),hB2⟩
      case measure=> simp [intOf];omega
   ·have hab':a=b:=by omega
    subst hab'
    have hat:atF s k=a:=atF_of (by rw [<-HN.out];exact hbn) h1.out h2.out
    by_cases hal:a < n
    ·obtain⟨hm1,hm2⟩:=aj_ hv1 a (by rw [<-HN.out];exact hal)
     have hxe:s[a]? =some (s.getD a ([],[])):=by simp [List.getD,show a < s.length by rw [<-HN.out];exact hal]
     obtain⟨x,hx⟩: ∃x,x=s.getD a ([],[]):=⟨_,rfl⟩
     rw [<-hx] at hm1 hm2 hxe
     obtain⟨HAT,HXE⟩:=h_2 hat hxe
     have hnl: ¬x.1 < k:=by rw [hx];exact h2.out a (Nat.le_refl _) (by rw [<-HN.out];exact hal)
     have HNL:=hi_ hnl
     clear hx hxe hat hnl
     go_wp2_with fail
     refine(at1S_c _ _ _).mono ?_
     rintro e w1 ⟨rfl,hB1⟩
     have hB2:=hB.trans hB1
     clear hB hB1 hm1 hm2 hv1
     have hth:B_ s k=(cmpK x.1 k==0):=by
      have hnl:=HNL.out
      rw [B_,HAT.out,HXE.out,cmpK,if_neg hnl]
      by_cases hk:k < x.1
      ·rw [if_pos hk]
       have:x.1≠k:=fun e=> bc_ k (e ▸ hk)
       simpa using this
      ·rw [if_neg hk]
       have:x.1=k:=by
        rcases eo_ x.1 k with h | h | h
        ·exact absurd h hnl
        ·exact h
        ·exact absurd h hk
       simp [this]
     have HTH:=hi_ hth
     clear hth
     generalize cmpK x.1 k=c at HTH ⊢
     go_wp2
     go_ret2
     refine⟨?_,hB2⟩
     rw [HAT.out,HTH.out]
     rfl
    ·have HAT:=hi_ hat
     clear hat
     go_wp2_with fail
     go_ret2
     refine⟨?_,hB⟩
     have hth:B_ s k=false:=by
      rw [B_,HAT.out,List.getElem?_eq_none (by rw [<-HN.out];omega)]
      rfl
     rw [HAT.out,hth]
     rfl
theorem trat_c (v:Value) (s:List Pr) (k:Ky) (w:World) (hl:s.length<=1000000) (hv:EPr.Rd w v s) (hs:SrtK s):
  Calls Tryz.prog 43 #[v,.string ⟨k.toArray⟩] w (fv_ s k w):=by
 go_enter Tryz.func43,Tryz.ntmps43
 go_wp2_with fail
 refine(bsfPr_c v s k _ hl hv hs).mono ?_
 rintro e w1 ⟨rfl,hB⟩
 go_wp2
 go_ret2
 exact⟨rfl,hB⟩
end Go.Proofs.YtkpgjkekmdecbaaGreat
