/- Lemmas for the claim. No conditions beside those that each states. -/
import Derived.Test.YtkpgjkekmdecbaaGreatEmpAN
import Derived.Deep.QuietTactic
import Derived.BigQuiet
import Derived.Test.YtkpgjkekmdecbaaGreatEmpAO
import Derived.Test.YtkpgjkekmdecbaaGreatEmpAP
set_option maxRecDepth 100000
set_option maxHeartbeats 8000000
set_option linter.all false

namespace Go.Proofs.YtkpgjkekmdecbaaGreat
open Go.RowKit
variable {w w' w2:World} {T:TypeId} {n i b:Nat} {S:List Nat} {leaf:Bool} {Av:Nat -> Prop} {l ps:List Pr} {ks:List Ky} {rs:List Rfm} {y:Sy} {v v':Sv}
theorem try0_c (rest c1 c2 c3 c4 c5 c6:Value) (fn ln size:Nat) (P:List UInt8) (w:World) (h:Calls Tryz.prog 164 #[.slice none 0 0,c1,c2,c3,c4,c5,c6] w (fu_ fn ln size P w)):
  Calls Tryz.prog 168 #[rest,.int .i64 0,.slice none 0 0,.func (.func 164) #[] #[c1,c2,c3,c4,c5,c6]] w (fu_ fn ln size P w):=by
 have H:=hi_ h
 clear h
 go_enter Tryz.func168,Tryz.ntmps168
 go_wp2_with fail
 refine H.out.mono ?_
 rintro e W1 ⟨p,c,rfl,h1,h2,h3,h4,h5⟩
 go_wp2
 go_ret
 exact⟨p,c,rfl,h1,h2,h3,h4,h5⟩
def ReadPost (size:Nat) (P:List UInt8) (w:World) (e:Ending) (w':World):Prop:= ∃(p:Option Addr) (c:Nat),e= .returned (.tuple #[.slice p size c,.slice none 0 0,.int .i64 0])/\EB.Rd w' (.slice p size c) (P.take size)/\(∀y∈blkL (.slice p size c),w.heap.size<=y/\p_ w' y=some 5)/\Ext [] w w'
theorem arread_c (a r gg k S F addr size:Nat) (ws:List (Nat×Nat×List UInt8)) (P:List UInt8) (zs:List (List UInt8)) (w:World) (hr:RackR w r gg (k+4) S ws) (ha:ArrR w a r (k+4) F) (hk1:1<=k) (hk:k<=8) (hS:S<=2000) (hF:F<=S) (h1:1<=size) (h2:size<=1024) (had:addr+C_ k size<=(k+4)*(S - F)) (hlay:LayOf k P ((size+127) / 128) zs) (hst:Stands ws (k+4) F addr zs) (hwl:ws.length<=1000000) (hP:128*((size+127) / 128)<=P.length):
  Calls Tryz.prog 118 #[.pointer (some ⟨a,0,none⟩),.int .i64 addr,.int .i64 size,.string ⟨(shaF (P.take size)).toArray⟩] w (ReadPost size P w):=by
 have hmf: ∀(fn:Fn) (first cap:Array Value) (w:World),(Instr.makeFunc fn first cap).run Tryz.prog w= .ok (.func fn first cap) w:=fun _ _ _ _=> rfl
 obtain⟨HR,HA,HAD,HLAY,HST,HP⟩:=h_6 hr ha had hlay hst hP
 obtain⟨su,hsu⟩: ∃s,s=(shaF (P.take size)).toArray:=⟨_,rfl⟩
 rw [<-hsu]
 have hss:su.size=32:=by rw [hsu,List.size_toArray,eO_]
 have HSU:=hi_ hsu
 clear hr ha had hlay hst hP hsu
 have hEa:Ext [] w ((w.alloc (.cells #[.int .i64 size] 3)).alloc (.cells #[.string ⟨su⟩] 9)):=((Ext.refl [] w).alloc _).alloc _
 have hb1:=((Ext.refl [] _).alloc (.cells #[.string ⟨su⟩] 9)).blk (heap_alloc_new w (.cells #[.int .i64 size] 3)) (by simp)
 have hb2:=heap_alloc_new (w.alloc (.cells #[.int .i64 size] 3)) (.cells #[.string ⟨su⟩] 9)
 have hsz:(w.alloc (.cells #[.int .i64 size] 3)).heap.size=w.heap.size+1:=by first | exact Array.size_push _ | simp
 rw [hsz] at hb2
 obtain⟨zn,hzn⟩: ∃z,z=w.heap.size:=⟨_,rfl⟩
 rw [<-hzn] at hb1 hb2
 obtain⟨un,hun⟩: ∃z,z=zn+1:=⟨_,rfl⟩
 rw [<-hun] at hb2
 obtain⟨HZN,HUN,HB1,HB2,HEA⟩:=h_5 hzn hun hb1 hb2 hEa
 clear hb1 hb2 hEa hsz hzn hun
 go_enter Tryz.func118,Tryz.ntmps118
 go_wp2_with fail
 simp only [<-HZN.out]
 simp only [<-HUN.out]
 refine(eB_ a r gg k S F addr size ws _ (HR.out.ext0 HEA.out) (HA.out.ext0 HEA.out) hk1 hk hS hF h1 h2 HAD.out).mono ?_
 rintro e W1 ⟨v1,l1,rfl,hrd,hll,hlx, -,hE1⟩
 have HB1':=hi_ (hE1.blk HB1.out (by simp))
 have HB2':=hi_ (hE1.blk HB2.out (by simp))
 have HE1:=hi_ (HEA.out.trans hE1)
 have HR1:=hi_ (HR.out.ext0 HE1.out)
 have HA1:=hi_ (HA.out.ext0 HE1.out)
 obtain⟨HRD1,HLX⟩:=h_2 hrd hlx
 have cu:W1.cell? ⟨un,0,none⟩=some (.string ⟨su⟩):=by rw [cell_of_row _ _ 0 _ _ _ HB2'.out];rfl
 clear hrd hlx hE1 HB1 HB2 HEA HR HA
 go_wp2_with fail
 refine(if_ a r gg (k+4) S F ws _ l1 _ HR1.out HA1.out HRD1.out (by omega) HLX.out).mono ?_
 rintro e W2 ⟨rfl,rfl⟩
 have hEb:=(Ext.refl [] W2).alloc (.cells #[.slice none 0 0] 208)
 have hbg:=heap_alloc_new W2 (.cells #[.slice none 0 0] 208)
 have cz:(W2.alloc (.cells #[.slice none 0 0] 208)).cell? ⟨zn,0,none⟩=some (.int .i64 size):=by rw [cell_of_row _ _ 0 _ _ _ (hEb.blk HB1'.out (by simp))];rfl
 go_wp2_with fail
 obtain⟨gn,hgn⟩: ∃g,g=W2.heap.size:=⟨_,rfl⟩
 rw [<-hgn] at hbg
 simp only [<-hgn]
 obtain⟨HBG,HGN⟩:=h_2 hbg hgn
 clear hbg hgn cu
 have HB1:=hi_ (hEb.blk HB1'.out (by simp))
 have HB2:=hi_ (hEb.blk HB2'.out (by simp))
 have HE2:=hi_ (HE1.out.trans hEb)
 have HR2:=hi_ (HR1.out.ext0 hEb)
 have HA2:=hi_ (HA1.out.ext0 hEb)
 have HRD2:=hi_ (HRD1.out.ext0 hEb)
 clear hEb HB1' HB2' HE1 HR1 HA1 HRD1
 revert cz HB1 HB2 HE2 HR2 HA2 HRD2 HBG
 generalize World.alloc _ _=W3
 intro cz HBG HB1 HB2 HE2 HR2 HA2 HRD2
 go_wp2_with fail
 refine(hk_ a r gg k S F addr size ws P zs _ HR2.out HA2.out hk1 hk hS hF h1 h2 HAD.out HLAY.out HST.out hwl).mono ?_
 rintro e W4 ⟨v4,ss,rfl,how4,hst4,hso4,hl8, -,hE4⟩
 obtain⟨p4,c4,rfl,_⟩:=how4.rd.len_eq
 rw [List.length_map] at how4 ⊢
 obtain⟨n4,hn4⟩: ∃n,n=ss.length:=⟨_,rfl⟩
 rw [<-hn4] at how4 ⊢
 clear hn4
 have hEb:=(Ext.refl [] W4).alloc (.cells #[.slice p4 n4 c4] 261)
 have hbs:=heap_alloc_new W4 (.cells #[.slice p4 n4 c4] 261)
 have hE4b:=hE4.trans hEb
 have cg:(W4.alloc (.cells #[.slice p4 n4 c4] 261)).cell? ⟨gn,0,none⟩=some (.slice none 0 0):=by rw [cell_of_row _ _ 0 _ _ _ (hE4b.blk HBG.out (by simp))];rfl
 go_wp2_with fail
 obtain⟨sn,hsn⟩: ∃g,g=W4.heap.size:=⟨_,rfl⟩
 rw [<-hsn] at hbs
 simp only [<-hsn]
 have HBS:=hi_ hbs
 have HB1':=hi_ (hE4b.blk HB1.out (by simp))
 have HB2':=hi_ (hE4b.blk HB2.out (by simp))
 have HBG':=hi_ (hE4b.blk HBG.out (by simp))
 have HE4:=hi_ (HE2.out.trans hE4b)
 have HRD4:=hi_ (HRD2.out.ext0 hE4b)
 have HOW4:=hi_ (how4.rd.ext0 hEb)
 have HST4:Hid (∀x∈ss,StrOk (W4.alloc (.cells #[.slice p4 n4 c4] 261)) W3.heap.size x.1 x.2):=hi_ (fun x hx=> (hst4 x hx).ext hEb (by simp))
 have HSO4:=hi_ hso4
 clear hbs hsn hEb hE4 hE4b HB1 HB2 HBG HE2 HR2 HA2 HRD2 how4 hst4 hso4 cz
 revert cg HB1' HB2' HBG' HE4 HRD4 HOW4 HST4 HBS
 generalize World.alloc _ _=W5
 intro cg HBS HB1 HB2 HBG HE4 HRD4 HOW4 HST4
 go_wp2_with fail
 refine(delfi_c _ l1 gn _ HRD4.out (by omega) cg).mono ?_
 rintro e W6 ⟨rfl,hE6⟩
 have hEb:Ext [] W6 ((W6.alloc (.cells #[.slice none 0 0] 158)).alloc (.cells #[.slice none 0 0] 208)):=((Ext.refl [] W6).alloc _).alloc _
 have hbf:=((Ext.refl [] _).alloc (.cells #[.slice none 0 0] 208)).blk (heap_alloc_new W6 (.cells #[.slice none 0 0] 158)) (by simp)
 have hbl:=heap_alloc_new (W6.alloc (.cells #[.slice none 0 0] 158)) (.cells #[.slice none 0 0] 208)
 have hsz:(W6.alloc (.cells #[.slice none 0 0] 158)).heap.size=W6.heap.size+1:=by first | exact Array.size_push _ | simp
 rw [hsz] at hbl
 have hE6b:=hE6.trans hEb
 have cg6:((W6.alloc (.cells #[.slice none 0 0] 158)).alloc (.cells #[.slice none 0 0] 208)).cell? ⟨gn,0,none⟩=some (.slice none 0 0):=hE6b.cell cg (by simp)
 clear hsz cg
 have HB1':=hi_ (hE6b.blk HB1.out (by simp))
 have HB2':=hi_ (hE6b.blk HB2.out (by simp))
 have HBG':=hi_ (hE6b.blk HBG.out (by simp))
 have HBS':=hi_ (hE6b.blk HBS.out (by simp))
 obtain⟨HBF,HBL⟩:=h_2 hbf hbl
 have HE6:=hi_ (HE4.out.trans hE6b)
 have HOW6:=hi_ (HOW4.out.ext0 hE6b)
 have HST6:Hid (∀x∈ss,StrOk ((W6.alloc (.cells #[.slice none 0 0] 158)).alloc (.cells #[.slice none 0 0] 208)) W3.heap.size x.1 x.2):=hi_ (fun x hx=> (HST4.out x hx).ext hE6b (by simp))
 have HLF:Hid (w.heap.size<=W6.heap.size):=hi_ (Nat.le_trans HE4.out.size hE6.size)
 clear hEb hbf hbl hE6b hE6 HB1 HB2 HBG HBS HE4 HOW4 HST4 HRD4
 go_wp2_with fail
 obtain⟨fn,hfn⟩: ∃g,g=W6.heap.size:=⟨_,rfl⟩
 rw [<-hfn] at HBF HBL HLF
 simp only [<-hfn]
 clear hfn
 obtain⟨ln,hln⟩: ∃g,g=fn+1:=⟨_,rfl⟩
 rw [<-hln] at HBL
 simp only [<-hln]
 have HLN:=hi_ hln
 clear hln
 revert cg6 HB1' HB2' HBG' HBS' HBF HBL HE6 HOW6 HST6
 generalize World.alloc _ _=W7
 intro cg6 HB1 HB2 HBG HBS HE6 HOW6 HST6 HBF HBL
 go_loopw [19,61] (fun _ iv wr=> iv= .int .i64 0/\wr=W7) (fun _ _ _=> 0)
 case atStart=> exact⟨rfl,rfl⟩
 case round=>
  obtain⟨rfl,rfl⟩:=hrel
  go_wp2_with fail
  have d1:wr.cell? ⟨zn,0,none⟩=some (.int .i64 size):=by rw [cell_of_row _ _ 0 _ _ _ HB1.out];rfl
  have d2:wr.cell? ⟨un,0,none⟩=some (.string ⟨su⟩):=by rw [cell_of_row _ _ 0 _ _ _ HB2.out];rfl
  have d3:wr.cell? ⟨sn,0,none⟩=some (.slice p4 n4 c4):=by rw [cell_of_row _ _ 0 _ _ _ HBS.out];rfl
  rw [HSU.out] at d2
  refine(try0_c v1 _ _ _ _ _ _ fn ln size P _ (fits_c k ((size+127) / 128) size W3.heap.size gn sn zn un fn ln P _ ss _ HOW6.out HST6.out HSO4.out hl8 hk h1 h2 (by omega) HP.out cg6 d3 d1 d2 HBF.out HBL.out)).mono ?_
  rintro e W8 ⟨p,c,rfl,hf8,hl8',hrd8,htg8,hE8⟩
  have f1:W8.cell? ⟨fn,0,none⟩=some (.slice p size c):=by rw [cell_of_row _ _ 0 _ _ _ hf8];rfl
  have f2:W8.cell? ⟨ln,0,none⟩=some (.slice none 0 0):=by rw [cell_of_row _ _ 0 _ _ _ hl8'];rfl
  obtain⟨HR8,HT8⟩:=h_2 hrd8 htg8
  have HE8:Hid (Ext [] w W8):=hi_ (HE6.out.trans' hE8 (by simp) (fun y hy=> .inr (by have:=HLF.out;have:=HLN.out;simp at hy;omega)))
  clear d1 d2 d3 cg6 hf8 hl8' hrd8 htg8 hE8 HB1 HB2 HBG HBS HBF HBL HOW6 HST6
  go_wp2_with fail
  go_quiet (fail)
  go_wp2
  go_ret3
  exact⟨p,c,rfl,HR8.out,fun y hy=> ⟨Nat.le_trans HE6.out.size (HT8.out y hy).1,(HT8.out y hy).2⟩,HE8.out.drewN _⟩
structure MissRel (v v':Sv) (k:Mno):Prop where
 ws:v'.ws=v.ws
 spc:v'.spc=v.spc
 st:v'.st={v.st with mem:=remL v.st.mem k,gets:=wr64 (v.st.gets+1),reads:=wr64 (v.st.reads+1)}
theorem iv_ (y:Sy) (v:Sv) (A size:Nat) (birth:Int) (P:List UInt8) (zs:List (List UInt8)) (w:World) (h:SyR w y v) (hf:v.st.mem.find? (hitB A size (shaF (P.take size)))=none) (had:A+C_ y.k size<=(y.k+4)*(y.S - y.F)) (hlay:LayOf y.k P ((size+127) / 128) zs) (hst:Stands v.ws (y.k+4) y.F A zs) (hwl:v.ws.length<=1000000) (hP:128*((size+127) / 128)<=P.length) (h1:1<=size) (h2:size<=1024):
  Calls Tryz.prog 92 #[.pointer (some ⟨y.b,0,none⟩),pagg A size birth (shaF (P.take size))] w fun e w'=> ∃u v',e= .returned (.tuple #[u,.int .i64 0])/\EB.Rd w' u (P.take size)/\SyR w' y v'/\MissRel v v' ((A:Int),shaF (P.take size),P.take size)/\SyF y w w':=by
 obtain⟨su,hsu⟩: ∃s,s=shaF (P.take size):=⟨_,rfl⟩
 have hptl:(P.take size).length=size:=by rw [List.length_take];omega
 rw [<-hsu] at hf ⊢
 have hEa:Ext [] w (w.alloc (.cells #[.int .i64 A,.int .i64 size,.int .i64 birth,.string ⟨su.toArray⟩] 34)):=(Ext.refl [] w).alloc _
 have hrc:=hH_ y.b y.a y.sp v.st A size birth su _ (h.st.ext0 hEa) (by have:=h.mem;omega)
 have HRC:=hi_ hrc
 have HS:=hi_ (h.ext0 hEa)
 have hb3:=heap_alloc_new w (.cells #[.int .i64 A,.int .i64 size,.int .i64 birth,.string ⟨su.toArray⟩] 34)
 obtain⟨v0,v1,v2,v3,_⟩:=E_ hb3
 obtain⟨HF,HB3,HSU,HAD,HLAY,HST,HP,HPT⟩:=h_8 hf hb3 hsu had hlay hst hP hptl
 rw [pagg]
 clear h hrc hf hb3 hsu had hlay hst hP hptl
 go_enter Tryz.func92,Tryz.ntmps92
 go_wp2_with fail
 refine HRC.out.mono ?_
 rintro e W1 ⟨hE1,⟨-,rfl⟩ | ⟨x,bs,hfi, -, -⟩⟩
 case inr=> rw [HF.out] at hfi;cases hfi
 have HS1:=hi_ (HS.out.ext0 hE1)
 have HB1:=hi_ (hE1.blk HB3.out (by simp))
 have HE1:=hi_ (hEa.trans hE1)
 clear HS HB3 hE1 hEa v0 v1 v2 v3 HRC HF
 obtain⟨bp,hbp⟩: ∃b,b=w.heap.size:=⟨_,rfl⟩
 rw [<-hbp] at HB1
 simp only [<-hbp]
 have HBP:=hi_ hbp
 clear hbp
 go_wp2_with fail
 have hEk:Ext [] W1 (W1.alloc (.cells #[.int .i64 0,.string ⟨#[]⟩,.slice none 0 0] 175)):=(Ext.refl [] W1).alloc _
 have HS2:=hi_ (HS1.out.ext0 hEk)
 have HB2:=hi_ (hEk.blk HB1.out (by simp))
 have HE2:=hi_ (HE1.out.trans hEk)
 clear HS1 HB1 HE1 hEk
 obtain⟨xk,hxk⟩: ∃b,b=W1.heap.size:=⟨_,rfl⟩
 simp only [<-hxk]
 clear hxk
 revert HS2 HB2 HE2
 generalize World.alloc _ _=W2
 intro HS2 HB2 HE2
 obtain⟨c0,_⟩:=HS2.out.st.cells
 obtain⟨q0,q1,q2,q3,_⟩:=E_ HB2.out
 have hD:=(Ext.refl [] W2).drew
 refine f_ (fun W=> W.cell? ⟨y.b,0,none⟩=some (.pointer (some ⟨y.a,0,none⟩))/\W.cell? ⟨bp,0,none⟩=some (.int .i64 A)/\W.cell? ⟨bp,1,none⟩=some (.int .i64 size)/\W.cell? ⟨bp,3,none⟩=some (.string ⟨su.toArray⟩)) (fun i=> i==3 || i==5 || i==7 || i==9) (by kernel_rfl) ⟨hD.cell c0 (by simp),hD.cell q0 (by simp),hD.cell q1 (by simp),hD.cell q3 (by simp)⟩ (fun hS=> ?_)
 refine PUq 0 ?_;(try go_frame)
 refine PUq 1 ?_;(try go_frame)
 refine PUq 2 ?_;(try go_frame)
 refine PUq 4 ?_;(try go_frame)
 refine PUq 6 ?_;(try go_frame)
 refine PUq 8 ?_;(try go_frame)
 refine ta 3 ?_;(try go_frame)
 refine ta 5 ?_;(try go_frame)
 refine ta 7 ?_;(try go_frame)
 refine ta 9 ?_;(try go_frame)
 refine a_ (i:=10) (by kernel_rfl) rfl (fun K hK=> ?_)
 (try simp only [Act.put,zA,zB,zC,List.setIfInBounds_toArray,zD,zE]);refine iw rfl ?_
 go_simp
 have hrd0:=arread_c y.a y.r y.gg y.k y.S y.F A size v.ws P zs _ (HS2.out.ext0 hD).rk (HS2.out.ext0 hD).ar HS2.out.k1 HS2.out.k8 HS2.out.S2 HS2.out.FS h1 h2 HAD.out HLAY.out HST.out hwl HP.out
 rw [<-HSU.out] at hrd0
 refine hrd0.mono ?_
 rintro e W3 ⟨pr,cr,rfl,hrd,htg,hE3⟩
 have hE03:=hD.trans hE3
 have HS3:=hi_ (HS2.out.ext0 hE03)
 have HB3:=hi_ (hE03.blk HB2.out (by simp))
 have HE3:=hi_ (HE2.out.trans hE03)
 have HV3:Hid (EB.Rd W3 (.slice pr size cr) (P.take size)/\ ∀y∈blkL (.slice pr size cr),p_ W3 y=some 5):=hi_ ⟨hrd,fun y hy=> (htg y hy).2⟩
 refine nk hK ?_
 clear hK hrd0 hrd htg hE3 hE03 HS2 HB2 HE2 c0 q0 q1 q2 q3 hS hD HLAY HST HAD HP
 refine PUq 11 ?_;(try go_frame)
 simp only [zA,zB,zC,zD,zE]
 refine PUq 12 ?_;(try go_frame)
 simp only [zA,zB,zC,zD,zE]
 refine PUq 13 ?_;(try go_frame)
 simp only [zA,zB,zC,zD,zE]
 refine PUq 14 ?_;(try go_frame)
 simp only [zA,zB,zC,zD,zE]
 refine PUq 15 ?_;(try go_frame)
 simp only [zA,zB,zC,zD,zE]
 refine PUq 16 ?_;(try go_frame)
 simp only [zA,zB,zC,zD,zE]
 refine PUq 17 ?_;(try go_frame)
 simp only [zA,zB,zC,zD,zE]
 refine c_ (by kernel_rfl) ?_ _
 have hbw:bp < W3.heap.size:=g_ HB3.out
 obtain⟨_,_,_,c4,_,c6,_,_,hfz⟩:=HS3.out.st.cells
 try simp only at c4
 have h3:=HS3.out.st.setAt (s':={v.st with gets:=wr64 (v.st.gets+1)}) 4 (.int .i64 (wr64 (v.st.gets+1))) rfl (fun mv=> rfl)
 have H3:=hi_ h3
 clear h3 c6
 go_wp2_with fail
 refine(cu_ ⟨y.b,4,none⟩ v.st.gets _ c4 (hfz 4)).mono ?_
 rintro e W4 ⟨rfl,rfl⟩
 have hv4:=HV3.out.1.tagExt HV3.out.2 H3.out.2 (by simp only [List.mem_singleton,forall_eq,HS3.out.st.tag];decide) (by decide)
 have HS4:=hi_ (HS3.out.onSt H3.out.2 H3.out.1 HS3.out.mem)
 have HB4:=hi_ (SyF.blk HS3.out (SyF.st H3.out.2) HB3.out (by decide))
 have HF4:=hi_ ((SyF.of0 HE3.out:SyF y w W3).trans (SyF.st H3.out.2))
 have HV4:=hi_ hv4
 clear hv4 H3 c4 hfz HS3 HB3 HE3 HV3 hbw
 revert HS4 HB4 HF4 HV4
 generalize World.setCell _ _ _=W4
 intro HS4 HB4 HF4 HV4
 obtain⟨_,_,_,_,_,c6,_,_,hfz⟩:=HS4.out.st.cells
 try simp only at c6
 have h4:=HS4.out.st.setAt (s':={v.st with gets:=wr64 (v.st.gets+1),reads:=wr64 (v.st.reads+1)}) 6 (.int .i64 (wr64 (v.st.reads+1))) rfl (fun mv=> rfl)
 have H4:=hi_ h4
 clear h4
 go_wp2_with fail
 refine(cu_ ⟨y.b,6,none⟩ v.st.reads _ c6 (hfz 6)).mono ?_
 rintro e W5 ⟨rfl,rfl⟩
 have hv5:=HV4.out.1.tagExt HV4.out.2 H4.out.2 (by simp only [List.mem_singleton,forall_eq,HS4.out.st.tag];decide) (by decide)
 have HS5:=hi_ (HS4.out.onSt H4.out.2 H4.out.1 HS4.out.mem)
 have HB5:=hi_ (SyF.blk HS4.out (SyF.st H4.out.2) HB4.out (by decide))
 have HF5:=hi_ (HF4.out.trans (SyF.st H4.out.2))
 have HV5:=hi_ hv5
 clear hv5 H4 c6 hfz HS4 HB4 HF4 HV4
 revert HS5 HB5 HF5 HV5
 generalize World.setCell _ _ _=W5
 intro HS5 HB5 HF5 HV5
 obtain⟨q0,_,_,q3,_⟩:=E_ HB5.out
 go_wp2_with fail
 have hD:=(Ext.refl [] W5).drew
 refine f_ (fun W=> W.cell? ⟨bp,0,none⟩=some (.int .i64 A)/\W.cell? ⟨bp,3,none⟩=some (.string ⟨su.toArray⟩)) (fun i=> i==2 || i==4 || i==6) (by kernel_rfl) ⟨hD.cell q0 (by simp),hD.cell q3 (by simp)⟩ (fun hS=> ?_)
 refine PUq 0 ?_;(try go_frame)
 refine PUq 1 ?_;(try go_frame)
 refine PUq 3 ?_;(try go_frame)
 refine PUq 5 ?_;(try go_frame)
 refine ta 2 ?_;(try go_frame)
 refine ta 4 ?_;(try go_frame)
 refine a_ (i:=6) (by kernel_rfl) rfl (fun K hK=> ?_)
 (try simp only [Act.put,zA,zB,zC,List.setIfInBounds_toArray,zD,zE]);refine iw rfl ?_
 go_simp
 refine(cA_ _ (P.take size) _ (by rw [HPT.out];omega) (HV5.out.1.ext0 hD)).mono ?_
 rintro e W6 ⟨v6,rfl,how6,hE6,hnew6, -⟩
 have s6:=hE6.cell hS.1 (by simp)
 have s6':=hE6.cell hS.2 (by simp)
 have hE06:=hD.trans hE6
 obtain⟨p6,c6,rfl,_⟩:=how6.rd.len_eq
 rw [HPT.out] at how6 ⊢
 refine hK.out _ _ (fun _=> ⟨s6,s6'⟩) (fun _=> ?_)
 clear hK hS
 refine PUq 7 ?_;(try go_frame)
 refine a_ (i:=8) (by kernel_rfl) rfl (fun K hK=> ?_)
 (try simp only [Act.put,zA,zB,zC,List.setIfInBounds_toArray,zD,zE]);refine iw rfl ?_
 go_simp
 have HS6:=hi_ (HS5.out.ext0 hE06)
 have HF6:=hi_ (HF5.out.trans (SyF.of0 hE06))
 have HV6:Hid (EB.Rd W6 (.slice pr size cr) (P.take size)/\ ∀y∈blkL (.slice pr size cr),p_ W6 y=some 5):=hi_ ⟨HV5.out.1.ext0 hE06,fun y hy=> aM_ (HV5.out.2 y hy) hE06 (by simp)⟩
 clear hE06 hE6 hnew6 s6 s6' HS5 HF5 HV5 HB5 hD q0 q3
 refine(em_ y.b y.a y.sp {v.st with gets:=wr64 (v.st.gets+1),reads:=wr64 (v.st.reads+1)} ((A:Int),su,p6,size,c6) (P.take size) W6 HS6.out.st HS6.out.mem how6).mono ?_
 rintro e W7 ⟨rfl,hst7,hE7⟩
 have HS7:=hi_ (HS6.out.onSt hE7 hst7 (cn_ _ _))
 have HF7:=hi_ (HF6.out.trans (SyF.st hE7))
 have hv7:=HV6.out.1.tagExt HV6.out.2 hE7 (by simp only [List.mem_singleton,forall_eq,HS6.out.st.tag];decide) (by decide)
 have HV7:=hi_ hv7
 refine nk hK ?_
 refine c_ (by kernel_rfl) ?_ _
 clear hK hst7 hE7 hv7 how6 HS6 HF6 HV6
 go_wp2
 go_ret2
 exact⟨_,rfl,HV7.out.1,⟨_,v.ws,v.spc⟩,HS7.out,⟨rfl,rfl,rfl⟩,HF7.out⟩
abbrev Blk:=Nat×List UInt8
def StdAt (y:Sy) (ws:List (Nat×Nat×List UInt8)) (x:Blk):Prop:=
 1<=x.2.length/\x.2.length<=1024/\x.1+C_ y.k x.2.length<=(y.k+4)*(y.S - y.F)/\ ∃zs,LayOf y.k (padB x.2) ((x.2.length+127) / 128) zs/\Stands ws (y.k+4) y.F x.1 zs
structure Dsk (y:Sy) (v:Sv) (L:List Blk):Prop where
 std: ∀x∈L,StdAt y v.ws x
 mem: ∀m∈v.st.mem,∃x∈L,m=((x.1:Int),shaF x.2,x.2)
 uniq: ∀x∈L,∀x'∈L,x.1=x'.1->x=x'
 wl:v.ws.length<=900000
structure SameV (v v':Sv):Prop where
 ws:v'.ws=v.ws
 spc:v'.spc=v.spc
 txg:v'.st.txg=v.st.txg
theorem SameV.refl (v:Sv):SameV v v:=⟨rfl,rfl,rfl⟩
theorem SameV.trans {a b c:Sv} (h:SameV a b) (k:SameV b c):SameV a c:=⟨k.ws.trans h.ws,k.spc.trans h.spc,k.txg.trans h.txg⟩
theorem hG_ {m:List Mno} {k x:Mno} (h:x∈remL m k):x∈m\/x=k:=by
 rw [remL] at h
 have h:=List.mem_of_mem_drop h
 rcases List.mem_append.1 h with h | h
 ·exact .inl (List.mem_filter.1 h).1
 ·exact .inr (by simpa using h)
theorem Dsk.read {L:List Blk} (h:Dsk y v L) {x:Blk} (hx:x∈L) (hws:v'.ws=v.ws) (hm:v'.st.mem=remL v.st.mem ((x.1:Int),shaF x.2,x.2)):Dsk y v' L:=by
 refine⟨by rw [hws];exact h.std,fun m hmm=> ?_,h.uniq,by rw [hws];exact h.wl⟩
 rw [hm] at hmm
 rcases hG_ hmm with h1 | h1
 ·exact h.mem m h1
 ·exact⟨x,hx,h1⟩
def PtAt (q:Ptr4) (bs:List UInt8):Prop:=q.2.1=bs.length/\q.2.2.2=shaF bs
def StGot (y:Sy) (v:Sv) (L:List Blk) (bs:List UInt8) (w:World) (e:Ending) (w':World):Prop:= ∃u v',e= .returned (.tuple #[u,.int .i64 0])/\EB.Rd w' u bs/\SyR w' y v'/\SameV v v'/\Dsk y v' L/\SyF y w w'
theorem stget_c (y:Sy) (v:Sv) (L:List Blk) (q:Ptr4) (bs:List UInt8) (w:World) (h:SyR w y v) (hd:Dsk y v L) (hx:(q.1,bs)∈L) (hq:PtAt q bs):
  Calls Tryz.prog 92 #[.pointer (some ⟨y.b,0,none⟩),ah_ q] w (StGot y v L bs w):=by
 obtain⟨A,size,birth,sum⟩:=q
 obtain⟨rfl,rfl⟩:size=bs.length/\sum=shaF bs:=hq
 obtain⟨h1,h2,h3,zs,h4,h5⟩:=hd.std _ hx
 simp only at h1 h2 h3 h4 h5
 have ht:(padB bs).take bs.length=bs:=by simp [padB]
 cases hf:v.st.mem.find? (hitB A bs.length (shaF bs)) with
 | some k=>
  have hk1:=remL_find hf
  have hk2:hitB A bs.length (shaF bs) k=true:=List.find?_some hf
  obtain⟨x,hxL,hke⟩:=hd.mem k hk1
  have hxe:x=(A,bs):=by
   refine hd.uniq x hxL (A,bs) hx ?_
   rw [hitB,hke] at hk2
   simp only [Bool.and_eq_true,beq_iff_eq] at hk2
   have:=hk2.1
   show x.1=A
   omega
  subst hxe
  have hkl:k.2.2=bs:=by rw [hke]
  refine(stget_hit y v A bs.length birth (shaF bs) k w h hf (by rw [hkl];omega)).mono ?_
  rintro e w' ⟨u,v',rfl,how,hs,hr,hF⟩
  rw [hkl] at how
  refine⟨u,v',rfl,how.rd,hs,⟨hr.ws,hr.spc,by rw [hr.st]⟩,hd.read hx hr.ws (by rw [hr.st,hke]),hF⟩
 | none=>
  have hmiss:=iv_ y v A bs.length birth (padB bs) zs w h (by rw [ht];exact hf) h3 h4 h5 (by have:=hd.wl;omega) (by simp [padB];omega) h1 h2
  rw [ht] at hmiss
  refine hmiss.mono ?_
  rintro e w' ⟨u,v',rfl,hrd,hs,hr,hF⟩
  exact⟨u,v',rfl,hrd,hs,⟨hr.ws,hr.spc,by rw [hr.st]⟩,hd.read hx hr.ws (by rw [hr.st]),hF⟩
def allW:(n:Nat)->List (El n)->Prop
 | 0,_=> True
 | n+1,t=> ∀k∈(t:List (Pc n)),k.2.1≠none
def DskK (L:List Blk) (n:Nat) (r:Rf n):Prop:= ∀q,r.1=some q->(q.1,bh_ n r.2)∈L/\PtAt q (bh_ n r.2)/\GoodPt q/\allW n r.2/\r.2≠ []
def DskT (L:List Blk):(n:Nat)->List (El n)->Prop
 | 0,_=> True
 | n+1,t=> ∀k∈(t:List (Pc n)),DskK L n k.2/\DskT L n k.2.2
def refV (x:Rfm):Value:= .agg #[.int .i64 x.1.1,.int .i64 x.1.2.1,.int .i64 x.1.2.2.1,.string ⟨x.1.2.2.2.toArray⟩,ptV x.2]
theorem trparse_c (n:Nat) (v:Value) (t:List (El n)) (w:World) (hv:EB.Rd w v (bh_ n t)) (hg:GoodT n t) (hw:allW n t) (hne:t≠ []) (hbl:(bh_ n t).length<=1024):Calls Tryz.prog 93 #[v] w (ig_ n t w):=by
 cases n with
 | zero=> exact io_ v t w hv hg hne hbl
 | succ n=>
  refine(in_ v t w hv hg.items hg.1 (fun k hk=> ?_) hne hbl).mono ?_
  ·cases hq:k.2.1 with
   | none=> exact absurd hq (hw k hk)
   | some q=> exact⟨q,rfl,(hg.2 k hk).2.1 q hq⟩
  ·rintro e w' ⟨b,rfl,h1,h2⟩
   exact⟨b,rfl,⟨_,h1,gl_ _ t hw⟩,h2⟩
def LoadPost (Av:Nat->Prop) (y:Sy) (v:Sv) (L:List Blk) (n:Nat) (t:List (El n)) (w:World) (e:Ending) (w':World):Prop:=
 ∃b v',e= .returned (.tuple #[.pointer (some ⟨b,0,none⟩),.int .i64 0])/\NodeRI (fun k=> Av k\/w.heap.size<=k) w' n b t/\SyR w' y v'/\SameV v v'/\Dsk y v' L/\SyF y w w'
theorem df_ (Av:Nat->Prop) (y:Sy) (v:Sv) (L:List Blk) (n:Nat) (yv:Rfm) (r:Rf n) (w:World) (h:SyR w y v) (hd:Dsk y v L) (hk:KidR (NodeRI Av w n) yv r) (hK:DskK L n r) (hg:GoodT n r.2):
  Calls Tryz.prog 62 #[.pointer (some ⟨y.b,0,none⟩),refV yv] w (LoadPost Av y v L n r.2 w):=by
 obtain⟨HS,HD,HG,HK⟩:=h_4 h hd hg hK
 cases hr:r.1 with
 | none=>
  have hk2: ∃b,yv=(P0,some b)/\NodeRI Av w n b r.2:=by
   unfold KidR at hk
   simp only [hr] at hk
   exact hk
  obtain⟨b,rfl,hn⟩:=hk2
  have HNd:=hi_ hn
  simp only [refV,ptV,Option.map_some]
  clear h hd hg hK hk hn hr
  have hE:Ext [] w (w.alloc (.cells #[.int .i64 0,.int .i64 0,.int .i64 0,.string ⟨#[]⟩,.pointer (some ⟨b,0,none⟩)] 89)):=(Ext.refl [] w).alloc _
  go_enter Tryz.func62,Tryz.ntmps62
  go_wp2
  go_ret2
  exact⟨b,v,rfl,NodeRI.mono (fun k h _=> .inl h) _ _ _ (NodeRI.ext hE (by simp) _ _ _ HNd.out),HS.out.ext0 hE,SameV.refl v,HD.out,SyF.of0 hE⟩
 | some q=>
  have hk2:yv=(q,none):=by
   unfold KidR at hk
   simp only [hr] at hk
   exact hk
  subst hk2
  obtain⟨hx,hpt,hgq,hw,hne⟩:=hK q hr
  obtain⟨HX,HPT,HW,HNE⟩:=h_4 hx hpt hw hne
  have hbl:(bh_ n r.2).length<=1024:=(hd.std _ hx).2.1
  have HBL:=hi_ hbl
  simp only [refV,ptV,Option.map_none]
  clear h hd hg hK hk hr hx hpt hgq hw hne hbl
  have hE:Ext [] w (w.alloc (.cells #[.int .i64 q.1,.int .i64 q.2.1,.int .i64 q.2.2.1,.string ⟨q.2.2.2.toArray⟩,.pointer none] 89)):=(Ext.refl [] w).alloc _
  have HE:=hi_ hE
  clear hE
  go_enter Tryz.func62,Tryz.ntmps62
  go_wp2_with fail
  have hs:=HS.out.ext0 HE.out
  refine(stget_c y v L q (bh_ n r.2) _ hs HD.out HX.out HPT.out).mono ?_
  rintro e W1 ⟨u,v',rfl,hrd,hs1,hsame,hd1,hF1⟩
  obtain⟨HS1,HRD,HSM,HD1⟩:=h_4 hs1 hrd hsame hd1
  have HF1:=hi_ ((SyF.of0 HE.out:SyF y w _).trans hF1)
  clear hs hs1 hrd hsame hd1 hF1
  go_wp2_with fail
  refine(trparse_c n u r.2 _ HRD.out HG.out HW.out HNE.out HBL.out).mono ?_
  rintro e W2 ⟨b,rfl,hn,hE2⟩
  go_wp2
  go_ret2
  exact⟨b,v',rfl,NodeRI.mono (fun k h _=> .inr (Nat.le_trans HF1.out.size h)) _ _ _ hn,HS1.out.ext0 hE2,HSM.out,HD1.out,HF1.out.trans (SyF.of0 hE2)⟩
def inR (fr up:Ky) (p:Pr):Bool:=decide (¬p.1 < fr) && (decide (up= []) || decide (p.1 < up))
def selR (fr up:Ky) (l:List Pr):List Pr:=l.filter (inR fr up)
structure SepL {n:Nat} (t:List (Pc n)):Prop where
 lo: ∀(i j:Nat) x y,i < j->t[i]? =some x->t[j]? =some y-> ∀p∈prs n x.2.2,p.1 < y.1
 hi: ∀(i:Nat) x,0 < i->t[i]? =some x-> ∀p∈prs n x.2.2,¬p.1 < x.1
def WfT:(n:Nat)->List (El n)->Prop
 | 0,t=> SrtK t
 | n+1,t=> SrtS (q_ (n:=n) t)/\SepL (n:=n) t/\ ∀k∈(t:List (Pc n)),WfT n k.2.2
def NeT:(n:Nat)->List (El n)->Prop
 | 0,t=> t≠ []
 | n+1,t=> t≠ []/\ ∀k∈(t:List (Pc n)),NeT n k.2.2
theorem WfT.succ {t:List (Pc n)} (h:WfT (n+1) t):SrtS (q_ t)/\SepL t/\ ∀k∈t,WfT n k.2.2:=h
theorem aE_ (a b:Ky) (l m:List Pr):selR a b (l++m)=selR a b l++selR a b m:=List.filter_append ..
theorem hC_ {a b:Ky} (h: ∀p∈l,p.1 < a):selR a b l= []:=by
 rw [selR,List.filter_eq_nil_iff]
 intro p hp
 have:=h p hp
 simp [inR,this]
theorem fR_ {a b:Ky} (hb:b≠ []) (h: ∀p∈l,¬p.1 < b):selR a b l= []:=by
 rw [selR,List.filter_eq_nil_iff]
 intro p hp
 have:=h p hp
 simp [inR,this,hb]
theorem take_more {α:Type} (A B:List α) (r:Nat):A.take r++B.take (r - (A.take r).length)=(A++B).take r:=by
 rw [List.take_append]
 congr 2
 rw [List.length_take]
 omega
theorem bK_ (t:List (Pc n)) (i:Nat) (h:i+1 < t.length):(q_ t)[i]? =some t[i+1].1:=by
 rw [q_,List.getElem?_map,List.getElem?_drop,Nat.add_comm 1 i,List.getElem?_eq_getElem h]
 rfl
structure KidAt {n:Nat} (t:List (Pc n)) (k:Ky) (i:Nat):Prop where
 lt:i < t.length
 lo: ∀j x,0 < j->j<=i->t[j]? =some x-> ¬k < x.1
 hi: ∀j x,i < j->t[j]? =some x->k < x.1
theorem SrtS.leK_at {s:List Ky} (hs:SrtS s) (k:Ky): ∃a,leK s k=a/\a<=s.length/\(∀i x,i < a->s[i]? =some x-> ¬k < x)/\(∀i x,a<=i->s[i]? =some x->k < x):=by
 refine⟨_,rfl,List.countP_le_length, ?_⟩
 induction s with
 | nil=> simp
 | cons b s ih=>
  have hs':SrtS s:=(List.pairwise_cons.1 hs).2
  have hb:=(List.pairwise_cons.1 hs).1
  obtain⟨h1,h2⟩:=ih hs'
  by_cases hk:k < b
  ·have h0:leK s k=0:=by
    rw [leK,List.countP_eq_zero]
    intro x hx
    have:=P_ hk (hb x hx)
    simpa using this
   have e:leK (b::s) k=0:=by
    rw [leK,List.countP_cons]
    rw [leK] at h0
    rw [h0]
    simp [hk]
   rw [e]
   refine⟨fun i x hi=> by omega,fun i x _ hx=> ?_⟩
   cases i with
   | zero=> simp at hx;subst hx;exact hk
   | succ i=> exact h2 i x (by omega) (by simpa using hx)
  ·have e:leK (b::s) k=leK s k+1:=by
    rw [leK,List.countP_cons]
    simp [hk,leK]
   rw [e]
   refine⟨fun i x hi hx=> ?_,fun i x hi hx=> ?_⟩
   ·cases i with
    | zero=> simp at hx;subst hx;exact hk
    | succ i=> exact h1 i x (by omega) (by simpa using hx)
   ·cases i with
    | zero=> omega
    | succ i=> exact h2 i x (by omega) (by simpa using hx)
theorem kidAt {t:List (Pc n)} (hs:SrtS (q_ t)) (k:Ky) (ht:t≠ []):KidAt t k (leK (q_ t) k):=by
 obtain⟨a,ha,hal,h1,h2⟩:=hs.leK_at k
 rw [ha]
 have hpos:=List.length_pos_iff.2 ht
 rw [u_] at hal
 refine⟨by omega,fun j x hj hji hx=> ?_,fun j x hj hx=> ?_⟩
 ·obtain⟨hl,he⟩:=List.getElem?_eq_some_iff.1 hx
  have h3:=bK_ t (j - 1) (by omega)
  have e:t[j - 1+1]'(by omega)=x:=by rw [<-he];congr 1;omega
  rw [e] at h3
  exact h1 (j - 1) _ (by omega) h3
 ·obtain⟨hl,he⟩:=List.getElem?_eq_some_iff.1 hx
  have h3:=bK_ t (j - 1) (by omega)
  have e:t[j - 1+1]'(by omega)=x:=by rw [<-he];congr 1;omega
  rw [e] at h3
  exact h2 (j - 1) _ (by omega) h3
theorem fZ_ (t:List (Pc n)) (i:Nat) (hi:i < t.length):(prsP (t.take i)).length+(prs n t[i].2.2).length<=(prsP t).length:=by
 have e:t=t.take i++t[i]::t.drop (i+1):=by rw [<-List.drop_eq_getElem_cons hi,List.take_append_drop]
 have h:=congrArg (fun z=> (prsP z).length) e
 simp only [ad_,v_,List.length_append] at h
 omega
theorem eY_ (t:List (Pc n)) (i:Nat) (hi:i < t.length):prsP (t.take (i+1))=prsP (t.take i)++prs n t[i].2.2:=by
 rw [List.take_succ_eq_append_getElem hi,ad_,v_,co_,List.append_nil]
theorem gh_ {t:List (Pc n)} {p:Pr} (h:p∈prsP (t.take i)): ∃j x,j < i/\t[j]? =some x/\p∈prs n x.2.2:=by
 rw [by_] at h
 obtain⟨x,hx,hp⟩:=h
 obtain⟨j,hj⟩:=List.getElem?_of_mem hx
 rw [List.getElem?_take] at hj
 split at hj
 ·exact⟨j,x,by assumption,hj,hp⟩
 ·cases hj
theorem gi_ {t:List (Pc n)} {p:Pr} (h:p∈prsP (t.drop i)): ∃j x,i<=j/\t[j]? =some x/\p∈prs n x.2.2:=by
 rw [by_] at h
 obtain⟨x,hx,hp⟩:=h
 obtain⟨j,hj⟩:=List.getElem?_of_mem hx
 rw [List.getElem?_drop] at hj
 exact⟨i+j,x,by omega,hj,hp⟩
theorem fY_ (t:List (Pc n)) (i:Nat):prsP t=prsP (t.take i)++prsP (t.drop i):=by
 conv=> lhs;rw [<-List.take_append_drop i t]
 exact ad_ _ _
theorem sel_ahead {t:List (Pc n)} (hs:SepL t) {a b:Ky} (hk:KidAt t a i):selR a b (prsP (t.take i))= []:=by
 refine hC_ (fun p hp=> ?_)
 obtain⟨j,x,hj,hx,hp⟩:=gh_ hp
 have hi:=List.getElem?_eq_getElem hk.lt
 have h1:=hs.lo j i x _ hj hx hi p hp
 exact cr_ h1 (hk.lo i _ (by omega) (Nat.le_refl _) hi)
theorem ix_ {t:List (Pc n)} (hs:SepL t) (hs2:SrtS (q_ t)) {a b:Ky} (h0:0 < i) (hb:b≠ []) {x:Pc n} (hx:t[i]? =some x) (hk: ¬x.1 < b):selR a b (prsP (t.drop i))= []:=by
 refine fR_ hb (fun p hp hlt=> ?_)
 obtain⟨j,y,hj,hy,hp⟩:=gi_ hp
 have h1:=hs.hi j y (by omega) hy p hp
 have h2: ¬y.1 < x.1:=by
  by_cases hij:i=j
  ·subst hij
   rw [hx] at hy
   cases hy
   exact ax_ _
  ·obtain⟨hl,he⟩:=List.getElem?_eq_some_iff.1 hx
   obtain⟨hl2,he2⟩:=List.getElem?_eq_some_iff.1 hy
   have h3:=bK_ t (i - 1) (by omega)
   have h4:=bK_ t (j - 1) (by omega)
   have e3:t[i - 1+1]'(by omega)=x:=by rw [<-he];congr 1;omega
   have e4:t[j - 1+1]'(by omega)=y:=by rw [<-he2];congr 1;omega
   rw [e3] at h3
   rw [e4] at h4
   obtain⟨q3,r3⟩:=List.getElem?_eq_some_iff.1 h3
   obtain⟨q4,r4⟩:=List.getElem?_eq_some_iff.1 h4
   have:=List.pairwise_iff_getElem.1 hs2 (i - 1) (j - 1) q3 q4 (by omega)
   rw [r3,r4] at this
   exact bg_ this
 -- x.1 <= y.1 <= p.1 < b
 have h5:x.1 < b:=by
  have h6:y.1 < b:=bT_ h1 hlt
  exact bT_ h2 h6
 exact hk h5
abbrev aN_:List TypeId:= [117,127,143,4,339,5,175,168,165]
theorem SyR.otherT (h:SyR w y v) (he:Ext S w w') (hS: ∀g∈S,∀T∈aN_,p_ w g≠some T):SyR w' y v:=by
 have he':ExtT S [] w w':=ExtT.of he (fun z hz=> .inl hz)
 have ne: ∀{x:Nat} {T:TypeId},p_ w x=some T->T∈aN_->x∉S:=fun ht hT hm=> hS _ hm _ hT ht
 refine⟨h.st.extT he' (ne h.st.tag (by simp)) (fun z hz=> ⟨hS z hz _ (by simp),hS z hz _ (by simp)⟩) (by decide) (by decide) (by decide),h.ar.extT he' (ne h.ar.tag (by simp)) (by decide),h.rk.extT he' (ne h.rk.tag.1 (by simp)) (ne h.rk.tag.2 (by simp)) (fun z hz=> ⟨hS z hz _ (by simp),hS z hz _ (by simp)⟩) (by decide),h.sp.extT he' (ne h.sp.tag (by simp)) (fun z hz=> hS z hz _ (by simp)) (by decide) (by decide),h.spi,h.k1,h.k8,h.S2,h.FS,h.cells,h.mem⟩
def TF (y:Sy) (ov:Value) (w w':World):Prop:=ExtT ([y.b,y.r,y.sp]++blkL ov) SyT w w'
theorem TF.refl (y:Sy) (ov:Value) (w:World):TF y ov w w:=ExtT.refl _ _ _
theorem TF.of {ov:Value} (h:SyF y w w'):TF y ov w w':=h.mono (fun _ hx=> .inl (List.mem_append_left _ hx)) (fun _ h=> h)
theorem TF.app {ov:Value} (h:Ext (blkL ov) w w'):TF y ov w w':=ExtT.of h (fun _ hx=> .inl (List.mem_append_right _ hx))
theorem TF.trans {ov ov':Value} {a b c:World} (h:TF y ov a b) (n:Near a ov ov') (k:TF y ov' b c):TF y ov a c:=
 ExtT.trans' h k (fun _ h=> .inl h) (fun x hx=> by
  rcases List.mem_append.1 hx with hx | hx
  ·exact .inl (List.mem_append_left _ hx)
  ·rcases n x hx with h1 | h1
   ·exact .inl (List.mem_append_right _ h1)
   ·exact .inr h1) (fun _ h=> h) (fun _ h=> h)
theorem TF.size {ov:Value} (h:TF y ov w w'):w.heap.size<=w'.heap.size:=ExtT.size h
theorem Near.refl (w:World) (v:Value):Near w v v:=fun _ h=> .inl h
theorem Near.trans {a b:World} {v v' v'':Value} (h:Near a v v') (hs:a.heap.size<=b.heap.size) (k:Near b v' v''):Near a v v'':=fun g hg=> by
 rcases k g hg with h1 | h1
 ·exact h g h1
 ·exact .inr (by omega)
theorem TF.blocks {ov:Value} (hy:SyR w y v) (h:TF y ov w w'): ∃S,Ext S w w'/\ ∀k∈S,k∈blkL ov\/ ∀T∈aJ_,p_ w k≠some T:=by
 obtain⟨S,h1,h2⟩:=h
 refine⟨S,h1,fun k hk=> ?_⟩
 rcases h2 k hk with h | ⟨T',h3,h4,_⟩
 ·rcases List.mem_append.1 h with h | h
  ·refine .inr (fun T hT=> ?_)
   simp only [List.mem_cons,List.not_mem_nil,or_false] at h
   rcases h with rfl | rfl | rfl
   ·rw [hy.st.tag];revert T;decide
   ·rw [hy.rk.tag.1];revert T;decide
   ·rw [hy.sp.tag];revert T;decide
  ·exact .inl h
 ·refine .inr (fun T hT=> ?_)
  rw [h4]
  intro e
  cases e
  simp only [List.mem_cons,List.not_mem_nil,or_false] at h3
  rcases h3 with rfl | rfl <;> exact absurd hT (by decide)
theorem NodeI.tf {ov:Value} (h:NodeI Av w b leaf ps ks rs) (hy:SyR w y v) (hf:TF y ov w w') (ho: ∀k∈blkL ov,¬Av k):NodeI Av w' b leaf ps ks rs:=by
 obtain⟨S,h1,h2⟩:=hf.blocks hy
 exact h.ext h1 (fun k hk ha=> by
  rcases h2 k hk with h3 | h3
  ·exact absurd ha (ho k h3)
  ·exact h3)
theorem NodeRI.tf {ov:Value} (hy:SyR w y v) (hf:TF y ov w w') (ho: ∀k∈blkL ov,¬Av k) (n b:Nat) (t:List (El n)) (h:NodeRI Av w n b t):NodeRI Av w' n b t:=by
 obtain⟨S,h1,h2⟩:=hf.blocks hy
 exact NodeRI.ext h1 (fun k hk ha=> by
  rcases h2 k hk with h3 | h3
  ·exact absurd ha (ho k h3)
  ·exact h3) n b t h
def ho_ (y:Sy) (v:Sv) (L:List Blk) (ov:Value) (zs:List Pr) (w:World) (e:Ending) (w':World):Prop:=
 ∃ov' v',e= .returned (.tuple #[ov',.int .i64 0])/\EPr.Ow 36 w' ov' zs/\SyR w' y v'/\SameV v v'/\Dsk y v' L/\TF y ov w w'/\Near w ov ov'
structure ColS (y:Sy) (v v':Sv) (L:List Blk) (ov ov':Value) (zs:List Pr) (w w':World):Prop where
 ow:EPr.Ow 36 w' ov' zs
 sy:SyR w' y v'
 same:SameV v v'
 dsk:Dsk y v' L
 tf:TF y ov w w'
 near:Near w ov ov'
theorem ColS.app {L:List Blk} {ov ov' ov2:Value} {zs zs2:List Pr} (h:ColS y v v' L ov ov' zs w w') (how:EPr.Ow 36 w2 ov2 zs2) (hE:Ext (blkL ov') w' w2) (hn:Near w' ov' ov2):ColS y v v' L ov ov2 zs2 w w2:=by
 have ht:=h.ow.tagOf
 exact⟨how,h.sy.otherT hE (fun g hg T hT=> by rw [ht g hg];revert T;decide),h.same,h.dsk,h.tf.trans h.near (TF.app hE),h.near.trans h.tf.size hn⟩
theorem ColS.step {v v' v2:Sv} {L:List Blk} {ov ov' ov2:Value} {zs zs2:List Pr} (h:ColS y v v' L ov ov' zs w w') (k:ColS y v' v2 L ov' ov2 zs2 w' w2):ColS y v v2 L ov ov2 zs2 w w2:=
 ⟨k.ow,k.sy,h.same.trans k.same,k.dsk,h.tf.trans h.near k.tf,h.near.trans h.tf.size k.near⟩
theorem ColS.ext0 {L:List Blk} {ov ov':Value} {zs:List Pr} (h:ColS y v v' L ov ov' zs w w') (he:Ext [] w' w2):ColS y v v' L ov ov' zs w w2:=
 ⟨h.ow.ext0 he,h.sy.ext0 he,h.same,h.dsk,h.tf.trans h.near (TF.of (SyF.of0 he)),h.near⟩
theorem sel_step {fr up:Ky} (t:List Pr) (i:Nat) (hi:i < t.length) (h1: ¬t[i].1 < fr) (h2:up= []\/t[i].1 < up):selR fr up (t.take (i+1))=selR fr up (t.take i)++ [t[i]]:=by
 rw [List.take_succ_eq_append_getElem hi,aE_]
 congr 1
 have:inR fr up t[i]=true:=by
  rcases h2 with h2 | h2 <;> simp [inR,h1,h2]
 simp [selR,this]
theorem sel_end {fr up:Ky} (t:List Pr) (hs:SrtK t) (i:Nat) (hi:i < t.length) (hu:up≠ []) (h: ¬t[i].1 < up):selR fr up t=selR fr up (t.take i):=by
 conv=> lhs;rw [<-List.take_append_drop i t]
 rw [aE_,fR_ (l:=t.drop i) hu (fun p hp hlt=> ?_),List.append_nil]
 obtain⟨j,hj⟩:=List.getElem?_of_mem hp
 rw [List.getElem?_drop] at hj
 obtain⟨hl,he⟩:=List.getElem?_eq_some_iff.1 hj
 by_cases hj0:j=0
 ·subst hj0
  simp only [Nat.add_zero] at he
  rw [he] at h
  exact h hlt
 ·have:=List.pairwise_iff_getElem.1 hs i (i+j) hi hl (by omega)
  rw [he] at this
  exact h (P_ this hlt)
theorem sel_pre {fr up:Ky} (t:List Pr) (i:Nat): ∃rest,selR fr up t=selR fr up (t.take i)++rest:=by
 refine⟨selR fr up (t.drop i), ?_⟩
 conv=> lhs;rw [<-List.take_append_drop i t]
 exact aE_ _ _ _ _
theorem sel_full {fr up:Ky} (t:List Pr) (i r:Nat) (h1:(selR fr up (t.take i)).length<=r) (h2:r<=(selR fr up (t.take i)).length):(selR fr up t).take r=selR fr up (t.take i):=by
 obtain⟨rest,e⟩:=sel_pre (fr:=fr) (up:=up) t i
 rw [e,show r=(selR fr up (t.take i)).length by omega,List.take_left]
theorem SrtK.atF_spec {t:List Pr} (hs:SrtK t) (k:Ky):atF t k<=t.length/\(∀i x,i < atF t k->t[i]? =some x->x.1 < k)/\(∀i x,atF t k<=i->t[i]? =some x-> ¬x.1 < k):=by
 refine⟨List.countP_le_length, ?_⟩
 induction t with
 | nil=> simp
 | cons b s ih=>
  have hs':SrtK s:=(List.pairwise_cons.1 hs).2
  have hb:=(List.pairwise_cons.1 hs).1
  obtain⟨h1,h2⟩:=ih hs'
  by_cases hk:b.1 < k
  ·have e:atF (b::s) k=atF s k+1:=by
    rw [atF,List.countP_cons]
    simp [hk,atF]
   rw [e]
   refine⟨fun i x hi hx=> ?_,fun i x hi hx=> ?_⟩
   ·cases i with
    | zero=> simp at hx;subst hx;exact hk
    | succ i=> exact h1 i x (by omega) (by simpa using hx)
   ·cases i with
    | zero=> omega
    | succ i=> exact h2 i x (by omega) (by simpa using hx)
  ·have h0:atF s k=0:=by
    rw [atF,List.countP_eq_zero]
    intro x hx
    have:=hb x hx
    simp only [decide_eq_true_eq]
    exact fun h=> hk (P_ this h)
   have e:atF (b::s) k=0:=by
    rw [atF,List.countP_cons]
    rw [atF] at h0
    rw [h0]
    simp [hk]
   rw [e]
   refine⟨fun i x hi=> by omega,fun i x _ hx=> ?_⟩
   cases i with
   | zero=> simp at hx;subst hx;exact hk
   | succ i=> exact h2 i x (by omega) (by simpa using hx)
theorem NodeI.cells (h:NodeI Av w b leaf ps ks rs): ∃pp cp pk ck pr cr,w.cell? ⟨b,0,none⟩=some (.bool leaf)/\w.cell? ⟨b,1,none⟩=some (.slice pp ps.length cp)/\w.cell? ⟨b,2,none⟩=some (.slice pk ks.length ck)/\w.cell? ⟨b,3,none⟩=some (.slice pr rs.length cr)/\
  EPr.Ow 36 w (.slice pp ps.length cp) ps/\EKy.Ow 9 w (.slice pk ks.length ck) ks/\ERf.Ow 89 w (.slice pr rs.length cr) rs:=by
 obtain⟨pp,cp,pk,ck,pr,cr,h0,h1,h2,h3,h4,h5,h6,_⟩:=h.node.cells
 exact⟨pp,cp,pk,ck,pr,cr,h0,h1,h2,h3,h4,h5,h6⟩
theorem gg_ (W0:World) (x:Pr):EPr.Rd (W0.alloc (.cells #[.string ⟨x.1.toArray⟩,.string ⟨x.2.toArray⟩] T)) (.slice (some ⟨W0.heap.size,0,none⟩) 1 1) [x]:=by
 refine .inr ⟨W0.heap.size,0,1,rfl,Nat.le_refl _,by simp,fun j u hj=> ?_⟩
 rw [cell_of_row _ W0.heap.size _ _ _ _ (heap_alloc_new _ _),Nat.zero_add,<-hj]
 simp [EPr,Enc.flat]
theorem ColS.post {L:List Blk} {ov:Value} {po:Option Addr} {n c:Nat} {zs:List Pr} (h:ColS y v v' L ov (.slice po n c) zs w w'):ho_ y v L ov zs w (.returned (.tuple #[.slice po n c,.int .i64 0])) w':=
 ⟨_,v',rfl,h.ow,h.sy,h.same,h.dsk,h.tf,h.near⟩
structure ColIn (Av:Nat->Prop) (y:Sy) (v:Sv) (L:List Blk) (n:Nat) (yv:Rfm) (r:Rf n) (ov:Value) (outs:List Pr) (w:World):Prop where
 sy:SyR w y v
 dsk:Dsk y v L
 kid:KidR (NodeRI Av w n) yv r
 dk:DskK L n r
 dt:DskT L n r.2
 good:GoodT n r.2
 wf:WfT n r.2
 ne:NeT n r.2
 ow:EPr.Ow 36 w ov outs
 av: ∀k∈blkL ov,¬Av k
 avl: ∀k,Av k->k < w.heap.size
 bd:outs.length+(prs n r.2).length<=1000000
theorem iW_ (Av:Nat->Prop) (y:Sy) (v:Sv) (L:List Blk) (yv:Rfm) (r:Rf 0) (fr up:Ky) (m:Nat) (ov:Value) (outs:List Pr) (w:World) (h:ColIn Av y v L 0 yv r ov outs w) (hm:(m:Int)<=9223372036854775807):
  Calls Tryz.prog 48 #[.pointer (some ⟨y.b,0,none⟩),refV yv,.string ⟨fr.toArray⟩,.string ⟨up.toArray⟩,.int .i64 m,ov] w (ho_ y v L ov (outs++(selR fr up r.2).take (m - outs.length)) w):=by
 obtain⟨po,co,rfl,_⟩:=h.ow.rd.len_eq
 have hE0:Ext [] w (w.alloc (.cells (refV yv).cells 89)):=(Ext.refl [] w).alloc _
 have hload:=df_ Av y v L 0 yv r _ (h.sy.ext0 hE0) h.dsk (h.kid.mono (fun b hn=> NodeRI.ext hE0 (by simp) _ _ _ hn)) h.dk h.good
 obtain⟨HH,HLD,HE0⟩:=h_3 h hload hE0
 have hbd:outs.length+List.length (α:=Pr) r.2<=1000000:=h.bd
 obtain⟨t,ht⟩: ∃t:List Pr,t=r.2:=⟨_,rfl⟩
 have hsrt:SrtK t:=by rw [ht];exact h.wf
 have HSR:=hi_ hsrt
 rw [<-ht] at hbd
 have HTR:=hi_ ht
 clear h hload hE0 ht hsrt
 simp only [refV,ptV,Value.cells] at HLD HE0 ⊢
 obtain⟨q,hq⟩: ∃q,q=Option.map (fun b=> (⟨b,0,none⟩:Addr)) yv.2:=⟨_,rfl⟩
 rw [<-hq] at HLD HE0 ⊢
 clear hq
 go_enter Tryz.func48,Tryz.ntmps48
 go_wp2_with fail
 refine HLD.out.mono ?_
 rintro e W1 ⟨b,v1,rfl,hn1,hs1,hsm1,hd1,hF1⟩
 have HW:Hid (ColS y v v1 L (.slice po outs.length co) (.slice po outs.length co) outs w W1):=hi_ ⟨by
  obtain⟨S,hS,hS2⟩:=TF.blocks (ov:= .slice none 0 0) (HH.out.sy.ext0 HE0.out) (TF.of hF1)
  exact(HH.out.ow.ext0 HE0.out).ext hS (fun g hg hm=> by
   rcases hS2 g hm with h | h
   ·simp [blkL] at h
   ·exact h _ (by simp) ((HH.out.ow.ext0 HE0.out).tagOf g hg)),hs1,hsm1,hd1,(TF.of (SyF.of0 HE0.out)).trans (Near.refl _ _) (TF.of hF1),Near.refl _ _⟩
 have hn1':NodeI (fun k=> (Av k\/w.heap.size<=k)/\k < W1.heap.size/\k∉blkL (.slice po outs.length co)) W1 b true t [] []:=by
  have hn2:=NodeRI.mono (Av':=fun k=> (Av k\/(w.alloc (.cells #[.int .i64 yv.1.1,.int .i64 yv.1.2.1,.int .i64 yv.1.2.2.1,.string ⟨yv.1.2.2.2.toArray⟩,.pointer q] 89)).heap.size<=k)/\k < W1.heap.size) (fun k h h2=> ⟨h,h2⟩) _ _ _ hn1
  rw [<-HTR.out] at hn2
  refine NodeI.mono hn2 (fun k hk _=> ?_)
  have hlt:=HH.out.ow.lt
  have hsz:w.heap.size<=(w.alloc (.cells #[.int .i64 yv.1.1,.int .i64 yv.1.2.1,.int .i64 yv.1.2.2.1,.string ⟨yv.1.2.2.2.toArray⟩,.pointer q] 89)).heap.size:=HE0.out.size
  refine⟨hk.1.imp id (fun h=> by omega),hk.2,fun hm=> ?_⟩
  rcases hk.1 with h | h
  ·exact HH.out.av k hm h
  ·have:=hlt k hm;omega
 have HN1:=hi_ hn1'
 clear hn1 hn1' hs1 hsm1 hd1 hF1 HE0 HLD
 have HW1:Hid (ColS y v1 v1 L (.slice po outs.length co) (.slice po outs.length co) outs W1 W1):=hi_ ⟨HW.out.ow,HW.out.sy,SameV.refl _,HW.out.dsk,TF.refl _ _ _,Near.refl _ _⟩
 have HAV:Hid (∀(wr:World) (ov':Value),Near W1 (.slice po outs.length co) ov'-> ∀k∈blkL ov',¬((Av k\/w.heap.size<=k)/\k < W1.heap.size/\k∉blkL (.slice po outs.length co))):=hi_ (fun wr ov' hn k hk ha=> by
  rcases hn k hk with h | h
  ·exact ha.2.2 h
  ·omega)
 obtain⟨N,hN⟩: ∃N,N=t.length:=⟨_,rfl⟩
 have HN:=hi_ hN
 rw [<-hN] at hbd
 obtain⟨pp,cp,pk,ck,pr,cr,c0,c1, -, -,hps, -, -⟩:=HN1.out.cells
 rw [<-hN] at c1 hps
 have HPS:=hi_ hps
 clear hps hN
 go_wp2_with fail
 refine(trat_c _ t fr _ (by rw [<-HN.out];omega) HPS.out.rd HSR.out).mono ?_
 rintro e W2 ⟨rfl,hE2⟩
 obtain⟨hi0,hlo,hhi⟩:=HSR.out.atF_spec fr
 obtain⟨i0,hi0e⟩: ∃i0,i0=atF t fr:=⟨_,rfl⟩
 rw [<-hi0e] at hi0 hlo hhi ⊢
 rw [<-HN.out] at hi0
 obtain⟨HLO,HHI⟩:=h_2 hlo hhi
 have HW2:=hi_ (HW1.out.ext0 hE2)
 have h0:selR fr up (t.take i0)= []:=hC_ (fun p hp=> by
  obtain⟨j,hj⟩:=List.getElem?_of_mem hp
  rw [List.getElem?_take] at hj
  split at hj
  ·exact hlo j p (by assumption) hj
  ·cases hj)
 have H0:=hi_ h0
 clear hi0e hlo hhi hE2 c0 c1 h0 HPS
 go_wp2_with fail
 go_loopw [5,16] (fun bv iv wr=> ∃(i:Nat) (v':Sv),i0<=i/\i<=N/\iv= .int .i64 i/\Hid (ColS y v1 v' L (.slice po outs.length co) bv (outs++selR fr up (t.take i)) W1 wr)/\Hid ((selR fr up (t.take i)).length<=m - outs.length)) (fun _ iv _=> N - (intOf iv).toNat)
 case atStart=> exact⟨i0,v1,Nat.le_refl _,hi0,rfl,hi_ (by rw [H0.out,List.append_nil];exact HW2.out),hi_ (by rw [H0.out];exact Nat.zero_le _)⟩
 case round=>
  obtain⟨i,v',hi1,hi2,rfl,HC,HL⟩:=hrel
  obtain⟨pb,cb,hbv,_⟩:=HC.out.ow.rd.len_eq
  rw [List.length_append] at hbv
  subst hbv
  obtain⟨s,hs⟩: ∃s,s=selR fr up (t.take i):=⟨_,rfl⟩
  rw [<-hs] at HC HL
  simp only [<-hs]
  have HS:=hi_ hs
  have hsl:s.length<=N:=by
   have h1:s.length<=(t.take i).length:=by rw [hs];exact List.length_filter_le _ _
   rw [List.length_take] at h1
   omega
  clear hs
  obtain⟨pp,cp,pk,ck,pr,cr,c0,c1, -, -,hps, -, -⟩:=(HN1.out.tf HW1.out.sy HC.out.tf (HAV.out wr _ (Near.refl _ _))).cells
  rw [<-HN.out] at c1 hps
  have HPS:=hi_ hps
  clear hps
  have hlen:outs.length+s.length<=1000000:=by omega
  by_cases hlt:i < N
  ·have z1:(i:Int) < (N:Int):=by omega
   have hit:i < t.length:=by rw [<-HN.out];exact hlt
   by_cases hms:outs.length+s.length < m
   ·have z2:(outs.length:Int)+(s.length:Int) < (m:Int):=by omega
    obtain⟨g,o,rfl⟩: ∃g o,pp=some ⟨g,o,none⟩:=by
     rcases HPS.out with ⟨h,_⟩ | ⟨g,o,c,_,h,_⟩
     ·simp only [Value.slice.injEq] at h;omega
     ·simp only [Value.slice.injEq] at h;exact⟨g,_,h.1⟩
    obtain⟨m1,m2⟩:=ag_ HPS.out.rd i hit
    have hx:t.getD i ([],[])=t[i]:=by simp [List.getD,hit]
    rw [hx] at m1 m2
    have hnf: ¬t[i].1 < fr:=HHI.out i _ hi1 (List.getElem?_eq_getElem hit)
    have hstep:=sel_step (fr:=fr) (up:=up) t i hit hnf
    have hend:=sel_end (fr:=fr) (up:=up) t HSR.out i hit
    rw [<-HS.out] at hstep hend
    obtain⟨x,hxx⟩: ∃x,x=t[i]:=⟨_,rfl⟩
    rw [<-hxx] at m1 m2 hstep hend
    obtain⟨HSTEP,HEND⟩:=h_2 hstep hend
    clear hx hxx hnf hstep hend
    by_cases hu:up= []
    ·subst hu
     have hs1:=HSTEP.out (.inl rfl)
     have HS1:=hi_ hs1
     clear hs1
     go_wp2_with (with_reducible refine e_ (d:=81) ?_)
     refine k_ rfl fun K hK=> b_ (E:=EPr) (T:=36) (zero:=([],[])) (bytes:=32) (v:= .slice pb (outs.length+s.length) cb) (xs:=outs++s) (ys:= [x]) tiPr Tryz.underlying22 Tryz.underlying22 rfl rfl rfl (HC.out.ow.ext0 ((Ext.refl [] wr).alloc _)) (gg_ wr x) (by simp;omega) (by simp;omega) ?_
     intro v9 w9 how hext hnear _
     rw [List.append_assoc,<-HS1.out] at how
     obtain⟨p9,c9,hv9,_⟩:=how.rd.len_eq
     rw [List.length_append] at hv9
     subst hv9
     have hc9:=(HC.out.ext0 ((Ext.refl [] wr).alloc (.cells #[.string ⟨x.1.toArray⟩,.string ⟨x.2.toArray⟩] 36))).app how hext hnear
     have HC9:=hi_ hc9
     have hl9:(selR fr [] (t.take (i+1))).length<=m - outs.length:=by rw [HS1.out,List.length_append,List.length_singleton];omega
     have HL9:=hi_ hl9
     clear how hext hnear hc9 hl9 m1 m2 c0 c1
     refine hK _ _ ?_
     clear hK
     go_wp2_with fail
     go_roundw
     case rel=> exact⟨i+1,v',by omega,by omega,by go_num,HC9,HL9⟩
     case measure=> simp [intOf];omega
    ·have hub:(up== [])=false:=beq_eq_false_iff_ne.2 hu
     by_cases hk:x.1 < up
     ·have hs1:=HSTEP.out (.inr hk)
      have HS1:=hi_ hs1
      have hbl:Op.bytesLess x.1 up=true:=by rw [ay_];simpa using hk
      clear hs1 hu hk
      go_wp2_with (with_reducible refine e_ (d:=81) ?_)
      refine k_ rfl fun K hK=> b_ (E:=EPr) (T:=36) (zero:=([],[])) (bytes:=32) (v:= .slice pb (outs.length+s.length) cb) (xs:=outs++s) (ys:= [x]) tiPr Tryz.underlying22 Tryz.underlying22 rfl rfl rfl (HC.out.ow.ext0 ((Ext.refl [] wr).alloc _)) (gg_ wr x) (by simp;omega) (by simp;omega) ?_
      intro v9 w9 how hext hnear _
      rw [List.append_assoc,<-HS1.out] at how
      obtain⟨p9,c9,hv9,_⟩:=how.rd.len_eq
      rw [List.length_append] at hv9
      subst hv9
      have hc9:=(HC.out.ext0 ((Ext.refl [] wr).alloc (.cells #[.string ⟨x.1.toArray⟩,.string ⟨x.2.toArray⟩] 36))).app how hext hnear
      have HC9:=hi_ hc9
      have hl9:(selR fr up (t.take (i+1))).length<=m - outs.length:=by rw [HS1.out,List.length_append,List.length_singleton];omega
      have HL9:=hi_ hl9
      clear how hext hnear hc9 hl9 m1 m2 c0 c1
      refine hK _ _ ?_
      clear hK
      go_wp2_with fail
      go_roundw
      case rel=> exact⟨i+1,v',by omega,by omega,by go_num,HC9,HL9⟩
      case measure=> simp [intOf];omega
     ·have hs1:=HEND.out hu hk
      have hfull:(selR fr up t).take (m - outs.length)=s:=by rw [hs1,List.take_of_length_le HL.out]
      have fin:=(HW.out.step HC.out).post
      rw [<-hfull] at fin
      have hbl:Op.bytesLess x.1 up=false:=by rw [ay_];simpa using hk
      have hsl2:((selR fr up t).take (m - outs.length)).length=s.length:=by rw [hfull]
      rw [hsl2,HTR.out] at fin
      have FIN:=hi_ fin
      clear hs1 hu hk hfull fin hsl2
      go_wp2_with fail
      go_ret2
      exact FIN.out
   ·have z2: ¬((outs.length:Int)+(s.length:Int) < (m:Int)):=by omega
    have hfull:(selR fr up t).take (m - outs.length)=s:=by
     have h1:=HL.out
     rw [HS.out] at h1 ⊢
     exact sel_full t i _ h1 (by rw [<-HS.out];omega)
    have fin:=(HW.out.step HC.out).post
    rw [<-hfull] at fin
    have hsl2:((selR fr up t).take (m - outs.length)).length=s.length:=by rw [hfull]
    rw [hsl2,HTR.out] at fin
    have FIN:=hi_ fin
    clear hfull fin hsl2
    go_wp2_with fail
    go_ret2
    exact FIN.out
  ·have z1: ¬((i:Int) < (N:Int)):=by omega
   have hfull:(selR fr up t).take (m - outs.length)=s:=by
    have h1:=HL.out
    rw [HS.out,List.take_of_length_le (l:=t) (by rw [<-HN.out];omega)] at h1 ⊢
    exact List.take_of_length_le h1
   have fin:=(HW.out.step HC.out).post
   rw [<-hfull] at fin
   have hsl2:((selR fr up t).take (m - outs.length)).length=s.length:=by rw [hfull]
   rw [hsl2,HTR.out] at fin
   have FIN:=hi_ fin
   clear hfull fin hsl2
   go_wp2_with fail
   go_ret2
   exact FIN.out
end Go.Proofs.YtkpgjkekmdecbaaGreat
