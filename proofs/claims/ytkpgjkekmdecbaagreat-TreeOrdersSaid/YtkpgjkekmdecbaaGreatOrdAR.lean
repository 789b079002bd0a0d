/- Lemmas for the claim. No conditions beside those that each states. -/
import Derived.Test.YtkpgjkekmdecbaaGreatOrdAO
import Derived.Deep.QuietTactic
import Derived.BigQuiet
import Derived.Test.YtkpgjkekmdecbaaGreatOrdAP
import Derived.Test.YtkpgjkekmdecbaaGreatOrdAQ
set_option maxRecDepth 100000
set_option maxHeartbeats 8000000
set_option linter.all false

namespace Go.Proofs.YtkpgjkekmdecbaaGreat
open Go.RowKit
variable {w w' w2:World} {T:TypeId} {gv:Value} {n i tb b:Nat} {S:List Nat} {leaf:Bool} {Av:Nat -> Prop} {l ps:List Pr} {ks:List Ky} {yv:Rfm} {rs:List Rfm} {y:Sy} {v v':Sv} {r:Root}
theorem try0_c (rest c1 c2 c3 c4 c5 c6:Value) (fn ln size:Nat) (P:List UInt8) (w:World) (h:Calls Tryz.prog 164 #[.slice none 0 0,c1,c2,c3,c4,c5,c6] w (fm_ fn ln size P w)):
  Calls Tryz.prog 168 #[rest,.int .i64 0,.slice none 0 0,.func (.func 164) #[] #[c1,c2,c3,c4,c5,c6]] w (fm_ fn ln size P w):=by
 have H:=hi_ h
 clear h
 go_enter Tryz.func168,Tryz.ntmps168
 go_wp2_with fail
 refine H.out.mono ?_
 rintro e W1 ⟨p,c,rfl,h1,h2,h3,h4,h5⟩
 go_wp2
 go_ret
 exact⟨p,c,rfl,h1,h2,h3,h4,h5⟩
def ReadPost (size:Nat) (P:List UInt8) (w:World) (e:Ending) (w':World):Prop:= ∃(p:Option Addr) (c:Nat),e= .returned (.tuple #[.slice p size c,.slice none 0 0,.int .i64 0])/\EB.Rd w' (.slice p size c) (P.take size)/\(∀y∈blkL (.slice p size c),w.heap.size<=y/\r_ w' y=some 5)/\Ext [] w w'
theorem arread_c (a r gg k S F addr size:Nat) (ws:List (Nat×Nat×List UInt8)) (P:List UInt8) (zs:List (List UInt8)) (w:World) (hr:RackR w r gg (k+4) S ws) (ha:ArrR w a r (k+4) F) (hk1:1<=k) (hk:k<=8) (hS:S<=2000) (hF:F<=S) (h1:1<=size) (h2:size<=1024) (had:addr+B_ k size<=(k+4)*(S - F)) (hlay:LayOf k P ((size+127) / 128) zs) (hst:Stands ws (k+4) F addr zs) (hwl:ws.length<=1000000) (hP:128*((size+127) / 128)<=P.length):
  Calls Tryz.prog 118 #[.pointer (some ⟨a,0,none⟩),.int .i64 addr,.int .i64 size,.string ⟨(shaF (P.take size)).toArray⟩] w (ReadPost size P w):=by
 have hmf: ∀(fn:Fn) (first cap:Array Value) (w:World),(Instr.makeFunc fn first cap).run Tryz.prog w= .ok (.func fn first cap) w:=fun _ _ _ _=> rfl
 obtain⟨HR,HA,HAD,HLAY,HST,HP⟩:=h_6 hr ha had hlay hst hP
 obtain⟨su,hsu⟩: ∃s,s=(shaF (P.take size)).toArray:=⟨_,rfl⟩
 rw [<-hsu]
 have hss:su.size=32:=by rw [hsu,List.size_toArray,eA_]
 have HSU:=hi_ hsu
 clear hr ha had hlay hst hP hsu
 have hEa:Ext [] w ((w.alloc (.cells #[.int .i64 size] 3)).alloc (.cells #[.string ⟨su⟩] 9)):=((Ext.refl [] w).alloc _).alloc _
 have hb1:=((Ext.refl [] _).alloc (.cells #[.string ⟨su⟩] 9)).blk (heap_alloc_new w (.cells #[.int .i64 size] 3)) (by simp)
 have hb2:=heap_alloc_new (w.alloc (.cells #[.int .i64 size] 3)) (.cells #[.string ⟨su⟩] 9)
 have hsz:(w.alloc (.cells #[.int .i64 size] 3)).heap.size=w.heap.size+1:=by first | exact Array.size_push _ | simp
 rw [hsz] at hb2
 obtain⟨zn,hzn⟩: ∃z,z=w.heap.size:=⟨_,rfl⟩
 rw [<-hzn] at hb1 hb2
 obtain⟨un,hun⟩: ∃z,z=zn+1:=⟨_,rfl⟩
 rw [<-hun] at hb2
 obtain⟨HZN,HUN,HB1,HB2,HEA⟩:=h_5 hzn hun hb1 hb2 hEa
 clear hb1 hb2 hEa hsz hzn hun
 go_enter Tryz.func118,Tryz.ntmps118
 go_wp2_with fail
 simp only [<-HZN.out]
 simp only [<-HUN.out]
 refine(es_ a r gg k S F addr size ws _ (HR.out.ext0 HEA.out) (HA.out.ext0 HEA.out) hk1 hk hS hF h1 h2 HAD.out).mono ?_
 rintro e W1 ⟨v1,l1,rfl,hrd,hll,hlx, -,hE1⟩
 have HB1':=hi_ (hE1.blk HB1.out (by simp))
 have HB2':=hi_ (hE1.blk HB2.out (by simp))
 have HE1:=hi_ (HEA.out.trans hE1)
 have HR1:=hi_ (HR.out.ext0 HE1.out)
 have HA1:=hi_ (HA.out.ext0 HE1.out)
 obtain⟨HRD1,HLX⟩:=h_2 hrd hlx
 have cu:W1.cell? ⟨un,0,none⟩=some (.string ⟨su⟩):=by rw [cell_of_row _ _ 0 _ _ _ HB2'.out];rfl
 clear hrd hlx hE1 HB1 HB2 HEA HR HA
 go_wp2_with fail
 refine(hS_ a r gg (k+4) S F ws _ l1 _ HR1.out HA1.out HRD1.out (by omega) HLX.out).mono ?_
 rintro e W2 ⟨rfl,rfl⟩
 have hEb:=(Ext.refl [] W2).alloc (.cells #[.slice none 0 0] 208)
 have hbg:=heap_alloc_new W2 (.cells #[.slice none 0 0] 208)
 have cz:(W2.alloc (.cells #[.slice none 0 0] 208)).cell? ⟨zn,0,none⟩=some (.int .i64 size):=by rw [cell_of_row _ _ 0 _ _ _ (hEb.blk HB1'.out (by simp))];rfl
 go_wp2_with fail
 obtain⟨gn,hgn⟩: ∃g,g=W2.heap.size:=⟨_,rfl⟩
 rw [<-hgn] at hbg
 simp only [<-hgn]
 obtain⟨HBG,HGN⟩:=h_2 hbg hgn
 clear hbg hgn cu
 have HB1:=hi_ (hEb.blk HB1'.out (by simp))
 have HB2:=hi_ (hEb.blk HB2'.out (by simp))
 have HE2:=hi_ (HE1.out.trans hEb)
 have HR2:=hi_ (HR1.out.ext0 hEb)
 have HA2:=hi_ (HA1.out.ext0 hEb)
 have HRD2:=hi_ (HRD1.out.ext0 hEb)
 clear hEb HB1' HB2' HE1 HR1 HA1 HRD1
 revert cz HB1 HB2 HE2 HR2 HA2 HRD2 HBG
 generalize World.alloc _ _=W3
 intro cz HBG HB1 HB2 HE2 HR2 HA2 HRD2
 go_wp2_with fail
 refine(gV_ a r gg k S F addr size ws P zs _ HR2.out HA2.out hk1 hk hS hF h1 h2 HAD.out HLAY.out HST.out hwl).mono ?_
 rintro e W4 ⟨v4,ss,rfl,how4,hst4,hso4,hl8, -,hE4⟩
 obtain⟨p4,c4,rfl,_⟩:=how4.rd.len_eq
 rw [List.length_map] at how4 ⊢
 obtain⟨n4,hn4⟩: ∃n,n=ss.length:=⟨_,rfl⟩
 rw [<-hn4] at how4 ⊢
 clear hn4
 have hEb:=(Ext.refl [] W4).alloc (.cells #[.slice p4 n4 c4] 261)
 have hbs:=heap_alloc_new W4 (.cells #[.slice p4 n4 c4] 261)
 have hE4b:=hE4.trans hEb
 have cg:(W4.alloc (.cells #[.slice p4 n4 c4] 261)).cell? ⟨gn,0,none⟩=some (.slice none 0 0):=by rw [cell_of_row _ _ 0 _ _ _ (hE4b.blk HBG.out (by simp))];rfl
 go_wp2_with fail
 obtain⟨sn,hsn⟩: ∃g,g=W4.heap.size:=⟨_,rfl⟩
 rw [<-hsn] at hbs
 simp only [<-hsn]
 have HBS:=hi_ hbs
 have HB1':=hi_ (hE4b.blk HB1.out (by simp))
 have HB2':=hi_ (hE4b.blk HB2.out (by simp))
 have HBG':=hi_ (hE4b.blk HBG.out (by simp))
 have HE4:=hi_ (HE2.out.trans hE4b)
 have HRD4:=hi_ (HRD2.out.ext0 hE4b)
 have HOW4:=hi_ (how4.rd.ext0 hEb)
 have HST4:Hid (∀x∈ss,StrOk (W4.alloc (.cells #[.slice p4 n4 c4] 261)) W3.heap.size x.1 x.2):=hi_ (fun x hx=> (hst4 x hx).ext hEb (by simp))
 have HSO4:=hi_ hso4
 clear hbs hsn hEb hE4 hE4b HB1 HB2 HBG HE2 HR2 HA2 HRD2 how4 hst4 hso4 cz
 revert cg HB1' HB2' HBG' HE4 HRD4 HOW4 HST4 HBS
 generalize World.alloc _ _=W5
 intro cg HBS HB1 HB2 HBG HE4 HRD4 HOW4 HST4
 go_wp2_with fail
 refine(delfi_c _ l1 gn _ HRD4.out (by omega) cg).mono ?_
 rintro e W6 ⟨rfl,hE6⟩
 have hEb:Ext [] W6 ((W6.alloc (.cells #[.slice none 0 0] 158)).alloc (.cells #[.slice none 0 0] 208)):=((Ext.refl [] W6).alloc _).alloc _
 have hbf:=((Ext.refl [] _).alloc (.cells #[.slice none 0 0] 208)).blk (heap_alloc_new W6 (.cells #[.slice none 0 0] 158)) (by simp)
 have hbl:=heap_alloc_new (W6.alloc (.cells #[.slice none 0 0] 158)) (.cells #[.slice none 0 0] 208)
 have hsz:(W6.alloc (.cells #[.slice none 0 0] 158)).heap.size=W6.heap.size+1:=by first | exact Array.size_push _ | simp
 rw [hsz] at hbl
 have hE6b:=hE6.trans hEb
 have cg6:((W6.alloc (.cells #[.slice none 0 0] 158)).alloc (.cells #[.slice none 0 0] 208)).cell? ⟨gn,0,none⟩=some (.slice none 0 0):=hE6b.cell cg (by simp)
 clear hsz cg
 have HB1':=hi_ (hE6b.blk HB1.out (by simp))
 have HB2':=hi_ (hE6b.blk HB2.out (by simp))
 have HBG':=hi_ (hE6b.blk HBG.out (by simp))
 have HBS':=hi_ (hE6b.blk HBS.out (by simp))
 obtain⟨HBF,HBL⟩:=h_2 hbf hbl
 have HE6:=hi_ (HE4.out.trans hE6b)
 have HOW6:=hi_ (HOW4.out.ext0 hE6b)
 have HST6:Hid (∀x∈ss,StrOk ((W6.alloc (.cells #[.slice none 0 0] 158)).alloc (.cells #[.slice none 0 0] 208)) W3.heap.size x.1 x.2):=hi_ (fun x hx=> (HST4.out x hx).ext hE6b (by simp))
 have HLF:Hid (w.heap.size<=W6.heap.size):=hi_ (Nat.le_trans HE4.out.size hE6.size)
 clear hEb hbf hbl hE6b hE6 HB1 HB2 HBG HBS HE4 HOW4 HST4 HRD4
 go_wp2_with fail
 obtain⟨fn,hfn⟩: ∃g,g=W6.heap.size:=⟨_,rfl⟩
 rw [<-hfn] at HBF HBL HLF
 simp only [<-hfn]
 clear hfn
 obtain⟨ln,hln⟩: ∃g,g=fn+1:=⟨_,rfl⟩
 rw [<-hln] at HBL
 simp only [<-hln]
 have HLN:=hi_ hln
 clear hln
 revert cg6 HB1' HB2' HBG' HBS' HBF HBL HE6 HOW6 HST6
 generalize World.alloc _ _=W7
 intro cg6 HB1 HB2 HBG HBS HE6 HOW6 HST6 HBF HBL
 go_loopw [19,61] (fun _ iv wr=> iv= .int .i64 0/\wr=W7) (fun _ _ _=> 0)
 case atStart=> exact⟨rfl,rfl⟩
 case round=>
  obtain⟨rfl,rfl⟩:=hrel
  go_wp2_with fail
  have d1:wr.cell? ⟨zn,0,none⟩=some (.int .i64 size):=by rw [cell_of_row _ _ 0 _ _ _ HB1.out];rfl
  have d2:wr.cell? ⟨un,0,none⟩=some (.string ⟨su⟩):=by rw [cell_of_row _ _ 0 _ _ _ HB2.out];rfl
  have d3:wr.cell? ⟨sn,0,none⟩=some (.slice p4 n4 c4):=by rw [cell_of_row _ _ 0 _ _ _ HBS.out];rfl
  rw [HSU.out] at d2
  refine(try0_c v1 _ _ _ _ _ _ fn ln size P _ (fits_c k ((size+127) / 128) size W3.heap.size gn sn zn un fn ln P _ ss _ HOW6.out HST6.out HSO4.out hl8 hk h1 h2 (by omega) HP.out cg6 d3 d1 d2 HBF.out HBL.out)).mono ?_
  rintro e W8 ⟨p,c,rfl,hf8,hl8',hrd8,htg8,hE8⟩
  have f1:W8.cell? ⟨fn,0,none⟩=some (.slice p size c):=by rw [cell_of_row _ _ 0 _ _ _ hf8];rfl
  have f2:W8.cell? ⟨ln,0,none⟩=some (.slice none 0 0):=by rw [cell_of_row _ _ 0 _ _ _ hl8'];rfl
  obtain⟨HR8,HT8⟩:=h_2 hrd8 htg8
  have HE8:Hid (Ext [] w W8):=hi_ (HE6.out.trans' hE8 (by simp) (fun y hy=> .inr (by have:=HLF.out;have:=HLN.out;simp at hy;omega)))
  clear d1 d2 d3 cg6 hf8 hl8' hrd8 htg8 hE8 HB1 HB2 HBG HBS HBF HBL HOW6 HST6
  go_wp2_with fail
  go_quiet (fail)
  go_wp2
  go_ret3
  exact⟨p,c,rfl,HR8.out,fun y hy=> ⟨Nat.le_trans HE6.out.size (HT8.out y hy).1,(HT8.out y hy).2⟩,HE8.out.drewN _⟩
structure MissRel (v v':Sv) (k:Mno):Prop where
 ws:v'.ws=v.ws
 spc:v'.spc=v.spc
 st:v'.st={v.st with mem:=remL v.st.mem k,gets:=wr64 (v.st.gets+1),reads:=wr64 (v.st.reads+1)}
theorem ii_ (y:Sy) (v:Sv) (A size:Nat) (birth:Int) (P:List UInt8) (zs:List (List UInt8)) (w:World) (h:SyR w y v) (hf:v.st.mem.find? (hitB A size (shaF (P.take size)))=none) (had:A+B_ y.k size<=(y.k+4)*(y.S - y.F)) (hlay:LayOf y.k P ((size+127) / 128) zs) (hst:Stands v.ws (y.k+4) y.F A zs) (hwl:v.ws.length<=1000000) (hP:128*((size+127) / 128)<=P.length) (h1:1<=size) (h2:size<=1024):
  Calls Tryz.prog 92 #[.pointer (some ⟨y.b,0,none⟩),pagg A size birth (shaF (P.take size))] w fun e w'=> ∃u v',e= .returned (.tuple #[u,.int .i64 0])/\EB.Rd w' u (P.take size)/\SyR w' y v'/\MissRel v v' ((A:Int),shaF (P.take size),P.take size)/\SyF y w w':=by
 obtain⟨su,hsu⟩: ∃s,s=shaF (P.take size):=⟨_,rfl⟩
 have hptl:(P.take size).length=size:=by rw [List.length_take];omega
 rw [<-hsu] at hf ⊢
 have hEa:Ext [] w (w.alloc (.cells #[.int .i64 A,.int .i64 size,.int .i64 birth,.string ⟨su.toArray⟩] 34)):=(Ext.refl [] w).alloc _
 have hrc:=hs_ y.b y.a y.sp v.st A size birth su _ (h.st.ext0 hEa) (by have:=h.mem;omega)
 have HRC:=hi_ hrc
 have HS:=hi_ (h.ext0 hEa)
 have hb3:=heap_alloc_new w (.cells #[.int .i64 A,.int .i64 size,.int .i64 birth,.string ⟨su.toArray⟩] 34)
 obtain⟨v0,v1,v2,v3,_⟩:=M_ hb3
 obtain⟨HF,HB3,HSU,HAD,HLAY,HST,HP,HPT⟩:=h_8 hf hb3 hsu had hlay hst hP hptl
 rw [pagg]
 clear h hrc hf hb3 hsu had hlay hst hP hptl
 go_enter Tryz.func92,Tryz.ntmps92
 go_wp2_with fail
 refine HRC.out.mono ?_
 rintro e W1 ⟨hE1,⟨-,rfl⟩ | ⟨x,bs,hfi, -, -⟩⟩
 case inr=> rw [HF.out] at hfi;cases hfi
 have HS1:=hi_ (HS.out.ext0 hE1)
 have HB1:=hi_ (hE1.blk HB3.out (by simp))
 have HE1:=hi_ (hEa.trans hE1)
 clear HS HB3 hE1 hEa v0 v1 v2 v3 HRC HF
 obtain⟨bp,hbp⟩: ∃b,b=w.heap.size:=⟨_,rfl⟩
 rw [<-hbp] at HB1
 simp only [<-hbp]
 have HBP:=hi_ hbp
 clear hbp
 go_wp2_with fail
 have hEk:Ext [] W1 (W1.alloc (.cells #[.int .i64 0,.string ⟨#[]⟩,.slice none 0 0] 175)):=(Ext.refl [] W1).alloc _
 have HS2:=hi_ (HS1.out.ext0 hEk)
 have HB2:=hi_ (hEk.blk HB1.out (by simp))
 have HE2:=hi_ (HE1.out.trans hEk)
 clear HS1 HB1 HE1 hEk
 obtain⟨xk,hxk⟩: ∃b,b=W1.heap.size:=⟨_,rfl⟩
 simp only [<-hxk]
 clear hxk
 revert HS2 HB2 HE2
 generalize World.alloc _ _=W2
 intro HS2 HB2 HE2
 obtain⟨c0,_⟩:=HS2.out.st.cells
 obtain⟨q0,q1,q2,q3,_⟩:=M_ HB2.out
 have hD:=(Ext.refl [] W2).drew
 refine e_ (fun W=> W.cell? ⟨y.b,0,none⟩=some (.pointer (some ⟨y.a,0,none⟩))/\W.cell? ⟨bp,0,none⟩=some (.int .i64 A)/\W.cell? ⟨bp,1,none⟩=some (.int .i64 size)/\W.cell? ⟨bp,3,none⟩=some (.string ⟨su.toArray⟩)) (fun i=> i==3 || i==5 || i==7 || i==9) (by kernel_rfl) ⟨hD.cell c0 (by simp),hD.cell q0 (by simp),hD.cell q1 (by simp),hD.cell q3 (by simp)⟩ (fun hS=> ?_)
 refine PUq 0 ?_;(try go_frame)
 refine PUq 1 ?_;(try go_frame)
 refine PUq 2 ?_;(try go_frame)
 refine PUq 4 ?_;(try go_frame)
 refine PUq 6 ?_;(try go_frame)
 refine PUq 8 ?_;(try go_frame)
 refine ta 3 ?_;(try go_frame)
 refine ta 5 ?_;(try go_frame)
 refine ta 7 ?_;(try go_frame)
 refine ta 9 ?_;(try go_frame)
 refine a_ (i:=10) (by kernel_rfl) rfl (fun K hK=> ?_)
 (try simp only [Act.put,zA,zB,zC,List.setIfInBounds_toArray,zD,zE]);refine iw rfl ?_
 go_simp
 have hrd0:=arread_c y.a y.r y.gg y.k y.S y.F A size v.ws P zs _ (HS2.out.ext0 hD).rk (HS2.out.ext0 hD).ar HS2.out.k1 HS2.out.k8 HS2.out.S2 HS2.out.FS h1 h2 HAD.out HLAY.out HST.out hwl HP.out
 rw [<-HSU.out] at hrd0
 refine hrd0.mono ?_
 rintro e W3 ⟨pr,cr,rfl,hrd,htg,hE3⟩
 have hE03:=hD.trans hE3
 have HS3:=hi_ (HS2.out.ext0 hE03)
 have HB3:=hi_ (hE03.blk HB2.out (by simp))
 have HE3:=hi_ (HE2.out.trans hE03)
 have HV3:Hid (EB.Rd W3 (.slice pr size cr) (P.take size)/\ ∀y∈blkL (.slice pr size cr),r_ W3 y=some 5):=hi_ ⟨hrd,fun y hy=> (htg y hy).2⟩
 refine nk hK ?_
 clear hK hrd0 hrd htg hE3 hE03 HS2 HB2 HE2 c0 q0 q1 q2 q3 hS hD HLAY HST HAD HP
 refine PUq 11 ?_;(try go_frame)
 simp only [zA,zB,zC,zD,zE]
 refine PUq 12 ?_;(try go_frame)
 simp only [zA,zB,zC,zD,zE]
 refine PUq 13 ?_;(try go_frame)
 simp only [zA,zB,zC,zD,zE]
 refine PUq 14 ?_;(try go_frame)
 simp only [zA,zB,zC,zD,zE]
 refine PUq 15 ?_;(try go_frame)
 simp only [zA,zB,zC,zD,zE]
 refine PUq 16 ?_;(try go_frame)
 simp only [zA,zB,zC,zD,zE]
 refine PUq 17 ?_;(try go_frame)
 simp only [zA,zB,zC,zD,zE]
 refine c_ (by kernel_rfl) ?_ _
 have hbw:bp < W3.heap.size:=g_ HB3.out
 obtain⟨_,_,_,c4,_,c6,_,_,hfz⟩:=HS3.out.st.cells
 try simp only at c4
 have h3:=HS3.out.st.setAt (s':={v.st with gets:=wr64 (v.st.gets+1)}) 4 (.int .i64 (wr64 (v.st.gets+1))) rfl (fun mv=> rfl)
 have H3:=hi_ h3
 clear h3 c6
 go_wp2_with fail
 refine(cq_ ⟨y.b,4,none⟩ v.st.gets _ c4 (hfz 4)).mono ?_
 rintro e W4 ⟨rfl,rfl⟩
 have hv4:=HV3.out.1.tagExt HV3.out.2 H3.out.2 (by simp only [List.mem_singleton,forall_eq,HS3.out.st.tag];decide) (by decide)
 have HS4:=hi_ (HS3.out.onSt H3.out.2 H3.out.1 HS3.out.mem)
 have HB4:=hi_ (SyF.blk HS3.out (SyF.st H3.out.2) HB3.out (by decide))
 have HF4:=hi_ ((SyF.of0 HE3.out:SyF y w W3).trans (SyF.st H3.out.2))
 have HV4:=hi_ hv4
 clear hv4 H3 c4 hfz HS3 HB3 HE3 HV3 hbw
 revert HS4 HB4 HF4 HV4
 generalize World.setCell _ _ _=W4
 intro HS4 HB4 HF4 HV4
 obtain⟨_,_,_,_,_,c6,_,_,hfz⟩:=HS4.out.st.cells
 try simp only at c6
 have h4:=HS4.out.st.setAt (s':={v.st with gets:=wr64 (v.st.gets+1),reads:=wr64 (v.st.reads+1)}) 6 (.int .i64 (wr64 (v.st.reads+1))) rfl (fun mv=> rfl)
 have H4:=hi_ h4
 clear h4
 go_wp2_with fail
 refine(cq_ ⟨y.b,6,none⟩ v.st.reads _ c6 (hfz 6)).mono ?_
 rintro e W5 ⟨rfl,rfl⟩
 have hv5:=HV4.out.1.tagExt HV4.out.2 H4.out.2 (by simp only [List.mem_singleton,forall_eq,HS4.out.st.tag];decide) (by decide)
 have HS5:=hi_ (HS4.out.onSt H4.out.2 H4.out.1 HS4.out.mem)
 have HB5:=hi_ (SyF.blk HS4.out (SyF.st H4.out.2) HB4.out (by decide))
 have HF5:=hi_ (HF4.out.trans (SyF.st H4.out.2))
 have HV5:=hi_ hv5
 clear hv5 H4 c6 hfz HS4 HB4 HF4 HV4
 revert HS5 HB5 HF5 HV5
 generalize World.setCell _ _ _=W5
 intro HS5 HB5 HF5 HV5
 obtain⟨q0,_,_,q3,_⟩:=M_ HB5.out
 go_wp2_with fail
 have hD:=(Ext.refl [] W5).drew
 refine e_ (fun W=> W.cell? ⟨bp,0,none⟩=some (.int .i64 A)/\W.cell? ⟨bp,3,none⟩=some (.string ⟨su.toArray⟩)) (fun i=> i==2 || i==4 || i==6) (by kernel_rfl) ⟨hD.cell q0 (by simp),hD.cell q3 (by simp)⟩ (fun hS=> ?_)
 refine PUq 0 ?_;(try go_frame)
 refine PUq 1 ?_;(try go_frame)
 refine PUq 3 ?_;(try go_frame)
 refine PUq 5 ?_;(try go_frame)
 refine ta 2 ?_;(try go_frame)
 refine ta 4 ?_;(try go_frame)
 refine a_ (i:=6) (by kernel_rfl) rfl (fun K hK=> ?_)
 (try simp only [Act.put,zA,zB,zC,List.setIfInBounds_toArray,zD,zE]);refine iw rfl ?_
 go_simp
 refine(cx_ _ (P.take size) _ (by rw [HPT.out];omega) (HV5.out.1.ext0 hD)).mono ?_
 rintro e W6 ⟨v6,rfl,how6,hE6,hnew6, -⟩
 have s6:=hE6.cell hS.1 (by simp)
 have s6':=hE6.cell hS.2 (by simp)
 have hE06:=hD.trans hE6
 obtain⟨p6,c6,rfl,_⟩:=how6.rd.len_eq
 rw [HPT.out] at how6 ⊢
 refine hK.out _ _ (fun _=> ⟨s6,s6'⟩) (fun _=> ?_)
 clear hK hS
 refine PUq 7 ?_;(try go_frame)
 refine a_ (i:=8) (by kernel_rfl) rfl (fun K hK=> ?_)
 (try simp only [Act.put,zA,zB,zC,List.setIfInBounds_toArray,zD,zE]);refine iw rfl ?_
 go_simp
 have HS6:=hi_ (HS5.out.ext0 hE06)
 have HF6:=hi_ (HF5.out.trans (SyF.of0 hE06))
 have HV6:Hid (EB.Rd W6 (.slice pr size cr) (P.take size)/\ ∀y∈blkL (.slice pr size cr),r_ W6 y=some 5):=hi_ ⟨HV5.out.1.ext0 hE06,fun y hy=> aG_ (HV5.out.2 y hy) hE06 (by simp)⟩
 clear hE06 hE6 hnew6 s6 s6' HS5 HF5 HV5 HB5 hD q0 q3
 refine(ed_ y.b y.a y.sp {v.st with gets:=wr64 (v.st.gets+1),reads:=wr64 (v.st.reads+1)} ((A:Int),su,p6,size,c6) (P.take size) W6 HS6.out.st HS6.out.mem how6).mono ?_
 rintro e W7 ⟨rfl,hst7,hE7⟩
 have HS7:=hi_ (HS6.out.onSt hE7 hst7 (cj_ _ _))
 have HF7:=hi_ (HF6.out.trans (SyF.st hE7))
 have hv7:=HV6.out.1.tagExt HV6.out.2 hE7 (by simp only [List.mem_singleton,forall_eq,HS6.out.st.tag];decide) (by decide)
 have HV7:=hi_ hv7
 refine nk hK ?_
 refine c_ (by kernel_rfl) ?_ _
 clear hK hst7 hE7 hv7 how6 HS6 HF6 HV6
 go_wp2
 go_ret2
 exact⟨_,rfl,HV7.out.1,⟨_,v.ws,v.spc⟩,HS7.out,⟨rfl,rfl,rfl⟩,HF7.out⟩
abbrev Blk:=Nat×List UInt8
def StdAt (y:Sy) (ws:List (Nat×Nat×List UInt8)) (x:Blk):Prop:=
 1<=x.2.length/\x.2.length<=1024/\x.1+B_ y.k x.2.length<=(y.k+4)*(y.S - y.F)/\ ∃zs,LayOf y.k (padB x.2) ((x.2.length+127) / 128) zs/\Stands ws (y.k+4) y.F x.1 zs
structure Dsk (y:Sy) (v:Sv) (L:List Blk):Prop where
 std: ∀x∈L,StdAt y v.ws x
 mem: ∀m∈v.st.mem,∃x∈L,m=((x.1:Int),shaF x.2,x.2)
 uniq: ∀x∈L,∀x'∈L,x.1=x'.1->x=x'
 wl:v.ws.length<=900000
structure SameV (v v':Sv):Prop where
 ws:v'.ws=v.ws
 spc:v'.spc=v.spc
 txg:v'.st.txg=v.st.txg
theorem SameV.refl (v:Sv):SameV v v:=⟨rfl,rfl,rfl⟩
theorem SameV.trans {a b c:Sv} (h:SameV a b) (k:SameV b c):SameV a c:=⟨k.ws.trans h.ws,k.spc.trans h.spc,k.txg.trans h.txg⟩
theorem hr_ {m:List Mno} {k x:Mno} (h:x∈remL m k):x∈m\/x=k:=by
 rw [remL] at h
 have h:=List.mem_of_mem_drop h
 rcases List.mem_append.1 h with h | h
 ·exact .inl (List.mem_filter.1 h).1
 ·exact .inr (by simpa using h)
theorem Dsk.read {L:List Blk} (h:Dsk y v L) {x:Blk} (hx:x∈L) (hws:v'.ws=v.ws) (hm:v'.st.mem=remL v.st.mem ((x.1:Int),shaF x.2,x.2)):Dsk y v' L:=by
 refine⟨by rw [hws];exact h.std,fun m hmm=> ?_,h.uniq,by rw [hws];exact h.wl⟩
 rw [hm] at hmm
 rcases hr_ hmm with h1 | h1
 ·exact h.mem m h1
 ·exact⟨x,hx,h1⟩
def PtAt (q:Ptr4) (bs:List UInt8):Prop:=q.2.1=bs.length/\q.2.2.2=shaF bs
def StGot (y:Sy) (v:Sv) (L:List Blk) (bs:List UInt8) (w:World) (e:Ending) (w':World):Prop:= ∃u v',e= .returned (.tuple #[u,.int .i64 0])/\EB.Rd w' u bs/\SyR w' y v'/\SameV v v'/\Dsk y v' L/\SyF y w w'
theorem stget_c (y:Sy) (v:Sv) (L:List Blk) (q:Ptr4) (bs:List UInt8) (w:World) (h:SyR w y v) (hd:Dsk y v L) (hx:(q.1,bs)∈L) (hq:PtAt q bs):
  Calls Tryz.prog 92 #[.pointer (some ⟨y.b,0,none⟩),bB_ q] w (StGot y v L bs w):=by
 obtain⟨A,size,birth,sum⟩:=q
 obtain⟨rfl,rfl⟩:size=bs.length/\sum=shaF bs:=hq
 obtain⟨h1,h2,h3,zs,h4,h5⟩:=hd.std _ hx
 simp only at h1 h2 h3 h4 h5
 have ht:(padB bs).take bs.length=bs:=by simp [padB]
 cases hf:v.st.mem.find? (hitB A bs.length (shaF bs)) with
 | some k=>
  have hk1:=remL_find hf
  have hk2:hitB A bs.length (shaF bs) k=true:=List.find?_some hf
  obtain⟨x,hxL,hke⟩:=hd.mem k hk1
  have hxe:x=(A,bs):=by
   refine hd.uniq x hxL (A,bs) hx ?_
   rw [hitB,hke] at hk2
   simp only [Bool.and_eq_true,beq_iff_eq] at hk2
   have:=hk2.1
   show x.1=A
   omega
  subst hxe
  have hkl:k.2.2=bs:=by rw [hke]
  refine(stget_hit y v A bs.length birth (shaF bs) k w h hf (by rw [hkl];omega)).mono ?_
  rintro e w' ⟨u,v',rfl,how,hs,hr,hF⟩
  rw [hkl] at how
  refine⟨u,v',rfl,how.rd,hs,⟨hr.ws,hr.spc,by rw [hr.st]⟩,hd.read hx hr.ws (by rw [hr.st,hke]),hF⟩
 | none=>
  have hmiss:=ii_ y v A bs.length birth (padB bs) zs w h (by rw [ht];exact hf) h3 h4 h5 (by have:=hd.wl;omega) (by simp [padB];omega) h1 h2
  rw [ht] at hmiss
  refine hmiss.mono ?_
  rintro e w' ⟨u,v',rfl,hrd,hs,hr,hF⟩
  exact⟨u,v',rfl,hrd,hs,⟨hr.ws,hr.spc,by rw [hr.st]⟩,hd.read hx hr.ws (by rw [hr.st]),hF⟩
def allW:(n:Nat)->List (El n)->Prop
 | 0,_=> True
 | n+1,t=> ∀k∈(t:List (Pc n)),k.2.1≠none
def DskK (L:List Blk) (n:Nat) (r:Rf n):Prop:= ∀q,r.1=some q->(q.1,bb_ n r.2)∈L/\PtAt q (bb_ n r.2)/\GoodPt q/\allW n r.2/\r.2≠ []
def DskT (L:List Blk):(n:Nat)->List (El n)->Prop
 | 0,_=> True
 | n+1,t=> ∀k∈(t:List (Pc n)),DskK L n k.2/\DskT L n k.2.2
def refV (x:Rfm):Value:= .agg #[.int .i64 x.1.1,.int .i64 x.1.2.1,.int .i64 x.1.2.2.1,.string ⟨x.1.2.2.2.toArray⟩,ptV x.2]
theorem trparse_c (n:Nat) (v:Value) (t:List (El n)) (w:World) (hv:EB.Rd w v (bb_ n t)) (hg:GoodT n t) (hw:allW n t) (hne:t≠ []) (hbl:(bb_ n t).length<=1024):Calls Tryz.prog 93 #[v] w (hT_ n t w):=by
 cases n with
 | zero=> exact ic_ v t w hv hg hne hbl
 | succ n=>
  refine(ib_ v t w hv hg.items hg.1 (fun k hk=> ?_) hne hbl).mono ?_
  ·cases hq:k.2.1 with
   | none=> exact absurd hq (hw k hk)
   | some q=> exact⟨q,rfl,(hg.2 k hk).2.1 q hq⟩
  ·rintro e w' ⟨b,rfl,h1,h2⟩
   exact⟨b,rfl,⟨_,h1,gb_ _ t hw⟩,h2⟩
def LoadPost (Av:Nat->Prop) (y:Sy) (v:Sv) (L:List Blk) (n:Nat) (t:List (El n)) (w:World) (e:Ending) (w':World):Prop:=
 ∃b v',e= .returned (.tuple #[.pointer (some ⟨b,0,none⟩),.int .i64 0])/\NodeRI (fun k=> Av k\/w.heap.size<=k) w' n b t/\SyR w' y v'/\SameV v v'/\Dsk y v' L/\SyF y w w'
theorem ew_ (Av:Nat->Prop) (y:Sy) (v:Sv) (L:List Blk) (n:Nat) (yv:Rfm) (r:Rf n) (w:World) (h:SyR w y v) (hd:Dsk y v L) (hk:KidR (NodeRI Av w n) yv r) (hK:DskK L n r) (hg:GoodT n r.2):
  Calls Tryz.prog 62 #[.pointer (some ⟨y.b,0,none⟩),refV yv] w (LoadPost Av y v L n r.2 w):=by
 obtain⟨HS,HD,HG,HK⟩:=h_4 h hd hg hK
 cases hr:r.1 with
 | none=>
  have hk2: ∃b,yv=(P0,some b)/\NodeRI Av w n b r.2:=by
   unfold KidR at hk
   simp only [hr] at hk
   exact hk
  obtain⟨b,rfl,hn⟩:=hk2
  have HNd:=hi_ hn
  simp only [refV,ptV,Option.map_some]
  clear h hd hg hK hk hn hr
  have hE:Ext [] w (w.alloc (.cells #[.int .i64 0,.int .i64 0,.int .i64 0,.string ⟨#[]⟩,.pointer (some ⟨b,0,none⟩)] 89)):=(Ext.refl [] w).alloc _
  go_enter Tryz.func62,Tryz.ntmps62
  go_wp2
  go_ret2
  exact⟨b,v,rfl,NodeRI.mono (fun k h _=> .inl h) _ _ _ (NodeRI.ext hE (by simp) _ _ _ HNd.out),HS.out.ext0 hE,SameV.refl v,HD.out,SyF.of0 hE⟩
 | some q=>
  have hk2:yv=(q,none):=by
   unfold KidR at hk
   simp only [hr] at hk
   exact hk
  subst hk2
  obtain⟨hx,hpt,hgq,hw,hne⟩:=hK q hr
  obtain⟨HX,HPT,HW,HNE⟩:=h_4 hx hpt hw hne
  have hbl:(bb_ n r.2).length<=1024:=(hd.std _ hx).2.1
  have HBL:=hi_ hbl
  simp only [refV,ptV,Option.map_none]
  clear h hd hg hK hk hr hx hpt hgq hw hne hbl
  have hE:Ext [] w (w.alloc (.cells #[.int .i64 q.1,.int .i64 q.2.1,.int .i64 q.2.2.1,.string ⟨q.2.2.2.toArray⟩,.pointer none] 89)):=(Ext.refl [] w).alloc _
  have HE:=hi_ hE
  clear hE
  go_enter Tryz.func62,Tryz.ntmps62
  go_wp2_with fail
  have hs:=HS.out.ext0 HE.out
  refine(stget_c y v L q (bb_ n r.2) _ hs HD.out HX.out HPT.out).mono ?_
  rintro e W1 ⟨u,v',rfl,hrd,hs1,hsame,hd1,hF1⟩
  obtain⟨HS1,HRD,HSM,HD1⟩:=h_4 hs1 hrd hsame hd1
  have HF1:=hi_ ((SyF.of0 HE.out:SyF y w _).trans hF1)
  clear hs hs1 hrd hsame hd1 hF1
  go_wp2_with fail
  refine(trparse_c n u r.2 _ HRD.out HG.out HW.out HNE.out HBL.out).mono ?_
  rintro e W2 ⟨b,rfl,hn,hE2⟩
  go_wp2
  go_ret2
  exact⟨b,v',rfl,NodeRI.mono (fun k h _=> .inr (Nat.le_trans HF1.out.size h)) _ _ _ hn,HS1.out.ext0 hE2,HSM.out,HD1.out,HF1.out.trans (SyF.of0 hE2)⟩
def inR (fr up:Ky) (p:Pr):Bool:=decide (¬p.1 < fr) && (decide (up= []) || decide (p.1 < up))
def selR (fr up:Ky) (l:List Pr):List Pr:=l.filter (inR fr up)
structure SepL {n:Nat} (t:List (Pc n)):Prop where
 lo: ∀(i j:Nat) x y,i < j->t[i]? =some x->t[j]? =some y-> ∀p∈prs n x.2.2,p.1 < y.1
 hi: ∀(i:Nat) x,0 < i->t[i]? =some x-> ∀p∈prs n x.2.2,¬p.1 < x.1
def WfT:(n:Nat)->List (El n)->Prop
 | 0,t=> SrtK t
 | n+1,t=> SrtS (o_ (n:=n) t)/\SepL (n:=n) t/\ ∀k∈(t:List (Pc n)),WfT n k.2.2
def NeT:(n:Nat)->List (El n)->Prop
 | 0,t=> t≠ []
 | n+1,t=> t≠ []/\ ∀k∈(t:List (Pc n)),NeT n k.2.2
theorem WfT.succ {t:List (Pc n)} (h:WfT (n+1) t):SrtS (o_ t)/\SepL t/\ ∀k∈t,WfT n k.2.2:=h
theorem ac_ (a b:Ky) (l m:List Pr):selR a b (l++m)=selR a b l++selR a b m:=List.filter_append ..
theorem eD_ {a b:Ky} (h: ∀p∈l,p.1 < a):selR a b l= []:=by
 rw [selR,List.filter_eq_nil_iff]
 intro p hp
 have:=h p hp
 simp [inR,this]
theorem ds_ {a b:Ky} (hb:b≠ []) (h: ∀p∈l,¬p.1 < b):selR a b l= []:=by
 rw [selR,List.filter_eq_nil_iff]
 intro p hp
 have:=h p hp
 simp [inR,this,hb]
theorem take_more {α:Type} (A B:List α) (r:Nat):A.take r++B.take (r - (A.take r).length)=(A++B).take r:=by
 rw [List.take_append]
 congr 2
 rw [List.length_take]
 omega
theorem bF_ (t:List (Pc n)) (i:Nat) (h:i+1 < t.length):(o_ t)[i]? =some t[i+1].1:=by
 rw [o_,List.getElem?_map,List.getElem?_drop,Nat.add_comm 1 i,List.getElem?_eq_getElem h]
 rfl
structure KidAt {n:Nat} (t:List (Pc n)) (k:Ky) (i:Nat):Prop where
 lt:i < t.length
 lo: ∀j x,0 < j->j<=i->t[j]? =some x-> ¬k < x.1
 hi: ∀j x,i < j->t[j]? =some x->k < x.1
theorem SrtS.leK_at {s:List Ky} (hs:SrtS s) (k:Ky): ∃a,leK s k=a/\a<=s.length/\(∀i x,i < a->s[i]? =some x-> ¬k < x)/\(∀i x,a<=i->s[i]? =some x->k < x):=by
 refine⟨_,rfl,List.countP_le_length, ?_⟩
 induction s with
 | nil=> simp
 | cons b s ih=>
  have hs':SrtS s:=(List.pairwise_cons.1 hs).2
  have hb:=(List.pairwise_cons.1 hs).1
  obtain⟨h1,h2⟩:=ih hs'
  by_cases hk:k < b
  ·have h0:leK s k=0:=by
    rw [leK,List.countP_eq_zero]
    intro x hx
    have:=T_ hk (hb x hx)
    simpa using this
   have e:leK (b::s) k=0:=by
    rw [leK,List.countP_cons]
    rw [leK] at h0
    rw [h0]
    simp [hk]
   rw [e]
   refine⟨fun i x hi=> by omega,fun i x _ hx=> ?_⟩
   cases i with
   | zero=> simp at hx;subst hx;exact hk
   | succ i=> exact h2 i x (by omega) (by simpa using hx)
  ·have e:leK (b::s) k=leK s k+1:=by
    rw [leK,List.countP_cons]
    simp [hk,leK]
   rw [e]
   refine⟨fun i x hi hx=> ?_,fun i x hi hx=> ?_⟩
   ·cases i with
    | zero=> simp at hx;subst hx;exact hk
    | succ i=> exact h1 i x (by omega) (by simpa using hx)
   ·cases i with
    | zero=> omega
    | succ i=> exact h2 i x (by omega) (by simpa using hx)
theorem kidAt {t:List (Pc n)} (hs:SrtS (o_ t)) (k:Ky) (ht:t≠ []):KidAt t k (leK (o_ t) k):=by
 obtain⟨a,ha,hal,h1,h2⟩:=hs.leK_at k
 rw [ha]
 have hpos:=List.length_pos_iff.2 ht
 rw [t_] at hal
 refine⟨by omega,fun j x hj hji hx=> ?_,fun j x hj hx=> ?_⟩
 ·obtain⟨hl,he⟩:=List.getElem?_eq_some_iff.1 hx
  have h3:=bF_ t (j - 1) (by omega)
  have e:t[j - 1+1]'(by omega)=x:=by rw [<-he];congr 1;omega
  rw [e] at h3
  exact h1 (j - 1) _ (by omega) h3
 ·obtain⟨hl,he⟩:=List.getElem?_eq_some_iff.1 hx
  have h3:=bF_ t (j - 1) (by omega)
  have e:t[j - 1+1]'(by omega)=x:=by rw [<-he];congr 1;omega
  rw [e] at h3
  exact h2 (j - 1) _ (by omega) h3
theorem fP_ (t:List (Pc n)) (i:Nat) (hi:i < t.length):(prsP (t.take i)).length+(prs n t[i].2.2).length<=(prsP t).length:=by
 have e:t=t.take i++t[i]::t.drop (i+1):=by rw [<-List.drop_eq_getElem_cons hi,List.take_append_drop]
 have h:=congrArg (fun z=> (prsP z).length) e
 simp only [ad_,u_,List.length_append] at h
 omega
theorem eN_ (t:List (Pc n)) (i:Nat) (hi:i < t.length):prsP (t.take (i+1))=prsP (t.take i)++prs n t[i].2.2:=by
 rw [List.take_succ_eq_append_getElem hi,ad_,u_,ck_,List.append_nil]
theorem fX_ {t:List (Pc n)} {p:Pr} (h:p∈prsP (t.take i)): ∃j x,j < i/\t[j]? =some x/\p∈prs n x.2.2:=by
 rw [bu_] at h
 obtain⟨x,hx,hp⟩:=h
 obtain⟨j,hj⟩:=List.getElem?_of_mem hx
 rw [List.getElem?_take] at hj
 split at hj
 ·exact⟨j,x,by assumption,hj,hp⟩
 ·cases hj
theorem fY_ {t:List (Pc n)} {p:Pr} (h:p∈prsP (t.drop i)): ∃j x,i<=j/\t[j]? =some x/\p∈prs n x.2.2:=by
 rw [bu_] at h
 obtain⟨x,hx,hp⟩:=h
 obtain⟨j,hj⟩:=List.getElem?_of_mem hx
 rw [List.getElem?_drop] at hj
 exact⟨i+j,x,by omega,hj,hp⟩
theorem fO_ (t:List (Pc n)) (i:Nat):prsP t=prsP (t.take i)++prsP (t.drop i):=by
 conv=> lhs;rw [<-List.take_append_drop i t]
 exact ad_ _ _
theorem sel_ahead {t:List (Pc n)} (hs:SepL t) {a b:Ky} (hk:KidAt t a i):selR a b (prsP (t.take i))= []:=by
 refine eD_ (fun p hp=> ?_)
 obtain⟨j,x,hj,hx,hp⟩:=fX_ hp
 have hi:=List.getElem?_eq_getElem hk.lt
 have h1:=hs.lo j i x _ hj hx hi p hp
 exact cn_ h1 (hk.lo i _ (by omega) (Nat.le_refl _) hi)
theorem ik_ {t:List (Pc n)} (hs:SepL t) (hs2:SrtS (o_ t)) {a b:Ky} (h0:0 < i) (hb:b≠ []) {x:Pc n} (hx:t[i]? =some x) (hk: ¬x.1 < b):selR a b (prsP (t.drop i))= []:=by
 refine ds_ hb (fun p hp hlt=> ?_)
 obtain⟨j,y,hj,hy,hp⟩:=fY_ hp
 have h1:=hs.hi j y (by omega) hy p hp
 have h2: ¬y.1 < x.1:=by
  by_cases hij:i=j
  ·subst hij
   rw [hx] at hy
   cases hy
   exact al_ _
  ·obtain⟨hl,he⟩:=List.getElem?_eq_some_iff.1 hx
   obtain⟨hl2,he2⟩:=List.getElem?_eq_some_iff.1 hy
   have h3:=bF_ t (i - 1) (by omega)
   have h4:=bF_ t (j - 1) (by omega)
   have e3:t[i - 1+1]'(by omega)=x:=by rw [<-he];congr 1;omega
   have e4:t[j - 1+1]'(by omega)=y:=by rw [<-he2];congr 1;omega
   rw [e3] at h3
   rw [e4] at h4
   obtain⟨q3,r3⟩:=List.getElem?_eq_some_iff.1 h3
   obtain⟨q4,r4⟩:=List.getElem?_eq_some_iff.1 h4
   have:=List.pairwise_iff_getElem.1 hs2 (i - 1) (j - 1) q3 q4 (by omega)
   rw [r3,r4] at this
   exact bQ_ this
 -- x.1 <= y.1 <= p.1 < b
 have h5:x.1 < b:=by
  have h6:y.1 < b:=bP_ h1 hlt
  exact bP_ h2 h6
 exact hk h5
abbrev aH_:List TypeId:= [117,127,143,4,339,5,175,168,165]
theorem SyR.otherT (h:SyR w y v) (he:Ext S w w') (hS: ∀g∈S,∀T∈aH_,r_ w g≠some T):SyR w' y v:=by
 have he':ExtT S [] w w':=ExtT.of he (fun z hz=> .inl hz)
 have ne: ∀{x:Nat} {T:TypeId},r_ w x=some T->T∈aH_->x∉S:=fun ht hT hm=> hS _ hm _ hT ht
 refine⟨h.st.extT he' (ne h.st.tag (by simp)) (fun z hz=> ⟨hS z hz _ (by simp),hS z hz _ (by simp)⟩) (by decide) (by decide) (by decide),h.ar.extT he' (ne h.ar.tag (by simp)) (by decide),h.rk.extT he' (ne h.rk.tag.1 (by simp)) (ne h.rk.tag.2 (by simp)) (fun z hz=> ⟨hS z hz _ (by simp),hS z hz _ (by simp)⟩) (by decide),h.sp.extT he' (ne h.sp.tag (by simp)) (fun z hz=> hS z hz _ (by simp)) (by decide) (by decide),h.spi,h.k1,h.k8,h.S2,h.FS,h.cells,h.mem⟩
def TF (y:Sy) (ov:Value) (w w':World):Prop:=ExtT ([y.b,y.r,y.sp]++blkL ov) SyT w w'
theorem TF.refl (y:Sy) (ov:Value) (w:World):TF y ov w w:=ExtT.refl _ _ _
theorem TF.of {ov:Value} (h:SyF y w w'):TF y ov w w':=h.mono (fun _ hx=> .inl (List.mem_append_left _ hx)) (fun _ h=> h)
theorem TF.app {ov:Value} (h:Ext (blkL ov) w w'):TF y ov w w':=ExtT.of h (fun _ hx=> .inl (List.mem_append_right _ hx))
theorem TF.trans {ov ov':Value} {a b c:World} (h:TF y ov a b) (n:Near a ov ov') (k:TF y ov' b c):TF y ov a c:=
 ExtT.trans' h k (fun _ h=> .inl h) (fun x hx=> by
  rcases List.mem_append.1 hx with hx | hx
  ·exact .inl (List.mem_append_left _ hx)
  ·rcases n x hx with h1 | h1
   ·exact .inl (List.mem_append_right _ h1)
   ·exact .inr h1) (fun _ h=> h) (fun _ h=> h)
theorem TF.size {ov:Value} (h:TF y ov w w'):w.heap.size<=w'.heap.size:=ExtT.size h
theorem Near.refl (w:World) (v:Value):Near w v v:=fun _ h=> .inl h
theorem Near.trans {a b:World} {v v' v'':Value} (h:Near a v v') (hs:a.heap.size<=b.heap.size) (k:Near b v' v''):Near a v v'':=fun g hg=> by
 rcases k g hg with h1 | h1
 ·exact h g h1
 ·exact .inr (by omega)
theorem TF.blocks {ov:Value} (hy:SyR w y v) (h:TF y ov w w'): ∃S,Ext S w w'/\ ∀k∈S,k∈blkL ov\/ ∀T∈aE_,r_ w k≠some T:=by
 obtain⟨S,h1,h2⟩:=h
 refine⟨S,h1,fun k hk=> ?_⟩
 rcases h2 k hk with h | ⟨T',h3,h4,_⟩
 ·rcases List.mem_append.1 h with h | h
  ·refine .inr (fun T hT=> ?_)
   simp only [List.mem_cons,List.not_mem_nil,or_false] at h
   rcases h with rfl | rfl | rfl
   ·rw [hy.st.tag];revert T;decide
   ·rw [hy.rk.tag.1];revert T;decide
   ·rw [hy.sp.tag];revert T;decide
  ·exact .inl h
 ·refine .inr (fun T hT=> ?_)
  rw [h4]
  intro e
  cases e
  simp only [List.mem_cons,List.not_mem_nil,or_false] at h3
  rcases h3 with rfl | rfl <;> exact absurd hT (by decide)
theorem NodeI.tf {ov:Value} (h:NodeI Av w b leaf ps ks rs) (hy:SyR w y v) (hf:TF y ov w w') (ho: ∀k∈blkL ov,¬Av k):NodeI Av w' b leaf ps ks rs:=by
 obtain⟨S,h1,h2⟩:=hf.blocks hy
 exact h.ext h1 (fun k hk ha=> by
  rcases h2 k hk with h3 | h3
  ·exact absurd ha (ho k h3)
  ·exact h3)
theorem NodeRI.tf {ov:Value} (hy:SyR w y v) (hf:TF y ov w w') (ho: ∀k∈blkL ov,¬Av k) (n b:Nat) (t:List (El n)) (h:NodeRI Av w n b t):NodeRI Av w' n b t:=by
 obtain⟨S,h1,h2⟩:=hf.blocks hy
 exact NodeRI.ext h1 (fun k hk ha=> by
  rcases h2 k hk with h3 | h3
  ·exact absurd ha (ho k h3)
  ·exact h3) n b t h
def gZ_ (y:Sy) (v:Sv) (L:List Blk) (ov:Value) (zs:List Pr) (w:World) (e:Ending) (w':World):Prop:=
 ∃ov' v',e= .returned (.tuple #[ov',.int .i64 0])/\EPr.Ow 36 w' ov' zs/\SyR w' y v'/\SameV v v'/\Dsk y v' L/\TF y ov w w'/\Near w ov ov'
structure ColS (y:Sy) (v v':Sv) (L:List Blk) (ov ov':Value) (zs:List Pr) (w w':World):Prop where
 ow:EPr.Ow 36 w' ov' zs
 sy:SyR w' y v'
 same:SameV v v'
 dsk:Dsk y v' L
 tf:TF y ov w w'
 near:Near w ov ov'
theorem ColS.app {L:List Blk} {ov ov' ov2:Value} {zs zs2:List Pr} (h:ColS y v v' L ov ov' zs w w') (how:EPr.Ow 36 w2 ov2 zs2) (hE:Ext (blkL ov') w' w2) (hn:Near w' ov' ov2):ColS y v v' L ov ov2 zs2 w w2:=by
 have ht:=h.ow.tagOf
 exact⟨how,h.sy.otherT hE (fun g hg T hT=> by rw [ht g hg];revert T;decide),h.same,h.dsk,h.tf.trans h.near (TF.app hE),h.near.trans h.tf.size hn⟩
theorem ColS.step {v v' v2:Sv} {L:List Blk} {ov ov' ov2:Value} {zs zs2:List Pr} (h:ColS y v v' L ov ov' zs w w') (k:ColS y v' v2 L ov' ov2 zs2 w' w2):ColS y v v2 L ov ov2 zs2 w w2:=
 ⟨k.ow,k.sy,h.same.trans k.same,k.dsk,h.tf.trans h.near k.tf,h.near.trans h.tf.size k.near⟩
theorem ColS.ext0 {L:List Blk} {ov ov':Value} {zs:List Pr} (h:ColS y v v' L ov ov' zs w w') (he:Ext [] w' w2):ColS y v v' L ov ov' zs w w2:=
 ⟨h.ow.ext0 he,h.sy.ext0 he,h.same,h.dsk,h.tf.trans h.near (TF.of (SyF.of0 he)),h.near⟩
theorem sel_step {fr up:Ky} (t:List Pr) (i:Nat) (hi:i < t.length) (h1: ¬t[i].1 < fr) (h2:up= []\/t[i].1 < up):selR fr up (t.take (i+1))=selR fr up (t.take i)++ [t[i]]:=by
 rw [List.take_succ_eq_append_getElem hi,ac_]
 congr 1
 have:inR fr up t[i]=true:=by
  rcases h2 with h2 | h2 <;> simp [inR,h1,h2]
 simp [selR,this]
theorem sel_end {fr up:Ky} (t:List Pr) (hs:SrtK t) (i:Nat) (hi:i < t.length) (hu:up≠ []) (h: ¬t[i].1 < up):selR fr up t=selR fr up (t.take i):=by
 conv=> lhs;rw [<-List.take_append_drop i t]
 rw [ac_,ds_ (l:=t.drop i) hu (fun p hp hlt=> ?_),List.append_nil]
 obtain⟨j,hj⟩:=List.getElem?_of_mem hp
 rw [List.getElem?_drop] at hj
 obtain⟨hl,he⟩:=List.getElem?_eq_some_iff.1 hj
 by_cases hj0:j=0
 ·subst hj0
  simp only [Nat.add_zero] at he
  rw [he] at h
  exact h hlt
 ·have:=List.pairwise_iff_getElem.1 hs i (i+j) hi hl (by omega)
  rw [he] at this
  exact h (T_ this hlt)
theorem sel_pre {fr up:Ky} (t:List Pr) (i:Nat): ∃rest,selR fr up t=selR fr up (t.take i)++rest:=by
 refine⟨selR fr up (t.drop i), ?_⟩
 conv=> lhs;rw [<-List.take_append_drop i t]
 exact ac_ _ _ _ _
theorem sel_full {fr up:Ky} (t:List Pr) (i r:Nat) (h1:(selR fr up (t.take i)).length<=r) (h2:r<=(selR fr up (t.take i)).length):(selR fr up t).take r=selR fr up (t.take i):=by
 obtain⟨rest,e⟩:=sel_pre (fr:=fr) (up:=up) t i
 rw [e,show r=(selR fr up (t.take i)).length by omega,List.take_left]
theorem SrtK.atF_spec {t:List Pr} (hs:SrtK t) (k:Ky):atF t k<=t.length/\(∀i x,i < atF t k->t[i]? =some x->x.1 < k)/\(∀i x,atF t k<=i->t[i]? =some x-> ¬x.1 < k):=by
 refine⟨List.countP_le_length, ?_⟩
 induction t with
 | nil=> simp
 | cons b s ih=>
  have hs':SrtK s:=(List.pairwise_cons.1 hs).2
  have hb:=(List.pairwise_cons.1 hs).1
  obtain⟨h1,h2⟩:=ih hs'
  by_cases hk:b.1 < k
  ·have e:atF (b::s) k=atF s k+1:=by
    rw [atF,List.countP_cons]
    simp [hk,atF]
   rw [e]
   refine⟨fun i x hi hx=> ?_,fun i x hi hx=> ?_⟩
   ·cases i with
    | zero=> simp at hx;subst hx;exact hk
    | succ i=> exact h1 i x (by omega) (by simpa using hx)
   ·cases i with
    | zero=> omega
    | succ i=> exact h2 i x (by omega) (by simpa using hx)
  ·have h0:atF s k=0:=by
    rw [atF,List.countP_eq_zero]
    intro x hx
    have:=hb x hx
    simp only [decide_eq_true_eq]
    exact fun h=> hk (T_ this h)
   have e:atF (b::s) k=0:=by
    rw [atF,List.countP_cons]
    rw [atF] at h0
    rw [h0]
    simp [hk]
   rw [e]
   refine⟨fun i x hi=> by omega,fun i x _ hx=> ?_⟩
   cases i with
   | zero=> simp at hx;subst hx;exact hk
   | succ i=> exact h2 i x (by omega) (by simpa using hx)
theorem NodeI.cells (h:NodeI Av w b leaf ps ks rs): ∃pp cp pk ck pr cr,w.cell? ⟨b,0,none⟩=some (.bool leaf)/\w.cell? ⟨b,1,none⟩=some (.slice pp ps.length cp)/\w.cell? ⟨b,2,none⟩=some (.slice pk ks.length ck)/\w.cell? ⟨b,3,none⟩=some (.slice pr rs.length cr)/\
  EPr.Ow 36 w (.slice pp ps.length cp) ps/\EKy.Ow 9 w (.slice pk ks.length ck) ks/\ERf.Ow 89 w (.slice pr rs.length cr) rs:=by
 obtain⟨pp,cp,pk,ck,pr,cr,h0,h1,h2,h3,h4,h5,h6,_⟩:=h.node.cells
 exact⟨pp,cp,pk,ck,pr,cr,h0,h1,h2,h3,h4,h5,h6⟩
theorem fW_ (W0:World) (x:Pr):EPr.Rd (W0.alloc (.cells #[.string ⟨x.1.toArray⟩,.string ⟨x.2.toArray⟩] T)) (.slice (some ⟨W0.heap.size,0,none⟩) 1 1) [x]:=by
 refine .inr ⟨W0.heap.size,0,1,rfl,Nat.le_refl _,by simp,fun j u hj=> ?_⟩
 rw [cell_of_row _ W0.heap.size _ _ _ _ (heap_alloc_new _ _),Nat.zero_add,<-hj]
 simp [EPr,Enc.flat]
theorem ColS.post {L:List Blk} {ov:Value} {po:Option Addr} {n c:Nat} {zs:List Pr} (h:ColS y v v' L ov (.slice po n c) zs w w'):gZ_ y v L ov zs w (.returned (.tuple #[.slice po n c,.int .i64 0])) w':=
 ⟨_,v',rfl,h.ow,h.sy,h.same,h.dsk,h.tf,h.near⟩
structure ColIn (Av:Nat->Prop) (y:Sy) (v:Sv) (L:List Blk) (n:Nat) (yv:Rfm) (r:Rf n) (ov:Value) (outs:List Pr) (w:World):Prop where
 sy:SyR w y v
 dsk:Dsk y v L
 kid:KidR (NodeRI Av w n) yv r
 dk:DskK L n r
 dt:DskT L n r.2
 good:GoodT n r.2
 wf:WfT n r.2
 ne:NeT n r.2
 ow:EPr.Ow 36 w ov outs
 av: ∀k∈blkL ov,¬Av k
 avl: ∀k,Av k->k < w.heap.size
 bd:outs.length+(prs n r.2).length<=1000000
theorem iJ_ (Av:Nat->Prop) (y:Sy) (v:Sv) (L:List Blk) (yv:Rfm) (r:Rf 0) (fr up:Ky) (m:Nat) (ov:Value) (outs:List Pr) (w:World) (h:ColIn Av y v L 0 yv r ov outs w) (hm:(m:Int)<=9223372036854775807):
  Calls Tryz.prog 48 #[.pointer (some ⟨y.b,0,none⟩),refV yv,.string ⟨fr.toArray⟩,.string ⟨up.toArray⟩,.int .i64 m,ov] w (gZ_ y v L ov (outs++(selR fr up r.2).take (m - outs.length)) w):=by
 obtain⟨po,co,rfl,_⟩:=h.ow.rd.len_eq
 have hE0:Ext [] w (w.alloc (.cells (refV yv).cells 89)):=(Ext.refl [] w).alloc _
 have hload:=ew_ Av y v L 0 yv r _ (h.sy.ext0 hE0) h.dsk (h.kid.mono (fun b hn=> NodeRI.ext hE0 (by simp) _ _ _ hn)) h.dk h.good
 obtain⟨HH,HLD,HE0⟩:=h_3 h hload hE0
 have hbd:outs.length+List.length (α:=Pr) r.2<=1000000:=h.bd
 obtain⟨t,ht⟩: ∃t:List Pr,t=r.2:=⟨_,rfl⟩
 have hsrt:SrtK t:=by rw [ht];exact h.wf
 have HSR:=hi_ hsrt
 rw [<-ht] at hbd
 have HTR:=hi_ ht
 clear h hload hE0 ht hsrt
 simp only [refV,ptV,Value.cells] at HLD HE0 ⊢
 obtain⟨q,hq⟩: ∃q,q=Option.map (fun b=> (⟨b,0,none⟩:Addr)) yv.2:=⟨_,rfl⟩
 rw [<-hq] at HLD HE0 ⊢
 clear hq
 go_enter Tryz.func48,Tryz.ntmps48
 go_wp2_with fail
 refine HLD.out.mono ?_
 rintro e W1 ⟨b,v1,rfl,hn1,hs1,hsm1,hd1,hF1⟩
 have HW:Hid (ColS y v v1 L (.slice po outs.length co) (.slice po outs.length co) outs w W1):=hi_ ⟨by
  obtain⟨S,hS,hS2⟩:=TF.blocks (ov:= .slice none 0 0) (HH.out.sy.ext0 HE0.out) (TF.of hF1)
  exact(HH.out.ow.ext0 HE0.out).ext hS (fun g hg hm=> by
   rcases hS2 g hm with h | h
   ·simp [blkL] at h
   ·exact h _ (by simp) ((HH.out.ow.ext0 HE0.out).tagOf g hg)),hs1,hsm1,hd1,(TF.of (SyF.of0 HE0.out)).trans (Near.refl _ _) (TF.of hF1),Near.refl _ _⟩
 have hn1':NodeI (fun k=> (Av k\/w.heap.size<=k)/\k < W1.heap.size/\k∉blkL (.slice po outs.length co)) W1 b true t [] []:=by
  have hn2:=NodeRI.mono (Av':=fun k=> (Av k\/(w.alloc (.cells #[.int .i64 yv.1.1,.int .i64 yv.1.2.1,.int .i64 yv.1.2.2.1,.string ⟨yv.1.2.2.2.toArray⟩,.pointer q] 89)).heap.size<=k)/\k < W1.heap.size) (fun k h h2=> ⟨h,h2⟩) _ _ _ hn1
  rw [<-HTR.out] at hn2
  refine NodeI.mono hn2 (fun k hk _=> ?_)
  have hlt:=HH.out.ow.lt
  have hsz:w.heap.size<=(w.alloc (.cells #[.int .i64 yv.1.1,.int .i64 yv.1.2.1,.int .i64 yv.1.2.2.1,.string ⟨yv.1.2.2.2.toArray⟩,.pointer q] 89)).heap.size:=HE0.out.size
  refine⟨hk.1.imp id (fun h=> by omega),hk.2,fun hm=> ?_⟩
  rcases hk.1 with h | h
  ·exact HH.out.av k hm h
  ·have:=hlt k hm;omega
 have HN1:=hi_ hn1'
 clear hn1 hn1' hs1 hsm1 hd1 hF1 HE0 HLD
 have HW1:Hid (ColS y v1 v1 L (.slice po outs.length co) (.slice po outs.length co) outs W1 W1):=hi_ ⟨HW.out.ow,HW.out.sy,SameV.refl _,HW.out.dsk,TF.refl _ _ _,Near.refl _ _⟩
 have HAV:Hid (∀(wr:World) (ov':Value),Near W1 (.slice po outs.length co) ov'-> ∀k∈blkL ov',¬((Av k\/w.heap.size<=k)/\k < W1.heap.size/\k∉blkL (.slice po outs.length co))):=hi_ (fun wr ov' hn k hk ha=> by
  rcases hn k hk with h | h
  ·exact ha.2.2 h
  ·omega)
 obtain⟨N,hN⟩: ∃N,N=t.length:=⟨_,rfl⟩
 have HN:=hi_ hN
 rw [<-hN] at hbd
 obtain⟨pp,cp,pk,ck,pr,cr,c0,c1, -, -,hps, -, -⟩:=HN1.out.cells
 rw [<-hN] at c1 hps
 have HPS:=hi_ hps
 clear hps hN
 go_wp2_with fail
 refine(trat_c _ t fr _ (by rw [<-HN.out];omega) HPS.out.rd HSR.out).mono ?_
 rintro e W2 ⟨rfl,hE2⟩
 obtain⟨hi0,hlo,hhi⟩:=HSR.out.atF_spec fr
 obtain⟨i0,hi0e⟩: ∃i0,i0=atF t fr:=⟨_,rfl⟩
 rw [<-hi0e] at hi0 hlo hhi ⊢
 rw [<-HN.out] at hi0
 obtain⟨HLO,HHI⟩:=h_2 hlo hhi
 have HW2:=hi_ (HW1.out.ext0 hE2)
 have h0:selR fr up (t.take i0)= []:=eD_ (fun p hp=> by
  obtain⟨j,hj⟩:=List.getElem?_of_mem hp
  rw [List.getElem?_take] at hj
  split at hj
  ·exact hlo j p (by assumption) hj
  ·cases hj)
 have H0:=hi_ h0
 clear hi0e hlo hhi hE2 c0 c1 h0 HPS
 go_wp2_with fail
 go_loopw [5,16] (fun bv iv wr=> ∃(i:Nat) (v':Sv),i0<=i/\i<=N/\iv= .int .i64 i/\Hid (ColS y v1 v' L (.slice po outs.length co) bv (outs++selR fr up (t.take i)) W1 wr)/\Hid ((selR fr up (t.take i)).length<=m - outs.length)) (fun _ iv _=> N - (intOf iv).toNat)
 case atStart=> exact⟨i0,v1,Nat.le_refl _,hi0,rfl,hi_ (by rw [H0.out,List.append_nil];exact HW2.out),hi_ (by rw [H0.out];exact Nat.zero_le _)⟩
 case round=>
  obtain⟨i,v',hi1,hi2,rfl,HC,HL⟩:=hrel
  obtain⟨pb,cb,hbv,_⟩:=HC.out.ow.rd.len_eq
  rw [List.length_append] at hbv
  subst hbv
  obtain⟨s,hs⟩: ∃s,s=selR fr up (t.take i):=⟨_,rfl⟩
  rw [<-hs] at HC HL
  simp only [<-hs]
  have HS:=hi_ hs
  have hsl:s.length<=N:=by
   have h1:s.length<=(t.take i).length:=by rw [hs];exact List.length_filter_le _ _
   rw [List.length_take] at h1
   omega
  clear hs
  obtain⟨pp,cp,pk,ck,pr,cr,c0,c1, -, -,hps, -, -⟩:=(HN1.out.tf HW1.out.sy HC.out.tf (HAV.out wr _ (Near.refl _ _))).cells
  rw [<-HN.out] at c1 hps
  have HPS:=hi_ hps
  clear hps
  have hlen:outs.length+s.length<=1000000:=by omega
  by_cases hlt:i < N
  ·have z1:(i:Int) < (N:Int):=by omega
   have hit:i < t.length:=by rw [<-HN.out];exact hlt
   by_cases hms:outs.length+s.length < m
   ·have z2:(outs.length:Int)+(s.length:Int) < (m:Int):=by omega
    obtain⟨g,o,rfl⟩: ∃g o,pp=some ⟨g,o,none⟩:=by
     rcases HPS.out with ⟨h,_⟩ | ⟨g,o,c,_,h,_⟩
     ·simp only [Value.slice.injEq] at h;omega
     ·simp only [Value.slice.injEq] at h;exact⟨g,_,h.1⟩
    obtain⟨m1,m2⟩:=aJ_ HPS.out.rd i hit
    have hx:t.getD i ([],[])=t[i]:=by simp [List.getD,hit]
    rw [hx] at m1 m2
    have hnf: ¬t[i].1 < fr:=HHI.out i _ hi1 (List.getElem?_eq_getElem hit)
    have hstep:=sel_step (fr:=fr) (up:=up) t i hit hnf
    have hend:=sel_end (fr:=fr) (up:=up) t HSR.out i hit
    rw [<-HS.out] at hstep hend
    obtain⟨x,hxx⟩: ∃x,x=t[i]:=⟨_,rfl⟩
    rw [<-hxx] at m1 m2 hstep hend
    obtain⟨HSTEP,HEND⟩:=h_2 hstep hend
    clear hx hxx hnf hstep hend
    by_cases hu:up= []
    ·subst hu
     have hs1:=HSTEP.out (.inl rfl)
     have HS1:=hi_ hs1
     clear hs1
     go_wp2_with (with_reducible refine f_ (d:=81) ?_)
     refine k_ rfl fun K hK=> b_ (E:=EPr) (T:=36) (zero:=([],[])) (bytes:=32) (v:= .slice pb (outs.length+s.length) cb) (xs:=outs++s) (ys:= [x]) tiPr Tryz.underlying22 Tryz.underlying22 rfl rfl rfl (HC.out.ow.ext0 ((Ext.refl [] wr).alloc _)) (fW_ wr x) (by simp;omega) (by simp;omega) ?_
     intro v9 w9 how hext hnear _
     rw [List.append_assoc,<-HS1.out] at how
     obtain⟨p9,c9,hv9,_⟩:=how.rd.len_eq
     rw [List.length_append] at hv9
     subst hv9
     have hc9:=(HC.out.ext0 ((Ext.refl [] wr).alloc (.cells #[.string ⟨x.1.toArray⟩,.string ⟨x.2.toArray⟩] 36))).app how hext hnear
     have HC9:=hi_ hc9
     have hl9:(selR fr [] (t.take (i+1))).length<=m - outs.length:=by rw [HS1.out,List.length_append,List.length_singleton];omega
     have HL9:=hi_ hl9
     clear how hext hnear hc9 hl9 m1 m2 c0 c1
     refine hK _ _ ?_
     clear hK
     go_wp2_with fail
     go_roundw
     case rel=> exact⟨i+1,v',by omega,by omega,by go_num,HC9,HL9⟩
     case measure=> simp [intOf];omega
    ·have hub:(up== [])=false:=beq_eq_false_iff_ne.2 hu
     by_cases hk:x.1 < up
     ·have hs1:=HSTEP.out (.inr hk)
      have HS1:=hi_ hs1
      have hbl:Op.bytesLess x.1 up=true:=by rw [aQ_];simpa using hk
      clear hs1 hu hk
      go_wp2_with (with_reducible refine f_ (d:=81) ?_)
      refine k_ rfl fun K hK=> b_ (E:=EPr) (T:=36) (zero:=([],[])) (bytes:=32) (v:= .slice pb (outs.length+s.length) cb) (xs:=outs++s) (ys:= [x]) tiPr Tryz.underlying22 Tryz.underlying22 rfl rfl rfl (HC.out.ow.ext0 ((Ext.refl [] wr).alloc _)) (fW_ wr x) (by simp;omega) (by simp;omega) ?_
      intro v9 w9 how hext hnear _
      rw [List.append_assoc,<-HS1.out] at how
      obtain⟨p9,c9,hv9,_⟩:=how.rd.len_eq
      rw [List.length_append] at hv9
      subst hv9
      have hc9:=(HC.out.ext0 ((Ext.refl [] wr).alloc (.cells #[.string ⟨x.1.toArray⟩,.string ⟨x.2.toArray⟩] 36))).app how hext hnear
      have HC9:=hi_ hc9
      have hl9:(selR fr up (t.take (i+1))).length<=m - outs.length:=by rw [HS1.out,List.length_append,List.length_singleton];omega
      have HL9:=hi_ hl9
      clear how hext hnear hc9 hl9 m1 m2 c0 c1
      refine hK _ _ ?_
      clear hK
      go_wp2_with fail
      go_roundw
      case rel=> exact⟨i+1,v',by omega,by omega,by go_num,HC9,HL9⟩
      case measure=> simp [intOf];omega
     ·have hs1:=HEND.out hu hk
      have hfull:(selR fr up t).take (m - outs.length)=s:=by rw [hs1,List.take_of_length_le HL.out]
      have fin:=(HW.out.step HC.out).post
      rw [<-hfull] at fin
      have hbl:Op.bytesLess x.1 up=false:=by rw [aQ_];simpa using hk
      have hsl2:((selR fr up t).take (m - outs.length)).length=s.length:=by rw [hfull]
      rw [hsl2,HTR.out] at fin
      have FIN:=hi_ fin
      clear hs1 hu hk hfull fin hsl2
      go_wp2_with fail
      go_ret2
      exact FIN.out
   ·have z2: ¬((outs.length:Int)+(s.length:Int) < (m:Int)):=by omega
    have hfull:(selR fr up t).take (m - outs.length)=s:=by
     have h1:=HL.out
     rw [HS.out] at h1 ⊢
     exact sel_full t i _ h1 (by rw [<-HS.out];omega)
    have fin:=(HW.out.step HC.out).post
    rw [<-hfull] at fin
    have hsl2:((selR fr up t).take (m - outs.length)).length=s.length:=by rw [hfull]
    rw [hsl2,HTR.out] at fin
    have FIN:=hi_ fin
    clear hfull fin hsl2
    go_wp2_with fail
    go_ret2
    exact FIN.out
  ·have z1: ¬((i:Int) < (N:Int)):=by omega
   have hfull:(selR fr up t).take (m - outs.length)=s:=by
    have h1:=HL.out
    rw [HS.out,List.take_of_length_le (l:=t) (by rw [<-HN.out];omega)] at h1 ⊢
    exact List.take_of_length_le h1
   have fin:=(HW.out.step HC.out).post
   rw [<-hfull] at fin
   have hsl2:((selR fr up t).take (m - outs.length)).length=s.length:=by rw [hfull]
   rw [hsl2,HTR.out] at fin
   have FIN:=hi_ fin
   clear hfull fin hsl2
   go_wp2_with fail
   go_ret2
   exact FIN.out
def ColLaw (n:Nat):Prop:= ∀(Av:Nat->Prop) (y:Sy) (v:Sv) (L:List Blk) (yv:Rfm) (r:Rf n) (fr up:Ky) (m:Nat) (ov:Value) (outs:List Pr) (w:World),ColIn Av y v L n yv r ov outs w->(m:Int)<=9223372036854775807->
  Calls Tryz.prog 48 #[.pointer (some ⟨y.b,0,none⟩),refV yv,.string ⟨fr.toArray⟩,.string ⟨up.toArray⟩,.int .i64 m,ov] w (gZ_ y v L ov (outs++(selR fr up (prs n r.2)).take (m - outs.length)) w)
theorem iI_ (ih:ColLaw n):ColLaw (n+1):=by
 intro Av y v L yv r fr up m ov outs w h hm
 obtain⟨po,co,rfl,_⟩:=h.ow.rd.len_eq
 have hE0:Ext [] w (w.alloc (.cells (refV yv).cells 89)):=(Ext.refl [] w).alloc _
 have hload:=ew_ Av y v L (n+1) yv r _ (h.sy.ext0 hE0) h.dsk (h.kid.mono (fun b hn=> NodeRI.ext hE0 (by simp) _ _ _ hn)) h.dk h.good
 obtain⟨HH,HLD,HE0⟩:=h_3 h hload hE0
 obtain⟨t,ht⟩: ∃t:List (Pc n),t=r.2:=⟨_,rfl⟩
 have hbd:outs.length+(prsP t).length<=1000000:=by rw [ht];exact h.bd
 have HBD0:=hi_ hbd
 have HG:Hid (GoodT (n+1) t):=hi_ (by rw [ht];exact h.good)
 have HWF:Hid (SrtS (o_ t)/\SepL t/\ ∀k∈t,WfT n k.2.2):=hi_ (by rw [ht];exact h.wf)
 have HNE:Hid (t≠ []/\ ∀k∈t,NeT n k.2.2):=hi_ (by rw [ht];exact h.ne)
 have HDT:Hid (∀k∈t,DskK L n k.2/\DskT L n k.2.2):=hi_ (by rw [ht];exact h.dt)
 have HTR:=hi_ ht
 have htl:t.length<=900:=HG.out.1
 clear h hload hE0 ht hbd
 simp only [refV,ptV,Value.cells] at HLD HE0 ⊢
 obtain⟨q,hq⟩: ∃q,q=Option.map (fun b=> (⟨b,0,none⟩:Addr)) yv.2:=⟨_,rfl⟩
 rw [<-hq] at HLD HE0 ⊢
 clear hq
 go_enter Tryz.func48,Tryz.ntmps48
 go_wp2_with fail
 refine HLD.out.mono ?_
 rintro e W1 ⟨b,v1,rfl,hn1,hs1,hsm1,hd1,hF1⟩
 have HW:Hid (ColS y v v1 L (.slice po outs.length co) (.slice po outs.length co) outs w W1):=hi_ ⟨by
  obtain⟨S,hS,hS2⟩:=TF.blocks (ov:= .slice none 0 0) (HH.out.sy.ext0 HE0.out) (TF.of hF1)
  exact(HH.out.ow.ext0 HE0.out).ext hS (fun g hg hm=> by
   rcases hS2 g hm with h | h
   ·simp [blkL] at h
   ·exact h _ (by simp) ((HH.out.ow.ext0 HE0.out).tagOf g hg)),hs1,hsm1,hd1,(TF.of (SyF.of0 HE0.out)).trans (Near.refl _ _) (TF.of hF1),Near.refl _ _⟩
 have hn1':NodeRI (fun k=> (Av k\/w.heap.size<=k)/\k < W1.heap.size/\k∉blkL (.slice po outs.length co)) W1 (n+1) b t:=by
  have hn2:=NodeRI.mono (Av':=fun k=> (Av k\/(w.alloc (.cells #[.int .i64 yv.1.1,.int .i64 yv.1.2.1,.int .i64 yv.1.2.2.1,.string ⟨yv.1.2.2.2.toArray⟩,.pointer q] 89)).heap.size<=k)/\k < W1.heap.size) (fun k h h2=> ⟨h,h2⟩) _ _ _ hn1
  rw [<-HTR.out] at hn2
  refine NodeRI.mono (fun k hk _=> ?_) _ _ _ hn2
  have hlt:=HH.out.ow.lt
  have hsz:w.heap.size<=(w.alloc (.cells #[.int .i64 yv.1.1,.int .i64 yv.1.2.1,.int .i64 yv.1.2.2.1,.string ⟨yv.1.2.2.2.toArray⟩,.pointer q] 89)).heap.size:=HE0.out.size
  refine⟨hk.1.imp id (fun h=> by omega),hk.2,fun hm=> ?_⟩
  rcases hk.1 with h | h
  ·exact HH.out.av k hm h
  ·have:=hlt k hm;omega
 obtain⟨rs,hnd,hkids⟩:=hn1'
 obtain⟨HKIDS,HN1⟩:=h_2 hkids hnd
 have HW1:Hid (ColS y v1 v1 L (.slice po outs.length co) (.slice po outs.length co) outs W1 W1):=hi_ ⟨HW.out.ow,HW.out.sy,SameV.refl _,HW.out.dsk,TF.refl _ _ _,Near.refl _ _⟩
 have HAV:Hid (∀(wr:World) (ov':Value),Near W1 (.slice po outs.length co) ov'-> ∀k∈blkL ov',¬((Av k\/w.heap.size<=k)/\k < W1.heap.size/\k∉blkL (.slice po outs.length co))):=hi_ (fun wr ov' hn k hk ha=> by
  rcases hn k hk with h | h
  ·exact ha.2.2 h
  ·omega)
 clear hn1 hs1 hsm1 hd1 hF1 HE0 HLD hnd hkids
 obtain⟨N,hN⟩: ∃N,N=t.length:=⟨_,rfl⟩
 have HN:=hi_ hN
 have hrl:rs.length=N:=by rw [HKIDS.out.1,hN]
 rw [<-hN] at htl
 obtain⟨pp,cp,pk,ck,pr,cr,c0, -, -, -, -, -, -⟩:=HN1.out.cells
 have hkat:=kidAt HWF.out.1 fr HNE.out.1
 obtain⟨i0,hi0e⟩: ∃i0,i0=leK (o_ t) fr:=⟨_,rfl⟩
 have hkc:=trkid_c b (o_ t) rs [] false fr W1 HN1.out.node (by rw [t_];omega) HWF.out.1
 rw [<-hi0e] at hkat hkc
 have hi0:i0 < N:=by rw [hN];exact hkat.lt
 have h0:selR fr up (prsP (t.take i0))= []:=sel_ahead HWF.out.2.1 hkat
 obtain⟨H0,HKC,HKAT,HRL⟩:=h_4 h0 hkc hkat hrl
 clear hN hi0e h0 hkc hkat hrl
 go_wp2_with fail
 refine HKC.out.mono ?_
 rintro e W2 ⟨rfl,hw2⟩
 rw [hw2]
 clear hw2 W2 HKC c0
 go_wp2_with fail
 go_loopw [5,15,18] (fun bv _ iv wr=> ∃(i:Nat) (v':Sv),i0<=i/\i<=N/\iv= .int .i64 i/\Hid (ColS y v1 v' L (.slice po outs.length co) bv (outs++(selR fr up (prsP (t.take i))).take (m - outs.length)) W1 wr)) (fun _ _ iv _=> N - (intOf iv).toNat)
 case atStart=> exact⟨i0,v1,Nat.le_refl _,by omega,rfl,hi_ (by rw [H0.out,List.take_nil,List.append_nil];exact HW1.out)⟩
 case round=>
  obtain⟨i,v',hi1,hi2,rfl,HC⟩:=hrel
  obtain⟨pb,cb,hbv,_⟩:=HC.out.ow.rd.len_eq
  rw [List.length_append] at hbv
  subst hbv
  obtain⟨s,hs⟩: ∃s,s=(selR fr up (prsP (t.take i))).take (m - outs.length):=⟨_,rfl⟩
  rw [<-hs] at HC
  simp only [<-hs]
  have HS:=hi_ hs
  have hsr:s.length<=m - outs.length:=by rw [hs,List.length_take];omega
  have hsp:s.length<=(prsP (t.take i)).length:=by
   rw [hs,List.length_take]
   have:(selR fr up (prsP (t.take i))).length<=(prsP (t.take i)).length:=List.length_filter_le _ _
   omega
  obtain⟨HSR,HSP⟩:=h_2 hsr hsp
  clear hs hsr hsp
  have hnw:=HN1.out.tf HW1.out.sy HC.out.tf (HAV.out W1 _ (Near.refl _ _))
  obtain⟨pp,cp,pk,ck,pr,cr,c0, -,c2,c3, -,hks,hrs⟩:=hnw.cells
  rw [HRL.out] at c3 hrs
  rw [t_,<-HN.out] at c2 hks
  obtain⟨HKS,HRS⟩:=h_2 hks hrs
  clear hks hrs hnw
  by_cases hlt:i < N
  ·have z1:(i:Int) < (N:Int):=by omega
   have hit:i < t.length:=by rw [<-HN.out];exact hlt
   have hir:i < rs.length:=by rw [HRL.out];exact hlt
   by_cases hms:outs.length+s.length < m
   ·have z2:(outs.length:Int)+(s.length:Int) < (m:Int):=by omega
    obtain⟨g,o,rfl⟩: ∃g o,pr=some ⟨g,o,none⟩:=by
     rcases HRS.out with ⟨h,_⟩ | ⟨g,o,c,_,h,_⟩
     ·simp only [Value.slice.injEq] at h;omega
     ·simp only [Value.slice.injEq] at h;exact⟨g,_,h.1⟩
    have hmc:=ba_ HRS.out.rd i hir
    have hx:rs.getD i R0=rs[i]:=by simp [List.getD,hir]
    rw [hx] at hmc
    obtain⟨m1,m2,m3,m4,m5⟩:=hmc
    simp only [ptV] at m5
    have HKID:Hid (KidR (NodeRI (fun k=> (Av k\/w.heap.size<=k)/\k < W1.heap.size/\k∉blkL (.slice po outs.length co)) wr n) rs[i] t[i].2):=hi_ ((HKIDS.out.2 i _ _ (List.getElem?_eq_getElem hir) (List.getElem?_eq_getElem hit)).mono (fun bb hb=> NodeRI.tf HW1.out.sy HC.out.tf (HAV.out W1 _ (Near.refl _ _)) n bb _ hb))
    have HTM:Hid (s++(selR fr up (prs n t[i].2.2)).take (m - (outs++s).length)=(selR fr up (prsP (t.take (i+1)))).take (m - outs.length)):=hi_ (by
     rw [eN_ t i hit,ac_,<-take_more,<-HS.out,List.length_append]
     congr 2
     omega)
    have HBD:Hid ((outs++s).length+(prs n t[i].2.2).length<=1000000):=hi_ (by
     have h1:=fP_ t i hit
     have h2:=HSP.out
     have h3:=HBD0.out
     rw [List.length_append]
     omega)
    clear hx
    by_cases h0i:i=0
    ·have z3:((i:Int)==0)=true:=by rw [h0i];rfl
     clear h0i
     go_wp2_with fail
     have hcall:=ih (fun k=> (Av k\/w.heap.size<=k)/\k < W1.heap.size/\k∉blkL (.slice po outs.length co)) y v' L rs[i] t[i].2 fr (up) m (.slice pb (outs.length+s.length) cb) (outs++s) wr ⟨HC.out.sy,HC.out.dsk,HKID.out,(HDT.out t[i] (List.getElem_mem hit)).1,(HDT.out t[i] (List.getElem_mem hit)).2,(HG.out.2 t[i] (List.getElem_mem hit)).2.2,HWF.out.2.2 t[i] (List.getElem_mem hit),HNE.out.2 t[i] (List.getElem_mem hit),HC.out.ow,HAV.out wr _ HC.out.near,fun k hk=> Nat.lt_of_lt_of_le hk.2.1 HC.out.tf.size,HBD.out⟩ hm
     simp only [refV,ptV] at hcall
     refine hcall.mono ?_
     clear hcall
     rintro e W9 ⟨ov9,v9,rfl,how9,hs9,hsm9,hd9,htf9,hn9⟩
     rw [List.append_assoc,HTM.out] at how9
     obtain⟨p9,c9,hv9,_⟩:=how9.rd.len_eq
     simp only [List.length_append,List.length_take] at hv9
     subst hv9
     have hc9:=HC.out.step (⟨how9,hs9,hsm9,hd9,htf9,hn9⟩:ColS y v' v9 L _ _ _ wr W9)
     have HC9:=hi_ hc9
     clear how9 hs9 hsm9 hd9 htf9 hn9 hc9 m1 m2 m3 m4 m5 c0 c2 c3
     go_wp2_with fail
     go_roundw
     case rel=> exact⟨i+1,v9,by omega,by omega,by go_num,HC9⟩
     case measure=> simp [intOf];omega
    ·have z3:((i:Int)==0)=false:=beq_eq_false_iff_ne.2 (by omega)
     by_cases hu:up= []
     ·subst hu
      clear h0i
      go_wp2_with fail
      have hcall:=ih (fun k=> (Av k\/w.heap.size<=k)/\k < W1.heap.size/\k∉blkL (.slice po outs.length co)) y v' L rs[i] t[i].2 fr ([]) m (.slice pb (outs.length+s.length) cb) (outs++s) wr ⟨HC.out.sy,HC.out.dsk,HKID.out,(HDT.out t[i] (List.getElem_mem hit)).1,(HDT.out t[i] (List.getElem_mem hit)).2,(HG.out.2 t[i] (List.getElem_mem hit)).2.2,HWF.out.2.2 t[i] (List.getElem_mem hit),HNE.out.2 t[i] (List.getElem_mem hit),HC.out.ow,HAV.out wr _ HC.out.near,fun k hk=> Nat.lt_of_lt_of_le hk.2.1 HC.out.tf.size,HBD.out⟩ hm
      simp only [refV,ptV] at hcall
      refine hcall.mono ?_
      clear hcall
      rintro e W9 ⟨ov9,v9,rfl,how9,hs9,hsm9,hd9,htf9,hn9⟩
      rw [List.append_assoc,HTM.out] at how9
      obtain⟨p9,c9,hv9,_⟩:=how9.rd.len_eq
      simp only [List.length_append,List.length_take] at hv9
      subst hv9
      have hc9:=HC.out.step (⟨how9,hs9,hsm9,hd9,htf9,hn9⟩:ColS y v' v9 L _ _ _ wr W9)
      have HC9:=hi_ hc9
      clear how9 hs9 hsm9 hd9 htf9 hn9 hc9 m1 m2 m3 m4 m5 c0 c2 c3
      go_wp2_with fail
      go_roundw
      case rel=> exact⟨i+1,v9,by omega,by omega,by go_num,HC9⟩
      case measure=> simp [intOf];omega
     ·have hub:(up== [])=false:=beq_eq_false_iff_ne.2 hu
      have hkl:i - 1 < (o_ t).length:=by rw [t_,<-HN.out];omega
      obtain⟨gk,ok,rfl⟩: ∃g o,pk=some ⟨g,o,none⟩:=by
       rcases HKS.out with ⟨h,_⟩ | ⟨g,o,c,_,h,_⟩
       ·simp only [Value.slice.injEq] at h;omega
       ·simp only [Value.slice.injEq] at h;exact⟨g,_,h.1⟩
      have mk:=bz_ HKS.out.rd (i - 1) hkl
      have hkx:(o_ t).getD (i - 1) []=t[i].1:=by
       have h1:=bF_ t (i - 1) (by omega)
       have e:t[i - 1+1]'(by omega)=t[i]:=by congr 1;omega
       rw [e] at h1
       simp [List.getD,h1]
      rw [hkx] at mk
      have z4:IntKind.i64.wrap ((i:Int) - 1)=(i:Int) - 1:=IntWalk.i64_in _ (by omega)
      have z5:((i:Int) - 1).toNat=i - 1:=by omega
      have z6:(0:Int)<=(i:Int) - 1:=by omega
      have z7:(i:Int) - 1 < ((N - 1:Nat):Int):=by omega
      have hbeh:=ik_ (a:=fr) HWF.out.2.1 HWF.out.1 (by omega:0 < i) hu (List.getElem?_eq_getElem hit)
      obtain⟨x,hxx⟩: ∃x,x=t[i].1:=⟨_,rfl⟩
      rw [<-hxx] at mk hbeh
      have HBEH:=hi_ hbeh
      clear hkx hxx hbeh hkl h0i
      by_cases hk:x < up
      ·have hbl:Op.bytesLess x up=true:=by rw [aQ_];simpa using hk
       clear hu hk
       go_wp2_with fail
       have hcall:=ih (fun k=> (Av k\/w.heap.size<=k)/\k < W1.heap.size/\k∉blkL (.slice po outs.length co)) y v' L rs[i] t[i].2 fr (up) m (.slice pb (outs.length+s.length) cb) (outs++s) wr ⟨HC.out.sy,HC.out.dsk,HKID.out,(HDT.out t[i] (List.getElem_mem hit)).1,(HDT.out t[i] (List.getElem_mem hit)).2,(HG.out.2 t[i] (List.getElem_mem hit)).2.2,HWF.out.2.2 t[i] (List.getElem_mem hit),HNE.out.2 t[i] (List.getElem_mem hit),HC.out.ow,HAV.out wr _ HC.out.near,fun k hk=> Nat.lt_of_lt_of_le hk.2.1 HC.out.tf.size,HBD.out⟩ hm
       simp only [refV,ptV] at hcall
       refine hcall.mono ?_
       clear hcall
       rintro e W9 ⟨ov9,v9,rfl,how9,hs9,hsm9,hd9,htf9,hn9⟩
       rw [List.append_assoc,HTM.out] at how9
       obtain⟨p9,c9,hv9,_⟩:=how9.rd.len_eq
       simp only [List.length_append,List.length_take] at hv9
       subst hv9
       have hc9:=HC.out.step (⟨how9,hs9,hsm9,hd9,htf9,hn9⟩:ColS y v' v9 L _ _ _ wr W9)
       have HC9:=hi_ hc9
       clear how9 hs9 hsm9 hd9 htf9 hn9 hc9 m1 m2 m3 m4 m5 c0 c2 c3
       go_wp2_with fail
       go_roundw
       case rel=> exact⟨i+1,v9,by omega,by omega,by go_num,HC9⟩
       case measure=> simp [intOf];omega
      ·have hbl:Op.bytesLess x up=false:=by rw [aQ_];simpa using hk
       have hfull:(selR fr up (prsP t)).take (m - outs.length)=s:=by
        rw [fO_ t i,ac_,HBEH.out hk,List.append_nil]
        exact HS.out.symm
       clear hu hk
       have fin:=(HW.out.step HC.out).post
       rw [<-hfull] at fin
       have hsl2:((selR fr up (prsP t)).take (m - outs.length)).length=s.length:=by rw [hfull]
       rw [hsl2,HTR.out] at fin
       have FIN:=hi_ fin
       clear hfull fin hsl2
       go_wp2_with fail
       go_ret2
       exact FIN.out
   ·have z2: ¬((outs.length:Int)+(s.length:Int) < (m:Int)):=by omega
    have hfull:(selR fr up (prsP t)).take (m - outs.length)=s:=by
     have h1:=HSR.out
     rw [fO_ t i,ac_,List.take_append_of_le_length]
     ·exact HS.out.symm
     ·have h2:s.length=m - outs.length:=by omega
      rw [HS.out,List.length_take] at h2
      omega
    have fin:=(HW.out.step HC.out).post
    rw [<-hfull] at fin
    have hsl2:((selR fr up (prsP t)).take (m - outs.length)).length=s.length:=by rw [hfull]
    rw [hsl2,HTR.out] at fin
    have FIN:=hi_ fin
    clear hfull fin hsl2
    go_wp2_with fail
    go_ret2
    exact FIN.out
  ·have z1: ¬((i:Int) < (N:Int)):=by omega
   have hfull:(selR fr up (prsP t)).take (m - outs.length)=s:=by
    rw [HS.out,List.take_of_length_le (l:=t) (by rw [<-HN.out];omega)]
   have fin:=(HW.out.step HC.out).post
   rw [<-hfull] at fin
   have hsl2:((selR fr up (prsP t)).take (m - outs.length)).length=s.length:=by rw [hfull]
   rw [hsl2,HTR.out] at fin
   have FIN:=hi_ fin
   clear hfull fin hsl2
   go_wp2_with fail
   go_ret2
   exact FIN.out
theorem gl_: ∀n,ColLaw n
 | 0=> fun Av y v L yv r fr up m ov outs w h hm=> iJ_ Av y v L yv r fr up m ov outs w h hm
 | n+1=> iI_ (gl_ n)
structure TS where
 root:Root
 gone:List Ptr4
 dirty:Bool
def p_:Root->List Pr
 | none=> []
 | some ⟨n,r⟩=> prs n r.2
def RootR (w:World) (yv:Rfm):Root->Prop
 | none=> yv=(P0,none)
 | some ⟨n,r⟩=> KidR (NodeR w n) yv r
structure GoodRf (L:List Blk) (n:Nat) (r:Rf n):Prop where
 dk:DskK L n r
 dt:DskT L n r.2
 good:GoodT n r.2
 wf:WfT n r.2
 ne:NeT n r.2
def GoodRt (L:List Blk):Root->Prop
 | none=> True
 | some ⟨n,r⟩=> GoodRf L n r
def br_ (y:Sy) (yv:Rfm) (gv:Value) (d:Bool):Array Value:=
 #[.pointer (some ⟨y.b,0,none⟩),.int .i64 yv.1.1,.int .i64 yv.1.2.1,.int .i64 yv.1.2.2.1,.string ⟨yv.1.2.2.2.toArray⟩,ptV yv.2,gv,.bool d]
structure TreeR (w:World) (y:Sy) (tb:Nat) (yv:Rfm) (gv:Value) (s:TS):Prop where
 blk:w.heap[tb]? =some (.cells (br_ y yv gv s.dirty) 91 (0,0))
 root:RootR w yv s.root
 gone:EP.Ow 34 w gv s.gone
theorem RootR.ext (h:RootR w yv r) (he:Ext S w w') (hS: ∀k∈S,∀T∈aE_,r_ w k≠some T):RootR w' yv r:=by
 cases r with
 | none=> exact h
 | some x=> exact KidR.mono h (fun b hn=> NodeR.ext he hS _ b _ hn)
theorem TreeR.ext {s:TS} (h:TreeR w y tb yv gv s) (he:Ext S w w') (hS: ∀k∈S,∀T∈(91::34::aE_),r_ w k≠some T):TreeR w' y tb yv gv s:=
 ⟨he.blk h.blk (fun hm=> hS tb hm _ (by simp) (d_ h.blk)),h.root.ext he (fun k hk T hT=> hS k hk T (List.mem_cons_of_mem _ (List.mem_cons_of_mem _ hT))),h.gone.ext he (fun g hg hm=> hS g hm _ (by simp) (h.gone.tagOf g hg))⟩
theorem TreeR.ext0 {s:TS} (h:TreeR w y tb yv gv s) (he:Ext [] w w'):TreeR w' y tb yv gv s:=h.ext he (by simp)
theorem SyF.tags (hy:SyR w y v) (h:SyF y w w'): ∃S,Ext S w w'/\ ∀k∈S,∀T,T∉ [117,143,168,339,175]->r_ w k≠some T:=by
 obtain⟨S,h1,h2⟩:=h
 refine⟨S,h1,fun k hk T hT e=> ?_⟩
 simp only [List.mem_cons,List.not_mem_nil,or_false,not_or] at hT
 rcases h2 k hk with h | ⟨T',h3,h4,_⟩
 ·simp only [List.mem_cons,List.not_mem_nil,or_false] at h
  rcases h with rfl | rfl | rfl
  ·rw [hy.st.tag] at e;cases e;exact hT.1 rfl
  ·rw [hy.rk.tag.1] at e;cases e;exact hT.2.1 rfl
  ·rw [hy.sp.tag] at e;cases e;exact hT.2.2.1 rfl
 ·rw [h4] at e
  cases e
  simp only [List.mem_cons,List.not_mem_nil,or_false] at h3
  rcases h3 with rfl | rfl
  ·exact hT.2.2.2.1 rfl
  ·exact hT.2.2.2.2 rfl
theorem TreeR.syf {y y':Sy} {s:TS} (h:TreeR w y tb yv gv s) (hy:SyR w y' v) (hf:SyF y' w w'):TreeR w' y tb yv gv s:=by
 obtain⟨S,h1,h2⟩:=hf.tags hy
 exact h.ext h1 (fun k hk T hT=> h2 k hk T (by revert T;decide))
theorem TreeR.cells {s:TS} (h:TreeR w y tb yv gv s):w.cell? ⟨tb,0,none⟩=some (.pointer (some ⟨y.b,0,none⟩))/\w.cell? ⟨tb,1,none⟩=some (.int .i64 yv.1.1)/\w.cell? ⟨tb,2,none⟩=some (.int .i64 yv.1.2.1)/\w.cell? ⟨tb,3,none⟩=some (.int .i64 yv.1.2.2.1)/\
  w.cell? ⟨tb,4,none⟩=some (.string ⟨yv.1.2.2.2.toArray⟩)/\w.cell? ⟨tb,5,none⟩=some (ptV yv.2)/\w.cell? ⟨tb,6,none⟩=some gv/\w.cell? ⟨tb,7,none⟩=some (.bool s.dirty):=by
 refine⟨?_, ?_, ?_, ?_, ?_, ?_, ?_, ?_⟩ <;> (rw [cell_of_row w tb _ _ _ _ h.blk];rfl)
theorem hg_ (w w0:World) (yv:Rfm) (r:Root) (L:List Blk) (h:RootR w0 yv r) (hg:GoodRt L r) (hL: ∀x∈L,1<=x.2.length):Calls Tryz.prog 47 #[refV yv] w fun e w'=> e= .returned (.bool (decide (r=none)))/\Ext [] w w':=by
 cases r with
 | none=>
  obtain rfl:yv=(P0,none):=h
  simp only [refV,ptV,Option.map_none]
  go_enter Tryz.func47,Tryz.ntmps47
  go_wp2_with fail
  go_ret
  exact⟨rfl,(Ext.refl _ _).alloc _⟩
 | some x=>
  obtain⟨n,r⟩:=x
  have hk:KidR (NodeR w0 n) yv r:=h
  have hdf:decide ((some ⟨n,r⟩:Root)=none)=false:=by simp
  rw [hdf]
  unfold KidR at hk
  cases hr:r.1 with
  | none=>
   simp only [hr] at hk
   obtain⟨b,rfl, -⟩:=hk
   simp only [refV,ptV,Option.map_some]
   clear h hg hr hdf
   go_enter Tryz.func47,Tryz.ntmps47
   go_wp2_with fail
   go_ret
   exact⟨rfl,(Ext.refl _ _).alloc _⟩
  | some q=>
   simp only [hr] at hk
   subst hk
   obtain⟨hx,hpt, -⟩:=hg.dk q hr
   have h1:=hL _ hx
   have h2:q.2.1=_:=hpt.1
   have z1:((q.2.1:Int)==0)=false:=beq_eq_false_iff_ne.2 (by rw [h2];simp only at h1;omega)
   simp only [refV,ptV,Option.map_none]
   clear h hg hr hdf hx hpt h1 h2
   go_enter Tryz.func47,Tryz.ntmps47
   go_wp2_with fail
   go_ret
   exact⟨rfl,(Ext.refl _ _).alloc _⟩
def fj_ (y:Sy) (v:Sv) (L:List Blk) (zs:List Pr) (w:World) (e:Ending) (w':World):Prop:=
 ∃u v',e= .returned (.tuple #[u,.int .i64 0])/\EPr.Ow 36 w' u zs/\(∀g∈blkL u,w.heap.size<=g)/\SyR w' y v'/\SameV v v'/\Dsk y v' L/\SyF y w w'
theorem dl_ (y:Sy) (v:Sv) (L:List Blk) (tb:Nat) (yv:Rfm) (gv:Value) (s:TS) (fr up:Ky) (m:Nat) (w:World) (h:SyR w y v) (hd:Dsk y v L) (ht:TreeR w y tb yv gv s) (hg:GoodRt L s.root) (hm:(m:Int)<=9223372036854775807) (hb:(p_ s.root).length<=1000000):
  Calls Tryz.prog 16 #[.pointer (some ⟨tb,0,none⟩),.string ⟨fr.toArray⟩,.string ⟨up.toArray⟩,.int .i64 m] w (fj_ y v L ((selR fr up (p_ s.root)).take m) w):=by
 obtain⟨Z,hZ⟩: ∃Z,Z=(selR fr up (p_ s.root)).take m:=⟨_,rfl⟩
 rw [<-hZ]
 have HZ:=hi_ hZ
 clear hZ
 obtain⟨c0,c1,c2,c3,c4,c5, -, -⟩:=ht.cells
 simp only [ptV] at c5
 have hnone:=fun W=> hg_ W w yv s.root L ht.root hg (fun x hx=> (hd.std x hx).1)
 obtain⟨HN,HS,HD,HT,HG⟩:=h_5 hnone h hd ht hg
 have z1: ¬((m:Int) < 0):=by omega
 have htl:tb < w.heap.size:=g_ ht.blk
 clear h hd ht hg hnone
 simp only [refV,ptV] at HN
 obtain⟨q,hq⟩: ∃q,q=Option.map (fun b=> (⟨b,0,none⟩:Addr)) yv.2:=⟨_,rfl⟩
 rw [<-hq] at HN c5
 have HQ:=hi_ hq
 clear hq
 go_enter Tryz.func16,Tryz.ntmps16
 go_wp2_with fail
 refine(HN.out _).mono ?_
 rintro e W1 ⟨rfl,hE1⟩
 cases hr:s.root with
 | none=>
  simp only [decide_true]
  have hz:Z= []:=by rw [HZ.out,hr];simp [p_,selR]
  have HZZ:=hi_ hz
  clear hz
  have HS1:=hi_ (HS.out.ext0 hE1)
  clear hr c0 c1 c2 c3 c4 c5
  go_wp2_with fail
  go_ret2
  exact⟨_,v,rfl,.inl ⟨rfl,HZZ.out⟩,by simp [blkL],HS1.out,SameV.refl v,HD.out,SyF.of0 hE1⟩
 | some x=>
  obtain⟨n,r⟩:=x
  have hdf:decide ((some ⟨n,r⟩:Root)=none)=false:=by simp
  rw [hdf]
  have hz:Z=(selR fr up (prs n r.2)).take m:=by rw [HZ.out,hr];rfl
  have HZZ:=hi_ hz
  have hs1:=HS.out.ext0 hE1
  have hkid:KidR (NodeR W1 n) yv r:=by
   have h:=(HT.out.ext0 hE1).root
   rw [hr] at h
   exact h
  have hgr:GoodRf L n r:=by
   have h:=HG.out
   rw [hr] at h
   exact h
  have hbd:(prs n r.2).length<=1000000:=by
   rw [hr] at hb
   exact hb
  have k0:=hE1.cell c0 (by simp)
  have k1:=hE1.cell c1 (by simp)
  have k2:=hE1.cell c2 (by simp)
  have k3:=hE1.cell c3 (by simp)
  have k4:=hE1.cell c4 (by simp)
  have k5:=hE1.cell c5 (by simp)
  obtain⟨HS1,HK,HGR,HBD,HE1⟩:=h_5 hs1 hkid hgr hbd hE1
  clear hr hz hs1 hkid hgr hbd hE1 c0 c1 c2 c3 c4 c5 hdf HN hb
  go_wp2_with fail
  have hD:=(Ext.refl [] W1).drew
  refine e_ (fun W=> W.cell? ⟨tb,0,none⟩=some (.pointer (some ⟨y.b,0,none⟩))/\W.cell? ⟨tb,1,none⟩=some (.int .i64 yv.1.1)/\W.cell? ⟨tb,2,none⟩=some (.int .i64 yv.1.2.1)/\W.cell? ⟨tb,3,none⟩=some (.int .i64 yv.1.2.2.1)/\W.cell? ⟨tb,4,none⟩=some (.string ⟨yv.1.2.2.2.toArray⟩)/\W.cell? ⟨tb,5,none⟩=some (.pointer q)) (fun i=> i==3 || i==7) (by kernel_rfl) ⟨hD.cell k0 (by simp),hD.cell k1 (by simp),hD.cell k2 (by simp),hD.cell k3 (by simp),hD.cell k4 (by simp),hD.cell k5 (by simp)⟩ (fun hS=> ?_)
  refine PUq 0 ?_;(try go_frame)
  refine PUq 1 ?_;(try go_frame)
  refine PUq 2 ?_;(try go_frame)
  refine PUq 4 ?_;(try go_frame)
  refine PUq 5 ?_;(try go_frame)
  refine PUq 6 ?_;(try go_frame)
  refine PUq 8 ?_;(try go_frame)
  refine PUq 9 ?_;(try go_frame)
  refine PUq 10 ?_;(try go_frame)
  simp only [zA,zB,zC,zD,zE]
  refine ta 3 ?_;(try go_frame)
  refine ta 7 ?_;(try go_frame)
  refine a_ (i:=11) (by kernel_rfl) rfl (fun K hK=> ?_)
  (try simp only [Act.put,zA,zB,zC,List.setIfInBounds_toArray,zD,zE]);refine iw rfl ?_
  go_simp
  have hcall:=gl_ n (fun k=> k < W1.heap.size) y v L yv r fr up m (.slice none 0 0) [] W1.drew ⟨HS1.out.ext0 hD,HD.out,(HK.out.mono (fun b hn=> NodeRI.ext hD (by simp) _ _ _ (NodeR.toI _ _ _ hn))),HGR.out.dk,HGR.out.dt,HGR.out.good,HGR.out.wf,HGR.out.ne,.inl ⟨rfl,rfl⟩,by simp [blkL],fun k hk=> hk,by simpa using HBD.out⟩ hm
  simp only [refV,ptV,<-HQ.out,List.nil_append,List.length_nil,Nat.sub_zero] at hcall
  refine hcall.mono ?_
  clear hcall
  rintro e W2 ⟨u,v2,rfl,how,hs2,hsm,hd2,htf,hnr⟩
  have hF:SyF y W1.drew W2:=htf
  have HF:=hi_ ((SyF.of0 (HE1.out.trans hD):SyF y w _).trans hF)
  have hfu: ∀g∈blkL u,w.heap.size<=g:=fun g hg=> by
   rcases hnr g hg with h | h
   ·simp [blkL] at h
   ·exact Nat.le_trans (HE1.out.trans hD).size h
  obtain⟨HFU,HOW,HS2⟩:=h_3 hfu how hs2
  refine nk hK ?_
  clear hK hS hnr htf hF hfu how hs2
  refine PUq 12 ?_;(try go_frame)
  simp only [zA,zB,zC,zD,zE]
  refine PUq 13 ?_;(try go_frame)
  simp only [zA,zB,zC,zD,zE]
  refine PUq 14 ?_;(try go_frame)
  simp only [zA,zB,zC,zD,zE]
  refine PUq 15 ?_;(try go_frame)
  simp only [zA,zB,zC,zD,zE]
  refine c_ (by kernel_rfl) ?_ _
  go_wp2
  go_ret2
  exact⟨u,v2,rfl,by rw [HZZ.out];exact HOW.out,HFU.out,HS2.out,hsm,hd2,HF.out⟩
end Go.Proofs.YtkpgjkekmdecbaaGreat
