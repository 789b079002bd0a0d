/- Lemmas for the claim. No conditions beside those that each states. -/
import Derived.Deep.Slices
import Derived.Deep.Fields
import Derived.ChangeSame
import Derived.Test.YtkpgjkekmdecbaaGreatFullAA
import Derived.Test.YtkpgjkekmdecbaaGreatFullAB
import Derived.Test.YtkpgjkekmdecbaaGreatRows
import Derived.KernelRfl
import Derived.StillTailTactics
import Derived.BigQuiet
import Derived.Deep.CutBlock
set_option maxRecDepth 100000
set_option maxHeartbeats 8000000
set_option linter.all false

namespace Go.Proofs.YtkpgjkekmdecbaaGreat
open Go.RowKit Go.ChangeShapes Go.WideShapes Go.Deep
variable {w:World} {T:TypeId} {n g:Nat}
def AR {α:Type} (E:Enc α) (w:World) (v:Value) (xs:List α):Prop:= ∃p cap,v= .slice p xs.length cap/\(xs≠ []->E.Rd w v xs)
theorem dG_ {α:Type} (p:Nat->α->Prop): ∀n:Nat,(∀i < n,∃x,p i x)-> ∃xs:List α,xs.length=n/\ ∀i x,xs[i]? =some x->p i x
 | 0,_=> ⟨[],rfl,by simp⟩
 | n+1,h=> by
  obtain⟨xs,h1,h2⟩:=dG_ p n (fun i hi=> h i (by omega))
  obtain⟨y,hy⟩:=h n (by omega)
  refine⟨xs++ [y],by simp [h1],fun i x hx=> ?_⟩
  rcases Nat.lt_trichotomy i n with h3 | h3 | h3
  ·rw [List.getElem?_append_left (by omega)] at hx;exact h2 i x hx
  ·subst h3
   rw [List.getElem?_append_right (by omega),h1,Nat.sub_self] at hx
   simp at hx;subst hx;exact hy
  ·rw [List.getElem?_eq_none (by simp;omega)] at hx;cases hx
theorem ar_of {α:Type} {E:Enc α} {a:Addr} {len cap:Nat} (good:α->Prop) (hk:0 < E.k) (hl:len<=cap)
  (h: ∀i < len,∃x:α,good x/\ ∀r < E.k,w.cell? (a.add (i*E.k+r))=(E.enc x)[r]?): ∃xs:List α,(∀x∈xs,good x)/\AR E w (.slice (some a) len cap) xs:=by
 obtain⟨xs,h1,h2⟩:=dG_ _ len h
 subst h1
 refine⟨xs,fun x hx=> ?_,⟨_,cap,rfl,fun hne=> ?_⟩⟩
 ·obtain⟨i,hi,rfl⟩:=List.getElem_of_mem hx
  exact(h2 i _ (List.getElem?_eq_getElem hi)).1
 ·have hpos:0 < xs.length:=List.length_pos_iff.2 hne
  have h3:=(h2 0 _ (List.getElem?_eq_getElem hpos)).2 0 hk
  have h4:w.cell? a=some ((E.enc xs[0])[0]'(by rw [E.len];exact hk)):=by
   have e:a.add (0*E.k+0)=a:=by simp [Addr.add]
   rw [e,List.getElem?_eq_getElem (by rw [E.len];exact hk)] at h3
   exact h3
  obtain⟨g,o,sp⟩:=a
  have hsp:sp=none:=World.cell?_spot h4
  subst hsp
  refine .inr ⟨g,o,cap,rfl,hl, ?_,fun j u hj=> ?_⟩
  ·rcases Nat.lt_or_ge g w.heap.size with h | h
   ·exact h
   ·simp [World.cell?,Array.getElem?_eq_none h] at h4
  ·have hjl:j < xs.length*E.k:=by have:=(List.getElem?_eq_some_iff.1 hj).1;rwa [E.length_flat] at this
   have hr:j % E.k < E.k:=Nat.mod_lt _ hk
   have hq:j / E.k < xs.length:=(Nat.div_lt_iff_lt_mul hk).2 hjl
   have ej:j=j / E.k*E.k+j % E.k:=by rw [Nat.mul_comm];exact(Nat.div_add_mod j E.k).symm
   have h5:=(h2 (j / E.k) _ (List.getElem?_eq_getElem hq)).2 (j % E.k) hr
   rw [<-ej] at h5
   have e2:(⟨g,o,none⟩:Addr).add j=⟨g,o+j,none⟩:=by
    simp only [Addr.add]
    split
    ·rename_i h;subst h;rfl
    ·rfl
   rw [e2] at h5
   rw [h5]
   rw [ej,E.flat_get xs _ _ hr,List.getElem?_eq_getElem hq] at hj
   simpa using hj
section
variable {H:Type} {enc:TypeId×Value->H} {P:Program} {w:World} {base:Nat} {spare:Nat->Bool} {held:Bool}
theorem dD_ {e:TypeId} {fs:Array Field} {cs:List Value} {x:DataW H×List MemPlace} {a:Addr} (he:P.underlying e=some (.struct fs)) (hone:oneCellFields P fs=true)
  (hC:P.cellsOf e=fs.size) (hc:w.cells? base a (P.cellsOf e)=some cs) (h:DataW.trod enc P w base spare held n e cs=some x) {j:Nat} {f:Field} (hj:fs[j]? =some f):
  ∃v y m,w.cell? (a.add j)=some v/\DataW.trod enc P w base spare held m f.type [v]=some y:=by
 obtain⟨ys,m,_,_,_,hyl,hf⟩:=DataW.trod_struct he h
 obtain⟨_,hcl,hat⟩:=World.cells?_some hc
 obtain⟨ho,hk⟩:=hone_of hone j f hj
 have hjl:j < fs.size:=(Array.getElem?_eq_some_iff.1 hj).1
 have hjc:j < cs.length:=by omega
 have h1:=hf j f hj
 have hd:(cs.drop j).take 1= [cs[j]]:=by rw [List.drop_eq_getElem_cons hjc];rfl
 rw [ho,hk,hd,List.getElem?_eq_getElem (by omega)] at h1
 exact⟨_,_,m,by rw [hat j (by omega),List.getElem?_eq_getElem hjc],h1⟩
theorem field_int {e:TypeId} {fs:Array Field} {cs:List Value} {x:DataW H×List MemPlace} {a:Addr} (he:P.underlying e=some (.struct fs)) (hone:oneCellFields P fs=true)
  (hC:P.cellsOf e=fs.size) (hc:w.cells? base a (P.cellsOf e)=some cs) (h:DataW.trod enc P w base spare held n e cs=some x) {j:Nat} {f:Field} (hj:fs[j]? =some f) (hi:P.underlying f.type=some (.int .i64)):
  ∃z,w.cell? (a.add j)=some (.int .i64 z)/\ -9223372036854775808<=z/\z<=9223372036854775807:=by
 obtain⟨v,y,m,h1,h2⟩:=dD_ he hone hC hc h hj
 obtain⟨z,h3,_,h4⟩:=DataW.trod_int hi h2
 obtain rfl:v= .int .i64 z:=by simpa using h3
 refine⟨z,h1, ?_⟩
 simp only [Lit.wf,IntKind.min,IntKind.max,IntKind.signed,IntKind.bits,Bool.and_eq_true,decide_eq_true_eq,if_true] at h4
 omega
theorem open_ar {α:Type} (E:Enc α) (good:α->Prop) {t e:TypeId} {v:Value} {d:DataW H} {ps:List MemPlace} (hk:0 < E.k) (ht:P.underlying t=some (.slice e)) (hC:P.cellsOf e=E.k)
  (h:DataW.Trod enc P w base spare held t v d ps) {r:Reach} {b0:Nat} (hv:Value.okWide P w r b0 t v)
  (hel: ∀(a:Addr) (n:Nat) (cs:List Value) (x:DataW H×List MemPlace),w.cells? base a (P.cellsOf e)=some cs->DataW.trod enc P w base spare held n e cs=some x-> ∃y:α,good y/\ ∀q < E.k,w.cell? (a.add q)=(E.enc y)[q]?):
  ∃xs:List α,(∀x∈xs,good x)/\AR E w v xs:=by
 obtain⟨p,len,cap,rfl⟩:=okWide_slice ht hv
 obtain⟨fuel,hf⟩:=h
 rcases open_slice ht hf with ⟨h0,_⟩ | ⟨a,len',cap',m,n,D,Pl,hcs,hb,hl,hm,hmm,hx,hi⟩
 ·have h1:(Value.slice p len cap)= .slice none 0 0:=by simpa [Value.cells] using h0
  cases h1
  exact⟨[],by simp,none,0,rfl,fun h=> (h rfl).elim⟩
 ·have h1:(Value.slice p len cap)= .slice (some a) len' cap':=by simpa [Value.cells] using hcs
  cases h1
  refine ar_of good hk hl (fun i hil=> ?_)
  obtain⟨cs,hc,htr⟩:=hi i (by rw [hmm];split <;> omega)
  rw [hC] at hc
  obtain⟨y,hy,hcell⟩:=hel _ n cs _ (by rw [hC];exact hc) htr
  refine⟨y,hy,fun q hq=> ?_⟩
  rw [<-hcell q hq,add_add]
end
end Go.Proofs.YtkpgjkekmdecbaaGreat
namespace Go.Proofs.YtkpgjkekmdecbaaGreat
open Go.RowKit
variable {w:World} {T:TypeId} {n g:Nat}
def C_ (c:Nat):List UInt8:=if h:c < 128 then [UInt8.ofNat c] else UInt8.ofNat (c % 128+128)::C_ (c / 128)
termination_by c
decreasing_by omega
theorem w_ {c:Nat} (h:c < 128):C_ c= [UInt8.ofNat c]:=by rw [C_,dif_pos h]
theorem as_ {c:Nat} (h:128<=c):C_ c=UInt8.ofNat (c % 128+128)::C_ (c / 128):=by rw [C_,dif_neg (by omega)]
theorem x_ (n c:Nat) (h:c < 128 ^ (n+1)):1<=(C_ c).length/\(C_ c).length<=n+1:=by
 induction n generalizing c with
 | zero=> rw [w_ (by simpa using h)];simp
 | succ n ih=>
  by_cases hc:c < 128
  ·rw [w_ hc];simp
  ·rw [as_ (by omega),List.length_cons]
   have h2:c / 128 < 128 ^ (n+1):=by
    rw [Nat.div_lt_iff_lt_mul (by omega)]
    rw [Nat.pow_succ] at h
    exact h
   have:=ih _ h2
   omega
theorem or_add (acc y i:Nat) (h:acc < 2 ^ (7*i)):acc ||| (y <<< (7*i))=acc+y*2 ^ (7*i):=by
 rw [Nat.or_comm,<-Nat.shiftLeft_add_eq_or_of_lt h,Nat.shiftLeft_eq]
 omega
inductive Itm where
 | num (n:Nat)
 | txt (s:List UInt8)
def encI:Itm->List UInt8
 | .num n=> 1::C_ (2*n)
 | .txt s=> 2::(C_ s.length++s)
def encL (l:List Itm):List UInt8:=(l.map encI).flatten
theorem s_ (a:Itm) (l:List Itm):encL (a::l)=encI a++encL l:=by simp [encL]
theorem bB_ (l m:List Itm):encL (l++m)=encL l++encL m:=by simp [encL]
abbrev Ptr4:=Nat×Nat×Int×List UInt8
def EP:Enc Ptr4 where
 k:=4
 hk:=by decide
 enc x:= [.int .i64 x.1,.int .i64 x.2.1,.int .i64 x.2.2.1,.string ⟨x.2.2.2.toArray⟩]
 len _:=rfl
 one _ v hv:=by simp at hv;rcases hv with rfl | rfl | rfl | rfl <;> rfl
abbrev P0:Ptr4:=(0,0,0,[])
theorem fs_ {g o n cap:Nat} {s:List Ptr4} (h:EP.Rd w (.slice (some ⟨g,o,none⟩) n cap) s) (i:Nat) (hi:i < s.length):
  w.cell? ⟨g,o+i*4,none⟩=some (.int .i64 (s.getD i P0).1)/\w.cell? ⟨g,o+i*4+1,none⟩=some (.int .i64 (s.getD i P0).2.1)/\w.cell? ⟨g,o+i*4+2,none⟩=some (.int .i64 (s.getD i P0).2.2.1)/\w.cell? ⟨g,o+i*4+3,none⟩=some (.string ⟨(s.getD i P0).2.2.2.toArray⟩):=by
 have e:s.getD i P0=s[i]:=by simp [List.getD,hi]
 rw [e]
 exact⟨h.cells i 0 hi (by decide),h.cells i 1 hi (by decide),h.cells i 2 hi (by decide),h.cells i 3 hi (by decide)⟩
theorem eX_ (W0:World) (x:Ptr4):EP.Rd (W0.alloc (.cells #[.int .i64 x.1,.int .i64 x.2.1,.int .i64 x.2.2.1,.string ⟨x.2.2.2.toArray⟩] T)) (.slice (some ⟨W0.heap.size,0,none⟩) 1 1) [x]:=by
 refine .inr ⟨W0.heap.size,0,1,rfl,Nat.le_refl _,by simp,fun j u hj=> ?_⟩
 rw [cell_of_row _ W0.heap.size _ _ _ _ (heap_alloc_new _ _)]
 match j,hj with
 | 0,hj=> exact hj
 | 1,hj=> exact hj
 | 2,hj=> exact hj
 | 3,hj=> exact hj
 | j+4,hj=> simp [EP,Enc.flat] at hj
abbrev Ky:=List UInt8
abbrev Pr:=Ky×Ky
def El:Nat->Type
 | 0=> Ky×Ky
 | n+1=> Ky×Option Ptr4×List (El n)
abbrev Rf (n:Nat):=Option Ptr4×List (El n)
abbrev Pc (n:Nat):=Ky×Option Ptr4×List (El n)
def El.key:{n:Nat}->El n->Ky
 | 0,e=> e.1
 | _+1,e=> e.1
def prs:(n:Nat)->List (El n)->List Pr
 | 0,t=> t
 | n+1,t=> List.flatMap (fun k:Pc n=> prs n k.2.2) t
def bkT:(n:Nat)->List (El n)->List Ptr4
 | 0,_=> []
 | n+1,t=> List.flatMap (fun k:Pc n=> k.2.1.toList++bkT n k.2.2) t
def bkR {n:Nat} (r:Rf n):List Ptr4:=r.1.toList++bkT n r.2
def bkP {n:Nat} (l:List (Pc n)):List Ptr4:=l.flatMap (fun k:Pc n=> k.2.1.toList++bkT n k.2.2)
def prsP {n:Nat} (t:List (Pc n)):List Pr:=t.flatMap (fun k=> prs n k.2.2)
theorem hH_ (t:List (Pc n)):prs (n+1) t=prsP t:=rfl
theorem ag_ (a b:List (Pc n)):prsP (a++b)=prsP a++prsP b:=List.flatMap_append
theorem A_ (a:Pc n) (b:List (Pc n)):prsP (a::b)=prs n a.2.2++prsP b:=rfl
theorem cp_:prsP ([]:List (Pc n))= []:=rfl
theorem bz_ {t:List (Pc n)} {p:Pr}:p∈prsP t↔ ∃x∈t,p∈prs n x.2.2:=List.mem_flatMap
theorem ib_ (t:List (Pc n)):bkT (n+1) t=bkP t:=rfl
theorem prs_nil (n:Nat):prs n []= []:=by cases n <;> rfl
theorem bkT_nil (n:Nat):bkT n []= []:=by cases n <;> rfl
theorem ej_ (n:Nat) (a b:List (El n)):prs n (a++b)=prs n a++prs n b:=by
 cases n with
 | zero=> rfl
 | succ n=> exact List.flatMap_append
theorem ew_ (n:Nat) (a b:List (El n)):bkT n (a++b)=bkT n a++bkT n b:=by
 cases n with
 | zero=> rfl
 | succ n=> exact List.flatMap_append
theorem bZ_ (a b:List (Pc n)):bkP (a++b)=bkP a++bkP b:=List.flatMap_append
theorem aU_ (a:Pc n) (b:List (Pc n)):bkP (a::b)=a.2.1.toList++bkT n a.2.2++bkP b:=rfl
def ptrB (p:Ptr4):List UInt8:=encL [.num p.1,.num p.2.1,.num p.2.2.1.toNat,.txt p.2.2.2]
def ce_:Ptr4:=(40000,1024,1125899906842624,List.replicate 32 0)
def kidB {n:Nat} (k:Pc n):List UInt8:=ptrB (k.2.1.getD ce_)
def V_ (t:List Pr):List Itm:= .num 1::t.flatMap (fun p=> [Itm.txt p.1,Itm.txt p.2])
def H_ {n:Nat} (t:List (Pc n)):List Itm:= .num 2::(t.flatMap (fun k=> [Itm.txt k.1,Itm.txt (kidB k)])).drop 1
def al_:(n:Nat)->List (El n)->List Itm
 | 0,t=> V_ t
 | _+1,t=> H_ t
theorem bA_ (t:List Pr):al_ 0 t=V_ t:=rfl
def bi_ (n:Nat) (t:List (El n)):List UInt8:=encL (al_ n t)
def szF (n:Nat) (t:List (El n)):Nat:=(bi_ n t).length
def fitF (n:Nat) (t:List (El n)):Bool:=decide (szF n t<=1024)
def cutI (n len:Nat):Nat:=if n=0 then (len+1) / 2 else len / 2
theorem cz_ (n len:Nat) (h:2<=len):1<=cutI n len/\cutI n len < len:=by
 unfold cutI;split <;> omega
def ca_ {n:Nat} (t:List (El n)) (i:Nat):Ky:=(t[i]?).elim [] El.key
def j_ (n:Nat) (t:List (El n)) (key:Ky):List (Pc n):=
 if t.length=0 then [] else if szF n t<=1024 then [(key,none,t)] else
 if _h2:t.length < 2 then [] else j_ n (t.take (cutI n t.length)) key++j_ n (t.drop (cutI n t.length)) (ca_ t (cutI n t.length))
termination_by t.length
decreasing_by
 all_goals
  have:=cz_ n t.length (by omega)
  simp
  omega
theorem X_ (n:Nat) (key:Ky):j_ n [] key= []:=by rw [j_];simp
theorem M_ {t:List (El n)} (key:Ky) (h0:t≠ []) (h:szF n t<=1024):j_ n t key= [(key,none,t)]:=by
 rw [j_,if_neg (by simpa using h0),if_pos h]
theorem by_ {t:List (El n)} (key:Ky) (h0:2<=t.length) (h: ¬szF n t<=1024):
  j_ n t key=j_ n (t.take (cutI n t.length)) key++j_ n (t.drop (cutI n t.length)) (ca_ t (cutI n t.length)):=by
 rw [j_,if_neg (by omega),if_neg h,dif_neg (by omega)]
def cE_:(n:Nat)->Ky->List (El n)->List (El n)
 | 0,_,b=> b
 | _+1,_,[]=> []
 | _+1,k,e::r=> (k,e.2)::r
def t_ (n:Nat) (a:List (El n)) (key:Ky) (b:List (El n)):List (El n):=a++cE_ n key b
theorem gA_ (n:Nat) (k:Ky) (b:List (El n)):(cE_ n k b).length=b.length:=by
 cases n with
 | zero=> rfl
 | succ n=> cases b <;> rfl
theorem gz_ (n:Nat) (k:Ky) (b:List (El n)):prs n (cE_ n k b)=prs n b:=by
 cases n with
 | zero=> rfl
 | succ n=> cases b <;> rfl
theorem gB_ (n:Nat) (k:Ky) (b:List (El n)):bkT n (cE_ n k b)=bkT n b:=by
 cases n with
 | zero=> rfl
 | succ n=> cases b <;> rfl
theorem cu_ (n:Nat) (a:List (El n)) (k:Ky) (b:List (El n)):prs n (t_ n a k b)=prs n a++prs n b:=by rw [t_,ej_,gz_]
theorem joinF_bkT (n:Nat) (a:List (El n)) (k:Ky) (b:List (El n)):bkT n (t_ n a k b)=bkT n a++bkT n b:=by rw [t_,ew_,gB_]
def o_ (n:Nat):List (Pc n)->List (Pc n)×List Ptr4
 | []=> ([],[])
 | [x]=> ([x],[])
 | x::y::r=>
  if x.2.1.isSome && y.2.1.isSome then (x::(o_ n (y::r)).1,(o_ n (y::r)).2)
  else if szF n (t_ n x.2.2 y.1 y.2.2)<=1024 then
   ((o_ n ((x.1,none,t_ n x.2.2 y.1 y.2.2)::r)).1,x.2.1.toList++y.2.1.toList++(o_ n ((x.1,none,t_ n x.2.2 y.1 y.2.2)::r)).2)
  else (x::(o_ n (y::r)).1,(o_ n (y::r)).2)
termination_by l=> l.length
def kidF {n:Nat} (t:List (Pc n)) (key:Ky):Nat:=(t.drop 1).countP (fun e=> decide (¬key < e.1))
def k_ {n:Nat} (k:Ky):List (Pc n)->List (Pc n)
 | []=> []
 | e::r=> (k,e.2)::r
theorem cQ_ (k:Ky) (b:List (Pc n)):cE_ (n+1) k b=k_ k b:=by cases b <;> rfl
def y_ {n:Nat} (t:List (Pc n)) (i:Nat):Ky:=(t[i]?).elim [] (fun e=> e.1)
def allF {n:Nat} (t:List (Pc n)) (i:Nat) (sub:List (Pc n)):List (Pc n):=
 (k_ [] t).take i++k_ (y_ (k_ [] t) i) sub++t.drop (i+1)
def az_:(n:Nat)->Rf n->Ky->(List Pr->Except Int (List Pr))->Except Int (List (Pc n)×List Ptr4)
 | 0,r,_,f=> match f r.2 with
  | .error e=> .error e
  | .ok l=> .ok (j_ 0 l [],r.1.toList)
 | n+1,r,key,f=>
  let i:=kidF (n:=n) r.2 key
  match (r.2:List (Pc n))[i]? with
  | none=> .error 0
  | some k=> match az_ n k.2 key f with
   | .error e=> .error e
   | .ok (sub,g)=> .ok (j_ (n+1) (o_ n (allF (n:=n) r.2 i sub)).1 [],r.1.toList++g++(o_ n (allF (n:=n) r.2 i sub)).2)
def ah_:(n:Nat)->Rf n->(m:Nat)×Rf m
 | 0,r=> ⟨0,r⟩
 | n+1,r=> match r.1,(r.2:List (Pc n)) with
  | none,[k]=> ah_ n k.2
  | _,_=> ⟨n+1,r⟩
def gV_ {n:Nat} (l:List (Pc n)):Option ((m:Nat)×Rf m):=l.head?.map (fun k=> ah_ n k.2)
def Q_:(fuel n:Nat)->List (Pc n)->Option ((m:Nat)×Rf m)×List Ptr4
 | 0,_,l=> (gV_ l,[])
 | fuel+1,n,l=>
  if l.length<=1 then (gV_ l,[])
  else if (o_ n l).1.length<=1 then (gV_ (o_ n l).1,(o_ n l).2)
  else ((Q_ fuel (n+1) (j_ (n+1) (o_ n l).1 [])).1,(o_ n l).2++(Q_ fuel (n+1) (j_ (n+1) (o_ n l).1 [])).2)
abbrev Root:=Option ((m:Nat)×Rf m)
def doF (r:Root) (key:Ky) (f:List Pr->Except Int (List Pr)):Except Int (Root×List Ptr4):=
 match r with
 | none=> match f [] with
  | .error e=> .error e
  | .ok l=> .ok (Q_ (j_ 0 l []).length 0 (j_ 0 l []))
 | some ⟨n,x⟩=> match az_ n x key f with
  | .error e=> .error e
  | .ok (l,g)=> .ok ((Q_ l.length n l).1,g++(Q_ l.length n l).2)
def atF (l:List Pr) (key:Ky):Nat:=l.countP (fun p=> decide (p.1 < key))
def B_ (l:List Pr) (key:Ky):Bool:=decide ((l[atF l key]?).map (·.1)=some key)
def putF (key val:Ky) (l:List Pr):Except Int (List Pr):=
 .ok (l.take (atF l key)++ [(key,val)]++l.drop (atF l key+(if B_ l key then 1 else 0)))
def bG_ (key:Ky) (l:List Pr):Except Int (List Pr):=
 if B_ l key then .ok (l.take (atF l key)++l.drop (atF l key+1)) else .error 7
def EB:Enc UInt8 where
 k:=1
 hk:=by decide
 enc x:= [.int .u8 x.toNat]
 len _:=rfl
 one _ v hv:=by simp at hv;subst hv;rfl
theorem tiB:Ti Tryz.prog EB 5 1 0:=Ti.mk' (z:= .int .u8 0) (by kernel_rfl) rfl
theorem bF_ {g o n cap:Nat} {s:List UInt8} (h:EB.Rd w (.slice (some ⟨g,o,none⟩) n cap) s) (i:Nat) (hi:i < s.length):w.cell? ⟨g,o+i,none⟩=some (.int .u8 (s.getD i 0).toNat):=by
 have e:s.getD i 0=s[i]:=by simp [List.getD,hi]
 have h1:=h.cells i 0 hi (by decide)
 rw [e]
 simpa [EB] using h1
theorem cC_ (v:Value) (s:List UInt8) (w:World) (hl:s.length<=1000000) (hv:EB.Rd w v s):
  Calls Tryz.prog 110 #[v] w (aP_ EB 5 v s w):=by
 rcases hv with ⟨rfl,rfl⟩ | ⟨g,o,cap,rfl,h1,hg,hc⟩
 ·have hn:=fun w=> Lib.run_eql_slice_nil (P:=Tryz.prog) w 158 5 none 0 0 0 0 Tryz.underlying158
  go_enter Tryz.func110,Tryz.ntmps110
  go_wp2
  go_ret
  exact⟨_,rfl,.inl ⟨rfl,rfl⟩,Ext.refl _ _,by simp [blkL],by simp⟩
 ·have hn:=fun w=> Lib.run_eql_slice_nil (P:=Tryz.prog) w 158 5 (some ⟨g,o,none⟩) s.length cap 0 0 Tryz.underlying158
  have hv0:EB.Rd w (.slice (some ⟨g,o,none⟩) s.length cap) s:= .inr ⟨g,o,cap,rfl,h1,hg,hc⟩
  have HV:=hi_ hv0
  clear hv0 hc
  go_enter Tryz.func110,Tryz.ntmps110
  go_wp2_with (with_reducible refine f_ (d:=7) ?_)
  refine m_ rfl fun K hK=> b_ (E:=EB) (T:=5) (zero:=0) (bytes:=1) (v:= .slice (some ⟨w.heap.size,0,none⟩) 0 0) (xs:= []) (ys:=s) tiB Tryz.underlying158 Tryz.underlying158 rfl rfl rfl ?_ (HV.out.ext0 ((Ext.refl _ _).alloc _)) (by simp;omega) (by simp;omega) ?_
  ·exact .inr ⟨w.heap.size,0,0,[],rfl,heap_alloc_new w _,by simp,by simp,by simp⟩
  ·intro v' w' how hext hnear hnn
   refine hK _ _ ?_
   clear hK
   go_wp2
   go_ret
   refine⟨v',rfl,how,((Ext.refl [] w).alloc _).trans' hext (by simp) (by simp [blkL]), ?_, ?_⟩
   ·intro x hx
    rcases hnear x hx with h | h
    ·simp [blkL] at h;omega
    ·simp at h;omega
   ·exact⟨(fun h=> by cases h),(fun h=> by cases (hnn.2 h).1)⟩
def EPr:Enc Pr where
 k:=2
 hk:=by decide
 enc x:= [.string ⟨x.1.toArray⟩,.string ⟨x.2.toArray⟩]
 len _:=rfl
 one _ v hv:=by simp at hv;rcases hv with rfl | rfl <;> rfl
def EKy:Enc Ky where
 k:=1
 hk:=by decide
 enc x:= [.string ⟨x.toArray⟩]
 len _:=rfl
 one _ v hv:=by simp at hv;subst hv;rfl
abbrev Rfm:=Ptr4×Option Nat
def ptV (b:Option Nat):Value:= .pointer (b.map (fun b=> ⟨b,0,none⟩))
def ERf:Enc Rfm where
 k:=5
 hk:=by decide
 enc x:= [.int .i64 x.1.1,.int .i64 x.1.2.1,.int .i64 x.1.2.2.1,.string ⟨x.1.2.2.2.toArray⟩,ptV x.2]
 len _:=rfl
 one _ v hv:=by simp at hv;rcases hv with rfl | rfl | rfl | rfl | rfl <;> rfl
abbrev Pcm:=Rfm×Ky
def EPc:Enc Pcm where
 k:=6
 hk:=by decide
 enc x:= [.int .i64 x.1.1.1,.int .i64 x.1.1.2.1,.int .i64 x.1.1.2.2.1,.string ⟨x.1.1.2.2.2.toArray⟩,ptV x.1.2,.string ⟨x.2.toArray⟩]
 len _:=rfl
 one _ v hv:=by simp at hv;rcases hv with rfl | rfl | rfl | rfl | rfl | rfl <;> rfl
abbrev Itm3:=Int×Int×Ky
def EIt:Enc Itm3 where
 k:=3
 hk:=by decide
 enc x:= [.int .i64 x.1,.int .i64 x.2.1,.string ⟨x.2.2.toArray⟩]
 len _:=rfl
 one _ v hv:=by simp at hv;rcases hv with rfl | rfl | rfl <;> rfl
abbrev R0:Rfm:=(P0,none)
abbrev I0:Itm3:=(0,0,[])
theorem tiP:Ti Tryz.prog EP 34 40 (0,0,0,[]):=Ti.mk' (z:= .agg #[.int .i64 0,.int .i64 0,.int .i64 0,.string ⟨#[]⟩]) (by kernel_rfl) rfl
theorem tiPr:Ti Tryz.prog EPr 36 32 ([],[]):=Ti.mk' (z:= .agg #[.string ⟨#[]⟩,.string ⟨#[]⟩]) (by kernel_rfl) rfl
theorem tiKy:Ti Tryz.prog EKy 9 16 []:=Ti.mk' (z:= .string ⟨#[]⟩) (by kernel_rfl) rfl
theorem tiRf:Ti Tryz.prog ERf 89 48 R0:=Ti.mk' (z:= .agg #[.int .i64 0,.int .i64 0,.int .i64 0,.string ⟨#[]⟩,.pointer none]) (by kernel_rfl) rfl
theorem tiPc:Ti Tryz.prog EPc 184 64 (R0,[]):=Ti.mk' (z:= .agg #[.int .i64 0,.int .i64 0,.int .i64 0,.string ⟨#[]⟩,.pointer none,.string ⟨#[]⟩]) (by kernel_rfl) rfl
theorem tiIt:Ti Tryz.prog EIt 215 32 I0:=Ti.mk' (z:= .agg #[.int .i64 0,.int .i64 0,.string ⟨#[]⟩]) (by kernel_rfl) rfl
theorem aj_ {g o n cap:Nat} {s:List Pr} (h:EPr.Rd w (.slice (some ⟨g,o,none⟩) n cap) s) (i:Nat) (hi:i < s.length):
  w.cell? ⟨g,o+i*2,none⟩=some (.string ⟨(s.getD i ([],[])).1.toArray⟩)/\w.cell? ⟨g,o+i*2+1,none⟩=some (.string ⟨(s.getD i ([],[])).2.toArray⟩):=by
 have e:s.getD i ([],[])=s[i]:=by simp [List.getD,hi]
 rw [e]
 exact⟨h.cells i 0 hi (by decide),h.cells i 1 hi (by decide)⟩
theorem bE_ {g o n cap:Nat} {s:List Ky} (h:EKy.Rd w (.slice (some ⟨g,o,none⟩) n cap) s) (i:Nat) (hi:i < s.length):w.cell? ⟨g,o+i,none⟩=some (.string ⟨(s.getD i []).toArray⟩):=by
 have e:s.getD i []=s[i]:=by simp [List.getD,hi]
 have h1:=h.cells i 0 hi (by decide)
 rw [e]
 simpa [EKy] using h1
theorem bg_ {g o n cap:Nat} {s:List Rfm} (h:ERf.Rd w (.slice (some ⟨g,o,none⟩) n cap) s) (i:Nat) (hi:i < s.length):
  w.cell? ⟨g,o+i*5,none⟩=some (.int .i64 (s.getD i R0).1.1)/\w.cell? ⟨g,o+i*5+1,none⟩=some (.int .i64 (s.getD i R0).1.2.1)/\w.cell? ⟨g,o+i*5+2,none⟩=some (.int .i64 (s.getD i R0).1.2.2.1)/\
  w.cell? ⟨g,o+i*5+3,none⟩=some (.string ⟨(s.getD i R0).1.2.2.2.toArray⟩)/\w.cell? ⟨g,o+i*5+4,none⟩=some (ptV (s.getD i R0).2):=by
 have e:s.getD i R0=s[i]:=by simp [List.getD,hi]
 rw [e]
 exact⟨h.cells i 0 hi (by decide),h.cells i 1 hi (by decide),h.cells i 2 hi (by decide),h.cells i 3 hi (by decide),h.cells i 4 hi (by decide)⟩
theorem gu_ {g o n cap:Nat} {s:List Pcm} (h:EPc.Rd w (.slice (some ⟨g,o,none⟩) n cap) s) (i:Nat) (hi:i < s.length):
  w.cell? ⟨g,o+i*6,none⟩=some (.int .i64 (s.getD i (R0,[])).1.1.1)/\w.cell? ⟨g,o+i*6+1,none⟩=some (.int .i64 (s.getD i (R0,[])).1.1.2.1)/\w.cell? ⟨g,o+i*6+2,none⟩=some (.int .i64 (s.getD i (R0,[])).1.1.2.2.1)/\
  w.cell? ⟨g,o+i*6+3,none⟩=some (.string ⟨(s.getD i (R0,[])).1.1.2.2.2.toArray⟩)/\w.cell? ⟨g,o+i*6+4,none⟩=some (ptV (s.getD i (R0,[])).1.2)/\w.cell? ⟨g,o+i*6+5,none⟩=some (.string ⟨(s.getD i (R0,[])).2.toArray⟩):=by
 have e:s.getD i (R0,[])=s[i]:=by simp [List.getD,hi]
 rw [e]
 exact⟨h.cells i 0 hi (by decide),h.cells i 1 hi (by decide),h.cells i 2 hi (by decide),h.cells i 3 hi (by decide),h.cells i 4 hi (by decide),h.cells i 5 hi (by decide)⟩
theorem aO_ {g o n cap:Nat} {s:List Itm3} (h:EIt.Rd w (.slice (some ⟨g,o,none⟩) n cap) s) (i:Nat) (hi:i < s.length):
  w.cell? ⟨g,o+i*3,none⟩=some (.int .i64 (s.getD i I0).1)/\w.cell? ⟨g,o+i*3+1,none⟩=some (.int .i64 (s.getD i I0).2.1)/\w.cell? ⟨g,o+i*3+2,none⟩=some (.string ⟨(s.getD i I0).2.2.toArray⟩):=by
 have e:s.getD i I0=s[i]:=by simp [List.getD,hi]
 rw [e]
 exact⟨h.cells i 0 hi (by decide),h.cells i 1 hi (by decide),h.cells i 2 hi (by decide)⟩
theorem Enc.Rd.takeS {α:Type} {E:Enc α} {a:Addr} {n cap k:Nat} {s:List α} (h:E.Rd w (.slice (some a) n cap) s) (hk:k<=s.length):E.Rd w (.slice (some a) k cap) (s.take k):=by
 rcases h with ⟨h,_⟩ | ⟨g,o,c,h,h1,h2,h3⟩
 ·cases h
 ·simp only [Value.slice.injEq,Option.some.injEq] at h
  obtain⟨rfl,rfl,rfl⟩:=h
  refine .inr ⟨g,o,cap,by simp [hk],by simp;omega,h2,fun j u hj=> h3 j u ?_⟩
  rw [E.flat_take] at hj
  rw [List.getElem?_take] at hj
  split at hj
  ·exact hj
  ·cases hj
theorem Enc.Rd.dropS {α:Type} {E:Enc α} {g o n cap k:Nat} {s:List α} (h:E.Rd w (.slice (some ⟨g,o,none⟩) n cap) s):E.Rd w (.slice (some ⟨g,o+k*E.k,none⟩) (n - k) (cap - k)) (s.drop k):=by
 rcases h with ⟨h,_⟩ | ⟨g',o',c,h,h1,h2,h3⟩
 ·cases h
 ·simp only [Value.slice.injEq,Option.some.injEq,Addr.mk.injEq] at h
  obtain⟨⟨rfl,rfl,_⟩,rfl,rfl⟩:=h
  refine .inr ⟨g,o+k*E.k,cap - k,by simp,by simp;omega,h2,fun j u hj=> ?_⟩
  rw [E.flat_drop,List.getElem?_drop] at hj
  rw [<-h3 (k*E.k+j) u hj]
  congr 2
  omega
theorem Enc.Rd.dropS2 {α:Type} {E:Enc α} {g o n cap k:Nat} {s:List α} (h:E.Rd w (.slice (some ⟨g,o,none⟩) n cap) s):E.Rd w (.slice (if cap=k then some ⟨g,o,none⟩ else some ⟨g,o+k*E.k,none⟩) (n - k) (cap - k)) (s.drop k):=by
 by_cases hc:cap=k
 ·rw [if_pos hc]
  rcases h with ⟨h,_⟩ | ⟨g',o',c,h,h1,h2,h3⟩
  ·cases h
  ·simp only [Value.slice.injEq,Option.some.injEq,Addr.mk.injEq] at h
   obtain⟨⟨rfl,rfl,_⟩,rfl,rfl⟩:=h
   have e:s.drop k= []:=List.drop_eq_nil_of_le (by omega)
   rw [e]
   exact .inr ⟨g,o,cap - k,by simp;omega,by simp,h2,fun j u hj=> by simp [Enc.flat] at hj⟩
 ·rw [if_neg hc]
  exact h.dropS
theorem tiEPr:Ti Tryz.prog EPr 36 32 ([],[]):=tiPr
theorem tiEKy:Ti Tryz.prog EKy 9 16 []:=tiKy
theorem tiERf:Ti Tryz.prog ERf 89 48 R0:=tiRf
theorem tiEPc:Ti Tryz.prog EPc 184 64 (R0,[]):=tiPc
theorem tiEP:Ti Tryz.prog EP 34 40 (0,0,0,[]):=tiP
theorem be_ (v:Value) (s:List _) (w:World) (hl:s.length<=1000000) (hv:EPr.Rd w v s):
  Calls Tryz.prog 45 #[v] w (aP_ EPr 36 v s w):=by
 rcases hv with ⟨rfl,rfl⟩ | ⟨g,o,cap,rfl,h1,hg,hc⟩
 ·have hn:=fun w=> Lib.run_eql_slice_nil (P:=Tryz.prog) w 22 36 none 0 0 0 0 Tryz.underlying22
  go_enter Tryz.func45,Tryz.ntmps45
  go_wp2
  go_ret
  exact⟨_,rfl,.inl ⟨rfl,rfl⟩,Ext.refl _ _,by simp [blkL],by simp⟩
 ·have hn:=fun w=> Lib.run_eql_slice_nil (P:=Tryz.prog) w 22 36 (some ⟨g,o,none⟩) s.length cap 0 0 Tryz.underlying22
  have hv0:EPr.Rd w (.slice (some ⟨g,o,none⟩) s.length cap) s:= .inr ⟨g,o,cap,rfl,h1,hg,hc⟩
  have HV:=hi_ hv0
  clear hv0 hc
  go_enter Tryz.func45,Tryz.ntmps45
  go_wp2_with (with_reducible refine f_ (d:=7) ?_)
  refine m_ rfl fun K hK=> b_ (E:=EPr) (T:=36) (zero:=([],[])) (bytes:=32) (v:= .slice (some ⟨w.heap.size,0,none⟩) 0 0) (xs:= []) (ys:=s) tiEPr Tryz.underlying22 Tryz.underlying22 rfl rfl rfl ?_ (HV.out.ext0 ((Ext.refl _ _).alloc _)) (by simp;omega) (by simp;omega) ?_
  ·exact .inr ⟨w.heap.size,0,0,[],rfl,heap_alloc_new w _,by simp,by simp,by simp⟩
  ·intro v' w' how hext hnear hnn
   refine hK _ _ ?_
   clear hK
   go_wp2
   go_ret
   refine⟨v',rfl,how,((Ext.refl [] w).alloc _).trans' hext (by simp) (by simp [blkL]), ?_, ?_⟩
   ·intro x hx
    rcases hnear x hx with h | h
    ·simp [blkL] at h;omega
    ·simp at h;omega
   ·exact⟨(fun h=> by cases h),(fun h=> by cases (hnn.2 h).1)⟩
theorem cB_ (v:Value) (s:List _) (w:World) (hl:s.length<=1000000) (hv:EKy.Rd w v s):
  Calls Tryz.prog 132 #[v] w (aP_ EKy 9 v s w):=by
 rcases hv with ⟨rfl,rfl⟩ | ⟨g,o,cap,rfl,h1,hg,hc⟩
 ·have hn:=fun w=> Lib.run_eql_slice_nil (P:=Tryz.prog) w 122 9 none 0 0 0 0 Tryz.underlying122
  go_enter Tryz.func132,Tryz.ntmps132
  go_wp2
  go_ret
  exact⟨_,rfl,.inl ⟨rfl,rfl⟩,Ext.refl _ _,by simp [blkL],by simp⟩
 ·have hn:=fun w=> Lib.run_eql_slice_nil (P:=Tryz.prog) w 122 9 (some ⟨g,o,none⟩) s.length cap 0 0 Tryz.underlying122
  have hv0:EKy.Rd w (.slice (some ⟨g,o,none⟩) s.length cap) s:= .inr ⟨g,o,cap,rfl,h1,hg,hc⟩
  have HV:=hi_ hv0
  clear hv0 hc
  go_enter Tryz.func132,Tryz.ntmps132
  go_wp2_with (with_reducible refine f_ (d:=7) ?_)
  refine m_ rfl fun K hK=> b_ (E:=EKy) (T:=9) (zero:= []) (bytes:=16) (v:= .slice (some ⟨w.heap.size,0,none⟩) 0 0) (xs:= []) (ys:=s) tiEKy Tryz.underlying122 Tryz.underlying122 rfl rfl rfl ?_ (HV.out.ext0 ((Ext.refl _ _).alloc _)) (by simp;omega) (by simp;omega) ?_
  ·exact .inr ⟨w.heap.size,0,0,[],rfl,heap_alloc_new w _,by simp,by simp,by simp⟩
  ·intro v' w' how hext hnear hnn
   refine hK _ _ ?_
   clear hK
   go_wp2
   go_ret
   refine⟨v',rfl,how,((Ext.refl [] w).alloc _).trans' hext (by simp) (by simp [blkL]), ?_, ?_⟩
   ·intro x hx
    rcases hnear x hx with h | h
    ·simp [blkL] at h;omega
    ·simp at h;omega
   ·exact⟨(fun h=> by cases h),(fun h=> by cases (hnn.2 h).1)⟩
theorem bL_ (v:Value) (s:List _) (w:World) (hl:s.length<=1000000) (hv:ERf.Rd w v s):
  Calls Tryz.prog 79 #[v] w (aP_ ERf 89 v s w):=by
 rcases hv with ⟨rfl,rfl⟩ | ⟨g,o,cap,rfl,h1,hg,hc⟩
 ·have hn:=fun w=> Lib.run_eql_slice_nil (P:=Tryz.prog) w 123 89 none 0 0 0 0 Tryz.underlying123
  go_enter Tryz.func79,Tryz.ntmps79
  go_wp2
  go_ret
  exact⟨_,rfl,.inl ⟨rfl,rfl⟩,Ext.refl _ _,by simp [blkL],by simp⟩
 ·have hn:=fun w=> Lib.run_eql_slice_nil (P:=Tryz.prog) w 123 89 (some ⟨g,o,none⟩) s.length cap 0 0 Tryz.underlying123
  have hv0:ERf.Rd w (.slice (some ⟨g,o,none⟩) s.length cap) s:= .inr ⟨g,o,cap,rfl,h1,hg,hc⟩
  have HV:=hi_ hv0
  clear hv0 hc
  go_enter Tryz.func79,Tryz.ntmps79
  go_wp2_with (with_reducible refine f_ (d:=7) ?_)
  refine m_ rfl fun K hK=> b_ (E:=ERf) (T:=89) (zero:=R0) (bytes:=48) (v:= .slice (some ⟨w.heap.size,0,none⟩) 0 0) (xs:= []) (ys:=s) tiERf Tryz.underlying123 Tryz.underlying123 rfl rfl rfl ?_ (HV.out.ext0 ((Ext.refl _ _).alloc _)) (by simp;omega) (by simp;omega) ?_
  ·exact .inr ⟨w.heap.size,0,0,[],rfl,heap_alloc_new w _,by simp,by simp,by simp⟩
  ·intro v' w' how hext hnear hnn
   refine hK _ _ ?_
   clear hK
   go_wp2
   go_ret
   refine⟨v',rfl,how,((Ext.refl [] w).alloc _).trans' hext (by simp) (by simp [blkL]), ?_, ?_⟩
   ·intro x hx
    rcases hnear x hx with h | h
    ·simp [blkL] at h;omega
    ·simp at h;omega
   ·exact⟨(fun h=> by cases h),(fun h=> by cases (hnn.2 h).1)⟩
theorem cA_ (v:Value) (s:List _) (w:World) (hl:s.length<=1000000) (hv:EPc.Rd w v s):
  Calls Tryz.prog 135 #[v] w (aP_ EPc 184 v s w):=by
 rcases hv with ⟨rfl,rfl⟩ | ⟨g,o,cap,rfl,h1,hg,hc⟩
 ·have hn:=fun w=> Lib.run_eql_slice_nil (P:=Tryz.prog) w 147 184 none 0 0 0 0 Tryz.underlying147
  go_enter Tryz.func135,Tryz.ntmps135
  go_wp2
  go_ret
  exact⟨_,rfl,.inl ⟨rfl,rfl⟩,Ext.refl _ _,by simp [blkL],by simp⟩
 ·have hn:=fun w=> Lib.run_eql_slice_nil (P:=Tryz.prog) w 147 184 (some ⟨g,o,none⟩) s.length cap 0 0 Tryz.underlying147
  have hv0:EPc.Rd w (.slice (some ⟨g,o,none⟩) s.length cap) s:= .inr ⟨g,o,cap,rfl,h1,hg,hc⟩
  have HV:=hi_ hv0
  clear hv0 hc
  go_enter Tryz.func135,Tryz.ntmps135
  go_wp2_with (with_reducible refine f_ (d:=7) ?_)
  refine m_ rfl fun K hK=> b_ (E:=EPc) (T:=184) (zero:=(R0,[])) (bytes:=64) (v:= .slice (some ⟨w.heap.size,0,none⟩) 0 0) (xs:= []) (ys:=s) tiEPc Tryz.underlying147 Tryz.underlying147 rfl rfl rfl ?_ (HV.out.ext0 ((Ext.refl _ _).alloc _)) (by simp;omega) (by simp;omega) ?_
  ·exact .inr ⟨w.heap.size,0,0,[],rfl,heap_alloc_new w _,by simp,by simp,by simp⟩
  ·intro v' w' how hext hnear hnn
   refine hK _ _ ?_
   clear hK
   go_wp2
   go_ret
   refine⟨v',rfl,how,((Ext.refl [] w).alloc _).trans' hext (by simp) (by simp [blkL]), ?_, ?_⟩
   ·intro x hx
    rcases hnear x hx with h | h
    ·simp [blkL] at h;omega
    ·simp at h;omega
   ·exact⟨(fun h=> by cases h),(fun h=> by cases (hnn.2 h).1)⟩
theorem ia_ (v:Value) (s:List _) (w:World) (hl:s.length<=1000000) (hv:EP.Rd w v s):
  Calls Tryz.prog 52 #[v] w (aP_ EP 34 v s w):=by
 rcases hv with ⟨rfl,rfl⟩ | ⟨g,o,cap,rfl,h1,hg,hc⟩
 ·have hn:=fun w=> Lib.run_eql_slice_nil (P:=Tryz.prog) w 38 34 none 0 0 0 0 Tryz.underlying38
  go_enter Tryz.func52,Tryz.ntmps52
  go_wp2
  go_ret
  exact⟨_,rfl,.inl ⟨rfl,rfl⟩,Ext.refl _ _,by simp [blkL],by simp⟩
 ·have hn:=fun w=> Lib.run_eql_slice_nil (P:=Tryz.prog) w 38 34 (some ⟨g,o,none⟩) s.length cap 0 0 Tryz.underlying38
  have hv0:EP.Rd w (.slice (some ⟨g,o,none⟩) s.length cap) s:= .inr ⟨g,o,cap,rfl,h1,hg,hc⟩
  have HV:=hi_ hv0
  clear hv0 hc
  go_enter Tryz.func52,Tryz.ntmps52
  go_wp2_with (with_reducible refine f_ (d:=7) ?_)
  refine m_ rfl fun K hK=> b_ (E:=EP) (T:=34) (zero:=(0,0,0,[])) (bytes:=40) (v:= .slice (some ⟨w.heap.size,0,none⟩) 0 0) (xs:= []) (ys:=s) tiEP Tryz.underlying38 Tryz.underlying38 rfl rfl rfl ?_ (HV.out.ext0 ((Ext.refl _ _).alloc _)) (by simp;omega) (by simp;omega) ?_
  ·exact .inr ⟨w.heap.size,0,0,[],rfl,heap_alloc_new w _,by simp,by simp,by simp⟩
  ·intro v' w' how hext hnear hnn
   refine hK _ _ ?_
   clear hK
   go_wp2
   go_ret
   refine⟨v',rfl,how,((Ext.refl [] w).alloc _).trans' hext (by simp) (by simp [blkL]), ?_, ?_⟩
   ·intro x hx
    rcases hnear x hx with h | h
    ·simp [blkL] at h;omega
    ·simp at h;omega
   ·exact⟨(fun h=> by cases h),(fun h=> by cases (hnn.2 h).1)⟩
def rorF (up down:Int) (x:Int):Int:=bits .or .u32 (x*up % 4294967296) (x / down)
theorem ror7_c (x:Int) (w:World):Calls Tryz.prog 193 #[.int .u32 x,.int .i64 7] w fun e w'=> e= .returned (.int .u32 (rorF 33554432 128 x))/\w'=w:=by
 have hb:bits BinOp.and IntKind.u64 (IntKind.u64.wrap (-7)) 31=25:=by kernel_rfl
 go_enter Tryz.func193,Tryz.ntmps193
 go_wp2
 go_ret
 exact⟨rfl,rfl⟩
theorem ror18_c (x:Int) (w:World):Calls Tryz.prog 193 #[.int .u32 x,.int .i64 18] w fun e w'=> e= .returned (.int .u32 (rorF 16384 262144 x))/\w'=w:=by
 have hb:bits BinOp.and IntKind.u64 (IntKind.u64.wrap (-18)) 31=14:=by kernel_rfl
 go_enter Tryz.func193,Tryz.ntmps193
 go_wp2
 go_ret
 exact⟨rfl,rfl⟩
theorem ror17_c (x:Int) (w:World):Calls Tryz.prog 193 #[.int .u32 x,.int .i64 17] w fun e w'=> e= .returned (.int .u32 (rorF 32768 131072 x))/\w'=w:=by
 have hb:bits BinOp.and IntKind.u64 (IntKind.u64.wrap (-17)) 31=15:=by kernel_rfl
 go_enter Tryz.func193,Tryz.ntmps193
 go_wp2
 go_ret
 exact⟨rfl,rfl⟩
theorem ror19_c (x:Int) (w:World):Calls Tryz.prog 193 #[.int .u32 x,.int .i64 19] w fun e w'=> e= .returned (.int .u32 (rorF 8192 524288 x))/\w'=w:=by
 have hb:bits BinOp.and IntKind.u64 (IntKind.u64.wrap (-19)) 31=13:=by kernel_rfl
 go_enter Tryz.func193,Tryz.ntmps193
 go_wp2
 go_ret
 exact⟨rfl,rfl⟩
theorem ror6_c (x:Int) (w:World):Calls Tryz.prog 193 #[.int .u32 x,.int .i64 6] w fun e w'=> e= .returned (.int .u32 (rorF 67108864 64 x))/\w'=w:=by
 have hb:bits BinOp.and IntKind.u64 (IntKind.u64.wrap (-6)) 31=26:=by kernel_rfl
 go_enter Tryz.func193,Tryz.ntmps193
 go_wp2
 go_ret
 exact⟨rfl,rfl⟩
theorem ror11_c (x:Int) (w:World):Calls Tryz.prog 193 #[.int .u32 x,.int .i64 11] w fun e w'=> e= .returned (.int .u32 (rorF 2097152 2048 x))/\w'=w:=by
 have hb:bits BinOp.and IntKind.u64 (IntKind.u64.wrap (-11)) 31=21:=by kernel_rfl
 go_enter Tryz.func193,Tryz.ntmps193
 go_wp2
 go_ret
 exact⟨rfl,rfl⟩
theorem ror25_c (x:Int) (w:World):Calls Tryz.prog 193 #[.int .u32 x,.int .i64 25] w fun e w'=> e= .returned (.int .u32 (rorF 128 33554432 x))/\w'=w:=by
 have hb:bits BinOp.and IntKind.u64 (IntKind.u64.wrap (-25)) 31=7:=by kernel_rfl
 go_enter Tryz.func193,Tryz.ntmps193
 go_wp2
 go_ret
 exact⟨rfl,rfl⟩
theorem ror2_c (x:Int) (w:World):Calls Tryz.prog 193 #[.int .u32 x,.int .i64 2] w fun e w'=> e= .returned (.int .u32 (rorF 1073741824 4 x))/\w'=w:=by
 have hb:bits BinOp.and IntKind.u64 (IntKind.u64.wrap (-2)) 31=30:=by kernel_rfl
 go_enter Tryz.func193,Tryz.ntmps193
 go_wp2
 go_ret
 exact⟨rfl,rfl⟩
theorem ror13_c (x:Int) (w:World):Calls Tryz.prog 193 #[.int .u32 x,.int .i64 13] w fun e w'=> e= .returned (.int .u32 (rorF 524288 8192 x))/\w'=w:=by
 have hb:bits BinOp.and IntKind.u64 (IntKind.u64.wrap (-13)) 31=19:=by kernel_rfl
 go_enter Tryz.func193,Tryz.ntmps193
 go_wp2
 go_ret
 exact⟨rfl,rfl⟩
theorem ror22_c (x:Int) (w:World):Calls Tryz.prog 193 #[.int .u32 x,.int .i64 22] w fun e w'=> e= .returned (.int .u32 (rorF 1024 4194304 x))/\w'=w:=by
 have hb:bits BinOp.and IntKind.u64 (IntKind.u64.wrap (-22)) 31=10:=by kernel_rfl
 go_enter Tryz.func193,Tryz.ntmps193
 go_wp2
 go_ret
 exact⟨rfl,rfl⟩
def EU:Enc Int where
 k:=1
 hk:=by decide
 enc x:= [.int .u32 x]
 len _:=rfl
 one _ v hv:=by simp at hv;subst hv;rfl
theorem iJ_ (l:List Int):EU.flat l=l.map (Value.int .u32):=by
 induction l with
 | nil=> rfl
 | cons a l ih=> simp [ih];rfl
theorem T_ {h:List Int} (hg:w.heap[g]? =some (.cells (EU.flat h).toArray T (0,0))) {j:Nat} (hj:j < h.length):w.cell? ⟨g,j,none⟩=some (.int .u32 (h.getD j 9)):=by
 rw [cell_of_row w g j _ _ _ hg,iJ_]
 simp [List.getD,hj]
theorem au_ {h:List Int} (hg:w.heap[g]? =some (.cells (EU.flat h).toArray T (0,0))) (j:Nat) (v:Int):(w.setCell ⟨g,j,none⟩ (.int .u32 v)).heap[g]? =some (.cells (EU.flat (h.set j v)).toArray T (0,0)):=by
 rw [heap_setCell_same w g j _ _ _ hg,iJ_,iJ_]
 simp [List.map_set]
def gq_ (bs:List UInt8) (i:Nat):Int:=(bs.getD i 0).toNat
def wordF (bs:List UInt8) (t:Nat):Int:=
 bits .or .u32 (bits .or .u32 (bits .or .u32 (gq_ bs (4*t) % 4294967296*16777216 % 4294967296) (gq_ bs (4*t+1) % 4294967296*65536 % 4294967296)) (gq_ bs (4*t+2) % 4294967296*256 % 4294967296)) (gq_ bs (4*t+3) % 4294967296)
def mixF (x y u z:Int):Int:=
 (u+bits .xor .u32 (bits .xor .u32 (rorF 33554432 128 x) (rorF 16384 262144 x)) (x / 8)+z+bits .xor .u32 (bits .xor .u32 (rorF 32768 131072 y) (rorF 8192 524288 y)) (y / 1024)) % 4294967296
def aR_ (bs:List UInt8):Nat->List Int
 | 0=> List.replicate 64 0
 | t+1=> (aR_ bs t).set t (if t < 16 then wordF bs t else mixF ((aR_ bs t).getD (t - 15) 9) ((aR_ bs t).getD (t - 2) 9) ((aR_ bs t).getD (t - 16) 9) ((aR_ bs t).getD (t - 7) 9))
theorem ee_ (bs:List UInt8): ∀t,(aR_ bs t).length=64
 | 0=> by simp [aR_]
 | t+1=> by rw [aR_,List.length_set];exact ee_ bs t
theorem ey_:(#[.int .u32 0,.int .u32 0,.int .u32 0,.int .u32 0,.int .u32 0,.int .u32 0,.int .u32 0,.int .u32 0,.int .u32 0,.int .u32 0,.int .u32 0,.int .u32 0,.int .u32 0,.int .u32 0,.int .u32 0,.int .u32 0,.int .u32 0,.int .u32 0,.int .u32 0,.int .u32 0,.int .u32 0,.int .u32 0,.int .u32 0,.int .u32 0,.int .u32 0,.int .u32 0,.int .u32 0,.int .u32 0,.int .u32 0,.int .u32 0,.int .u32 0,.int .u32 0,.int .u32 0,.int .u32 0,.int .u32 0,.int .u32 0,.int .u32 0,.int .u32 0,.int .u32 0,.int .u32 0,.int .u32 0,.int .u32 0,.int .u32 0,.int .u32 0,.int .u32 0,.int .u32 0,.int .u32 0,.int .u32 0,.int .u32 0,.int .u32 0,.int .u32 0,.int .u32 0,.int .u32 0,.int .u32 0,.int .u32 0,.int .u32 0,.int .u32 0,.int .u32 0,.int .u32 0,.int .u32 0,.int .u32 0,.int .u32 0,.int .u32 0,.int .u32 0]:Array Value)=(EU.flat (List.replicate 64 0)).toArray:=by kernel_rfl
theorem sched_c (v:Value) (bs:List UInt8) (w:World) (hv:EB.Rd w v bs) (hl:bs.length=64):
  Calls Tryz.prog 192 #[v] w fun e w'=> e= .returned (.agg ((aR_ bs 64).map (Value.int .u32)).toArray)/\Ext [] w w':=by
 obtain⟨p,cap,rfl,hcap⟩:=hv.len_eq
 obtain⟨g,o,rfl⟩: ∃g o,p=some ⟨g,o,none⟩:=by
  rcases hv with ⟨_,h⟩ | ⟨g,o,c,h,_⟩
  ·rw [h] at hl;cases hl
  ·simp only [Value.slice.injEq] at h;exact⟨g,o,h.1⟩
 rw [hl] at hv hcap
 rw [hl]
 have HV:=hi_ hv
 clear hv
 go_enter Tryz.func192,Tryz.ntmps192
 go_wp2_with fail
 rw [ey_]
 have hE0:Ext [] w ((w.alloc (.cells (EU.flat (List.replicate 64 0)).toArray 249)).alloc (.cells (EU.flat (List.replicate 64 0)).toArray 249)):=((Ext.refl [] w).alloc _).alloc _
 have hg0:=heap_alloc_new (w.alloc (.cells (EU.flat (List.replicate 64 0)).toArray 249)) (.cells (EU.flat (List.replicate 64 0)).toArray 249)
 have hr0:=((Ext.refl [] (w.alloc (.cells (EU.flat (List.replicate 64 0)).toArray 249))).alloc (.cells (EU.flat (List.replicate 64 0)).toArray 249)).blk (heap_alloc_new w (.cells (EU.flat (List.replicate 64 0)).toArray 249)) (by simp)
 have e1:(w.alloc (.cells (EU.flat (List.replicate 64 0)).toArray 249)).heap.size=w.heap.size+1:=by simp
 rw [e1] at hg0
 obtain⟨g2,hg2⟩: ∃g,g=w.heap.size:=⟨_,rfl⟩
 obtain⟨g3,hg3⟩: ∃g,g=w.heap.size+1:=⟨_,rfl⟩
 simp only [<-hg3] at hg0 ⊢
 simp only [<-hg2] at hr0 ⊢
 obtain⟨HG0,HR0⟩:=h_2 hg0 hr0
 clear hg0 hr0 e1
 revert hE0 HG0 HR0
 generalize World.alloc _ _=W0
 intro hE0 HG0 HR0
 have l2:w.heap.size<=g2:=by omega
 have l3:w.heap.size<=g3:=by omega
 have l23:g2≠g3:=by omega
 clear hg2 hg3
 have hgl:g < w.heap.size:=HV.out.lt g (by simp [blkL])
 go_loopw [4,5,6,7] (fun _ _ _ c wr=> ∃(t:Nat) (L:List Int),t<=64/\c= .int .i64 t/\Ext [g3] W0 wr/\L.length=64/\Hid (L=aR_ bs t)/\Hid (wr.heap[g3]? =some (.cells (EU.flat L).toArray 249 (0,0)))) (fun _ _ _ c _=> 64 - (intOf c).toNat)
 case atStart=> exact⟨0,List.replicate 64 0,by omega,rfl,Ext.refl _ _,by simp,rfl,HG0⟩
 case round=>
  obtain⟨t,L,ht,rfl,hE,hL,HL,HG⟩:=hrel
  have hEw:Ext [] w wr:=hE0.trans' hE (by simp) (fun y hy=> .inr (by simp at hy;omega))
  by_cases hlt:t < 64
  ·have z1:(t:Int) < 64:=by omega
   have hfz: ∀j,wr.frozen? ⟨g3,j,none⟩=false:=fun j=> frozen_of_row _ _ _ _ _ HG.out
   have hct:=T_ HG.out (j:=t) (by omega)
   by_cases h16:t < 16
   ·have z2:(t:Int) < 16:=by omega
    have hm0:=bF_ (HV.out.ext0 hEw) (4*t) (by omega)
    have hm1:=bF_ (HV.out.ext0 hEw) (4*t+1) (by omega)
    have hm2:=bF_ (HV.out.ext0 hEw) (4*t+2) (by omega)
    have hm3:=bF_ (HV.out.ext0 hEw) (4*t+3) (by omega)
    obtain⟨b0,hb0⟩: ∃b:Int,b=(bs.getD (4*t) 0).toNat:=⟨_,rfl⟩
    obtain⟨b1,hb1⟩: ∃b:Int,b=(bs.getD (4*t+1) 0).toNat:=⟨_,rfl⟩
    obtain⟨b2,hb2⟩: ∃b:Int,b=(bs.getD (4*t+2) 0).toNat:=⟨_,rfl⟩
    obtain⟨b3,hb3⟩: ∃b:Int,b=(bs.getD (4*t+3) 0).toNat:=⟨_,rfl⟩
    rw [<-hb0] at hm0
    rw [<-hb1] at hm1
    rw [<-hb2] at hm2
    rw [<-hb3] at hm3
    obtain⟨HB0,HB1,HB2,HB3⟩:=h_4 hb0 hb1 hb2 hb3
    clear hb0 hb1 hb2 hb3
    have e0:IntKind.i64.wrap (4*(t:Int))=4*(t:Int):=IntWalk.i64_in _ (by omega)
    have e1:IntKind.i64.wrap (4*(t:Int)+1)=4*(t:Int)+1:=IntWalk.i64_in _ (by omega)
    have e2:IntKind.i64.wrap (4*(t:Int)+2)=4*(t:Int)+2:=IntWalk.i64_in _ (by omega)
    have e3:IntKind.i64.wrap (4*(t:Int)+3)=4*(t:Int)+3:=IntWalk.i64_in _ (by omega)
    have n0:(4*(t:Int)).toNat=4*t:=by omega
    have n1:(4*(t:Int)+1).toNat=4*t+1:=by omega
    have n2:(4*(t:Int)+2).toNat=4*t+2:=by omega
    have n3:(4*(t:Int)+3).toNat=4*t+3:=by omega
    have p0:4*(t:Int) < 64:=by omega
    have p1:4*(t:Int)+1 < 64:=by omega
    have p2:4*(t:Int)+2 < 64:=by omega
    have p3:4*(t:Int)+3 < 64:=by omega
    have q0:0<=4*(t:Int):=by omega
    have q1:0<=4*(t:Int)+1:=by omega
    have q2:0<=4*(t:Int)+2:=by omega
    have q3:0<=4*(t:Int)+3:=by omega
    go_wp2_with fail
    go_still_tail 35,(by kernel_rfl)
    change wpList _ _ _ _ _ wr.drew
    go_wp2_with fail
    go_roundw
    case rel=>
     refine⟨t+1,_,by omega,by go_num,(hE.setCell (.inl (by simp)) _).drew, ?_, ?_,au_ HG.out t _⟩
     ·rw [List.length_set];exact hL
     ·show L.set t _=aR_ bs (t+1)
      rw [aR_,if_pos h16,<-HL.out,wordF]
      simp only [gq_,<-HB0.out,<-HB1.out,<-HB2.out,<-HB3.out]
    case measure=> simp [intOf];omega
   ·have z2: ¬((t:Int) < 16):=by omega
    have hc15:=T_ HG.out (j:=t - 15) (by omega)
    have hc2:=T_ HG.out (j:=t - 2) (by omega)
    have hc16:=T_ HG.out (j:=t - 16) (by omega)
    have hc7:=T_ HG.out (j:=t - 7) (by omega)
    obtain⟨x,hx⟩: ∃x,x=L.getD (t - 15) 9:=⟨_,rfl⟩
    obtain⟨y,hy⟩: ∃x,x=L.getD (t - 2) 9:=⟨_,rfl⟩
    obtain⟨u,hu⟩: ∃x,x=L.getD (t - 16) 9:=⟨_,rfl⟩
    obtain⟨z,hz⟩: ∃x,x=L.getD (t - 7) 9:=⟨_,rfl⟩
    rw [<-hx] at hc15
    rw [<-hy] at hc2
    rw [<-hu] at hc16
    rw [<-hz] at hc7
    obtain⟨HX,HY,HUu,HZ⟩:=h_4 hx hy hu hz
    clear hx hy hu hz
    have e0:IntKind.i64.wrap ((t:Int) - 15)=(t:Int) - 15:=IntWalk.i64_in _ (by omega)
    have e1:IntKind.i64.wrap ((t:Int) - 2)=(t:Int) - 2:=IntWalk.i64_in _ (by omega)
    have e2:IntKind.i64.wrap ((t:Int) - 16)=(t:Int) - 16:=IntWalk.i64_in _ (by omega)
    have e3:IntKind.i64.wrap ((t:Int) - 7)=(t:Int) - 7:=IntWalk.i64_in _ (by omega)
    have n0:((t:Int) - 15).toNat=t - 15:=by omega
    have n1:((t:Int) - 2).toNat=t - 2:=by omega
    have n2:((t:Int) - 16).toNat=t - 16:=by omega
    have n3:((t:Int) - 7).toNat=t - 7:=by omega
    have p0:(t:Int) - 15 < 64:=by omega
    have p1:(t:Int) - 2 < 64:=by omega
    have p2:(t:Int) - 16 < 64:=by omega
    have p3:(t:Int) - 7 < 64:=by omega
    have q0:0<=(t:Int) - 15:=by omega
    have q1:0<=(t:Int) - 2:=by omega
    have q2:0<=(t:Int) - 16:=by omega
    have q3:0<=(t:Int) - 7:=by omega
    have r0:15<=(t:Int):=by omega
    have r1:2<=(t:Int):=by omega
    have r2:16<=(t:Int):=by omega
    have r3:7<=(t:Int):=by omega
    go_wp2_with fail
    go_big_quiet (fail)
    go_wp2_with fail
    have hE2:Ext [] wr (wr.drewN nq):=(Ext.refl [] _).drewN _
    have k16:=hE2.cell hc16 (by simp)
    have k7:=hE2.cell hc7 (by simp)
    have kt:=hE2.cell hct (by simp)
    have hg2:=hE2.blk HG.out (by simp)
    have HG2:=hi_ hg2
    clear hg2
    revert hE2 k16 k7 kt HG2
    generalize wr.drewN nq=W2
    intro hE2 k16 k7 kt HG2
    have hfz2: ∀j,W2.frozen? ⟨g3,j,none⟩=false:=fun j=> frozen_of_row _ _ _ _ _ HG2.out
    clear hc15 hc2 hc16 hc7 hct hfz
    refine wp_region_still_tail 29 (by kernel_rfl) (by kernel_rfl) ?_
    simp only [List.take_succ_cons,List.take_zero,List.drop_succ_cons,List.drop_zero]
    iterate 6 still_step
    still_call (ror7_c _ _)
    still_step
    still_call (ror18_c _ _)
    iterate 11 still_step
    still_call (ror17_c _ _)
    still_step
    still_call (ror19_c _ _)
    iterate 6 still_step
    refine wpStill_nil ?_
    change wpList _ _ _ _ _ W2.drew
    go_wp2_with fail
    go_roundw
    case rel=>
     refine⟨t+1,_,by omega,by go_num,((hE.trans hE2.nil).setCell (.inl (by simp)) _).drew, ?_, ?_,au_ HG2.out t _⟩
     ·rw [List.length_set];exact hL
     ·show L.set t _=aR_ bs (t+1)
      rw [aR_,if_neg h16,<-HL.out,<-HX.out,<-HY.out,<-HUu.out,<-HZ.out,mixF]
    case measure=> simp [intOf];omega
  ·obtain rfl:t=64:=by omega
   have z1: ¬(((64:Nat):Int) < 64):=by omega
   have hsz:(EU.flat L).toArray.size=64:=by rw [List.size_toArray,EU.length_flat,hL];rfl
   have hi:(Tryz.prog.info? 249).map (·.size)=some (EU.flat L).toArray.size:=by rw [hsz];kernel_rfl
   have hsz0:(EU.flat (List.replicate 64 0)).toArray.size=(EU.flat L).toArray.size:=by rw [hsz];rfl
   have hone:(EU.flat L).toArray.all (·.oneCell')=true:=Array.all_eq_true_iff_forall_mem.2 (fun v hv=> EU.one_flat L v (by simpa using hv))
   have hr2:=hE.blk HR0.out (by simpa using l23)
   obtain⟨HR2,HI,HZ0,HON⟩:=h_4 hr2 hi hsz0 hone
   clear hr2 hi hsz0 hone hsz
   go_wp2_with (with_reducible refine f_ (d:=85) ?_)
   unfold Hold
   refine wpList_load_row rfl 249 (.tmp 3) rfl g3 rfl 249 _ (0,0) _ HG.out Tryz.underlying249 rfl HI.out ?_
   refine wpList_store_row rfl 249 (.tmp 2) (.tmp 85) rfl g2 _ rfl rfl 249 _ HR2.out HI.out HZ0.out HON.out ?_
   go_wp2_with fail
   refine bodyPost_ret (results_cell_row rfl _ _ g2 249 _ (0,0) _ rfl (setRow_heap _ g2 _ _ 249 _ HR2.out) Tryz.underlying249 rfl HI.out) rfl ?_
   refine⟨by rw [iJ_,HL.out], ?_⟩
   exact hEw.setRow (.inr l2) _
end Go.Proofs.YtkpgjkekmdecbaaGreat
