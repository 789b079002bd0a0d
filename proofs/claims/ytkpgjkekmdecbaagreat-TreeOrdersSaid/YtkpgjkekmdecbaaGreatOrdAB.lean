/- Lemmas for the claim. No conditions beside those that each states. -/
import Derived.Deep.Slices
import Derived.Deep.Fields
import Derived.ChangeSame
import Derived.Test.YtkpgjkekmdecbaaGreatOrdAA
import Derived.OrdersHeld
import Derived.KernelRfl
import Derived.Maps.RangeWalk
set_option maxRecDepth 100000
set_option maxHeartbeats 8000000
set_option linter.all false

namespace Go.Proofs.YtkpgjkekmdecbaaGreat
open Go.RowKit Go.ChangeShapes Go.WideShapes Go.Deep
variable {w:World} {T:TypeId} {n i k:Nat}
def AR {α:Type} (E:Enc α) (w:World) (v:Value) (xs:List α):Prop:= ∃p cap,v= .slice p xs.length cap/\(xs≠ []->E.Rd w v xs)
theorem dG_ {α:Type} (p:Nat->α->Prop): ∀n:Nat,(∀i < n,∃x,p i x)-> ∃xs:List α,xs.length=n/\ ∀i x,xs[i]? =some x->p i x
 | 0,_=> ⟨[],rfl,by simp⟩
 | n+1,h=> by
  obtain⟨xs,h1,h2⟩:=dG_ p n (fun i hi=> h i (by omega))
  obtain⟨y,hy⟩:=h n (by omega)
  refine⟨xs++ [y],by simp [h1],fun i x hx=> ?_⟩
  rcases Nat.lt_trichotomy i n with h3 | h3 | h3
  ·rw [List.getElem?_append_left (by omega)] at hx;exact h2 i x hx
  ·subst h3
   rw [List.getElem?_append_right (by omega),h1,Nat.sub_self] at hx
   simp at hx;subst hx;exact hy
  ·rw [List.getElem?_eq_none (by simp;omega)] at hx;cases hx
theorem ar_of {α:Type} {E:Enc α} {a:Addr} {len cap:Nat} (good:α->Prop) (hk:0 < E.k) (hl:len<=cap)
  (h: ∀i < len,∃x:α,good x/\ ∀r < E.k,w.cell? (a.add (i*E.k+r))=(E.enc x)[r]?): ∃xs:List α,(∀x∈xs,good x)/\AR E w (.slice (some a) len cap) xs:=by
 obtain⟨xs,h1,h2⟩:=dG_ _ len h
 subst h1
 refine⟨xs,fun x hx=> ?_,⟨_,cap,rfl,fun hne=> ?_⟩⟩
 ·obtain⟨i,hi,rfl⟩:=List.getElem_of_mem hx
  exact(h2 i _ (List.getElem?_eq_getElem hi)).1
 ·have hpos:0 < xs.length:=List.length_pos_iff.2 hne
  have h3:=(h2 0 _ (List.getElem?_eq_getElem hpos)).2 0 hk
  have h4:w.cell? a=some ((E.enc xs[0])[0]'(by rw [E.len];exact hk)):=by
   have e:a.add (0*E.k+0)=a:=by simp [Addr.add]
   rw [e,List.getElem?_eq_getElem (by rw [E.len];exact hk)] at h3
   exact h3
  obtain⟨g,o,sp⟩:=a
  have hsp:sp=none:=World.cell?_spot h4
  subst hsp
  refine .inr ⟨g,o,cap,rfl,hl, ?_,fun j u hj=> ?_⟩
  ·rcases Nat.lt_or_ge g w.heap.size with h | h
   ·exact h
   ·simp [World.cell?,Array.getElem?_eq_none h] at h4
  ·have hjl:j < xs.length*E.k:=by have:=(List.getElem?_eq_some_iff.1 hj).1;rwa [E.length_flat] at this
   have hr:j % E.k < E.k:=Nat.mod_lt _ hk
   have hq:j / E.k < xs.length:=(Nat.div_lt_iff_lt_mul hk).2 hjl
   have ej:j=j / E.k*E.k+j % E.k:=by rw [Nat.mul_comm];exact(Nat.div_add_mod j E.k).symm
   have h5:=(h2 (j / E.k) _ (List.getElem?_eq_getElem hq)).2 (j % E.k) hr
   rw [<-ej] at h5
   have e2:(⟨g,o,none⟩:Addr).add j=⟨g,o+j,none⟩:=by
    simp only [Addr.add]
    split
    ·rename_i h;subst h;rfl
    ·rfl
   rw [e2] at h5
   rw [h5]
   rw [ej,E.flat_get xs _ _ hr,List.getElem?_eq_getElem hq] at hj
   simpa using hj
section
variable {H:Type} {enc:TypeId×Value->H} {P:Program} {w:World} {base:Nat} {spare:Nat->Bool} {held:Bool}
theorem gQ_ {e:TypeId} {fs:Array Field} {cs:List Value} {x:DataW H×List MemPlace} {a:Addr} (he:P.underlying e=some (.struct fs)) (hone:oneCellFields P fs=true)
  (hC:P.cellsOf e=fs.size) (hc:w.cells? base a (P.cellsOf e)=some cs) (h:DataW.trod enc P w base spare held n e cs=some x) {j:Nat} {f:Field} (hj:fs[j]? =some f):
  ∃v y m,w.cell? (a.add j)=some v/\DataW.trod enc P w base spare held m f.type [v]=some y:=by
 obtain⟨ys,m,_,_,_,hyl,hf⟩:=DataW.trod_struct he h
 obtain⟨_,hcl,hat⟩:=World.cells?_some hc
 obtain⟨ho,hk⟩:=hone_of hone j f hj
 have hjl:j < fs.size:=(Array.getElem?_eq_some_iff.1 hj).1
 have hjc:j < cs.length:=by omega
 have h1:=hf j f hj
 have hd:(cs.drop j).take 1= [cs[j]]:=by rw [List.drop_eq_getElem_cons hjc];rfl
 rw [ho,hk,hd,List.getElem?_eq_getElem (by omega)] at h1
 exact⟨_,_,m,by rw [hat j (by omega),List.getElem?_eq_getElem hjc],h1⟩
theorem open_ar {α:Type} (E:Enc α) (good:α->Prop) {t e:TypeId} {v:Value} {d:DataW H} {ps:List MemPlace} (hk:0 < E.k) (ht:P.underlying t=some (.slice e)) (hC:P.cellsOf e=E.k)
  (h:DataW.Trod enc P w base spare held t v d ps) {r:Reach} {b0:Nat} (hv:Value.okWide P w r b0 t v)
  (hel: ∀(a:Addr) (n:Nat) (cs:List Value) (x:DataW H×List MemPlace),w.cells? base a (P.cellsOf e)=some cs->DataW.trod enc P w base spare held n e cs=some x-> ∃y:α,good y/\ ∀q < E.k,w.cell? (a.add q)=(E.enc y)[q]?):
  ∃xs:List α,(∀x∈xs,good x)/\AR E w v xs:=by
 obtain⟨p,len,cap,rfl⟩:=okWide_slice ht hv
 obtain⟨fuel,hf⟩:=h
 rcases open_slice ht hf with ⟨h0,_⟩ | ⟨a,len',cap',m,n,D,Pl,hcs,hb,hl,hm,hmm,hx,hi⟩
 ·have h1:(Value.slice p len cap)= .slice none 0 0:=by simpa [Value.cells] using h0
  cases h1
  exact⟨[],by simp,none,0,rfl,fun h=> (h rfl).elim⟩
 ·have h1:(Value.slice p len cap)= .slice (some a) len' cap':=by simpa [Value.cells] using hcs
  cases h1
  refine ar_of good hk hl (fun i hil=> ?_)
  obtain⟨cs,hc,htr⟩:=hi i (by rw [hmm];split <;> omega)
  rw [hC] at hc
  obtain⟨y,hy,hcell⟩:=hel _ n cs _ (by rw [hC];exact hc) htr
  refine⟨y,hy,fun q hq=> ?_⟩
  rw [<-hcell q hq,add_add]
end
end Go.Proofs.YtkpgjkekmdecbaaGreat
namespace Go.Proofs.YtkpgjkekmdecbaaGreat
open Go.RowKit
variable {w:World} {T:TypeId} {n i k:Nat}
def A_ (c:Nat):List UInt8:=if h:c < 128 then [UInt8.ofNat c] else UInt8.ofNat (c % 128+128)::A_ (c / 128)
termination_by c
decreasing_by omega
theorem w_ {c:Nat} (h:c < 128):A_ c= [UInt8.ofNat c]:=by rw [A_,dif_pos h]
theorem ar_ {c:Nat} (h:128<=c):A_ c=UInt8.ofNat (c % 128+128)::A_ (c / 128):=by rw [A_,dif_neg (by omega)]
theorem x_ (n c:Nat) (h:c < 128 ^ (n+1)):1<=(A_ c).length/\(A_ c).length<=n+1:=by
 induction n generalizing c with
 | zero=> rw [w_ (by simpa using h)];simp
 | succ n ih=>
  by_cases hc:c < 128
  ·rw [w_ hc];simp
  ·rw [ar_ (by omega),List.length_cons]
   have h2:c / 128 < 128 ^ (n+1):=by
    rw [Nat.div_lt_iff_lt_mul (by omega)]
    rw [Nat.pow_succ] at h
    exact h
   have:=ih _ h2
   omega
theorem or_add (acc y i:Nat) (h:acc < 2 ^ (7*i)):acc ||| (y <<< (7*i))=acc+y*2 ^ (7*i):=by
 rw [Nat.or_comm,<-Nat.shiftLeft_add_eq_or_of_lt h,Nat.shiftLeft_eq]
 omega
inductive Itm where
 | num (n:Nat)
 | txt (s:List UInt8)
def encI:Itm->List UInt8
 | .num n=> 1::A_ (2*n)
 | .txt s=> 2::(A_ s.length++s)
def encL (l:List Itm):List UInt8:=(l.map encI).flatten
theorem q_ (a:Itm) (l:List Itm):encL (a::l)=encI a++encL l:=by simp [encL]
theorem bw_ (l m:List Itm):encL (l++m)=encL l++encL m:=by simp [encL]
abbrev Ptr4:=Nat×Nat×Int×List UInt8
def EP:Enc Ptr4 where
 k:=4
 hk:=by decide
 enc x:= [.int .i64 x.1,.int .i64 x.2.1,.int .i64 x.2.2.1,.string ⟨x.2.2.2.toArray⟩]
 len _:=rfl
 one _ v hv:=by simp at hv;rcases hv with rfl | rfl | rfl | rfl <;> rfl
abbrev P0:Ptr4:=(0,0,0,[])
theorem hX_ {g o n cap:Nat} {s:List Ptr4} (h:EP.Rd w (.slice (some ⟨g,o,none⟩) n cap) s) (i:Nat) (hi:i < s.length):
  w.cell? ⟨g,o+i*4,none⟩=some (.int .i64 (s.getD i P0).1)/\w.cell? ⟨g,o+i*4+1,none⟩=some (.int .i64 (s.getD i P0).2.1)/\w.cell? ⟨g,o+i*4+2,none⟩=some (.int .i64 (s.getD i P0).2.2.1)/\w.cell? ⟨g,o+i*4+3,none⟩=some (.string ⟨(s.getD i P0).2.2.2.toArray⟩):=by
 have e:s.getD i P0=s[i]:=by simp [List.getD,hi]
 rw [e]
 exact⟨h.cells i 0 hi (by decide),h.cells i 1 hi (by decide),h.cells i 2 hi (by decide),h.cells i 3 hi (by decide)⟩
theorem eQ_ (W0:World) (x:Ptr4):EP.Rd (W0.alloc (.cells #[.int .i64 x.1,.int .i64 x.2.1,.int .i64 x.2.2.1,.string ⟨x.2.2.2.toArray⟩] T)) (.slice (some ⟨W0.heap.size,0,none⟩) 1 1) [x]:=by
 refine .inr ⟨W0.heap.size,0,1,rfl,Nat.le_refl _,by simp,fun j u hj=> ?_⟩
 rw [cell_of_row _ W0.heap.size _ _ _ _ (heap_alloc_new _ _)]
 match j,hj with
 | 0,hj=> exact hj
 | 1,hj=> exact hj
 | 2,hj=> exact hj
 | 3,hj=> exact hj
 | j+4,hj=> simp [EP,Enc.flat] at hj
abbrev Ky:=List UInt8
abbrev Pr:=Ky×Ky
def El:Nat->Type
 | 0=> Ky×Ky
 | n+1=> Ky×Option Ptr4×List (El n)
abbrev Rf (n:Nat):=Option Ptr4×List (El n)
abbrev Pc (n:Nat):=Ky×Option Ptr4×List (El n)
def El.key:{n:Nat}->El n->Ky
 | 0,e=> e.1
 | _+1,e=> e.1
def prs:(n:Nat)->List (El n)->List Pr
 | 0,t=> t
 | n+1,t=> List.flatMap (fun k:Pc n=> prs n k.2.2) t
def bkT:(n:Nat)->List (El n)->List Ptr4
 | 0,_=> []
 | n+1,t=> List.flatMap (fun k:Pc n=> k.2.1.toList++bkT n k.2.2) t
def bkR {n:Nat} (r:Rf n):List Ptr4:=r.1.toList++bkT n r.2
def bkP {n:Nat} (l:List (Pc n)):List Ptr4:=l.flatMap (fun k:Pc n=> k.2.1.toList++bkT n k.2.2)
def prsP {n:Nat} (t:List (Pc n)):List Pr:=t.flatMap (fun k=> prs n k.2.2)
theorem hw_ (t:List (Pc n)):prs (n+1) t=prsP t:=rfl
theorem ad_ (a b:List (Pc n)):prsP (a++b)=prsP a++prsP b:=List.flatMap_append
theorem u_ (a:Pc n) (b:List (Pc n)):prsP (a::b)=prs n a.2.2++prsP b:=rfl
theorem ck_:prsP ([]:List (Pc n))= []:=rfl
theorem bu_ {t:List (Pc n)} {p:Pr}:p∈prsP t↔ ∃x∈t,p∈prs n x.2.2:=List.mem_flatMap
theorem hQ_ (t:List (Pc n)):bkT (n+1) t=bkP t:=rfl
theorem prs_nil (n:Nat):prs n []= []:=by cases n <;> rfl
theorem bkT_nil (n:Nat):bkT n []= []:=by cases n <;> rfl
theorem ee_ (n:Nat) (a b:List (El n)):prs n (a++b)=prs n a++prs n b:=by
 cases n with
 | zero=> rfl
 | succ n=> exact List.flatMap_append
theorem er_ (n:Nat) (a b:List (El n)):bkT n (a++b)=bkT n a++bkT n b:=by
 cases n with
 | zero=> rfl
 | succ n=> exact List.flatMap_append
theorem bT_ (a b:List (Pc n)):bkP (a++b)=bkP a++bkP b:=List.flatMap_append
theorem aR_ (a:Pc n) (b:List (Pc n)):bkP (a::b)=a.2.1.toList++bkT n a.2.2++bkP b:=rfl
def ptrB (p:Ptr4):List UInt8:=encL [.num p.1,.num p.2.1,.num p.2.2.1.toNat,.txt p.2.2.2]
def ca_:Ptr4:=(40000,1024,1125899906842624,List.replicate 32 0)
def kidB {n:Nat} (k:Pc n):List UInt8:=ptrB (k.2.1.getD ca_)
def V_ (t:List Pr):List Itm:= .num 1::t.flatMap (fun p=> [Itm.txt p.1,Itm.txt p.2])
def G_ {n:Nat} (t:List (Pc n)):List Itm:= .num 2::(t.flatMap (fun k=> [Itm.txt k.1,Itm.txt (kidB k)])).drop 1
def ai_:(n:Nat)->List (El n)->List Itm
 | 0,t=> V_ t
 | _+1,t=> G_ t
theorem bv_ (t:List Pr):ai_ 0 t=V_ t:=rfl
def bb_ (n:Nat) (t:List (El n)):List UInt8:=encL (ai_ n t)
def szF (n:Nat) (t:List (El n)):Nat:=(bb_ n t).length
def fitF (n:Nat) (t:List (El n)):Bool:=decide (szF n t<=1024)
def cutI (n len:Nat):Nat:=if n=0 then (len+1) / 2 else len / 2
theorem cu_ (n len:Nat) (h:2<=len):1<=cutI n len/\cutI n len < len:=by
 unfold cutI;split <;> omega
def bV_ {n:Nat} (t:List (El n)) (i:Nat):Ky:=(t[i]?).elim [] El.key
def i_ (n:Nat) (t:List (El n)) (key:Ky):List (Pc n):=
 if t.length=0 then [] else if szF n t<=1024 then [(key,none,t)] else
 if _h2:t.length < 2 then [] else i_ n (t.take (cutI n t.length)) key++i_ n (t.drop (cutI n t.length)) (bV_ t (cutI n t.length))
termination_by t.length
decreasing_by
 all_goals
  have:=cu_ n t.length (by omega)
  simp
  omega
theorem X_ (n:Nat) (key:Ky):i_ n [] key= []:=by rw [i_];simp
theorem K_ {t:List (El n)} (key:Ky) (h0:t≠ []) (h:szF n t<=1024):i_ n t key= [(key,none,t)]:=by
 rw [i_,if_neg (by simpa using h0),if_pos h]
theorem bt_ {t:List (El n)} (key:Ky) (h0:2<=t.length) (h: ¬szF n t<=1024):
  i_ n t key=i_ n (t.take (cutI n t.length)) key++i_ n (t.drop (cutI n t.length)) (bV_ t (cutI n t.length)):=by
 rw [i_,if_neg (by omega),if_neg h,dif_neg (by omega)]
def cz_:(n:Nat)->Ky->List (El n)->List (El n)
 | 0,_,b=> b
 | _+1,_,[]=> []
 | _+1,k,e::r=> (k,e.2)::r
def s_ (n:Nat) (a:List (El n)) (key:Ky) (b:List (El n)):List (El n):=a++cz_ n key b
theorem gw_ (n:Nat) (k:Ky) (b:List (El n)):(cz_ n k b).length=b.length:=by
 cases n with
 | zero=> rfl
 | succ n=> cases b <;> rfl
theorem gv_ (n:Nat) (k:Ky) (b:List (El n)):prs n (cz_ n k b)=prs n b:=by
 cases n with
 | zero=> rfl
 | succ n=> cases b <;> rfl
theorem gx_ (n:Nat) (k:Ky) (b:List (El n)):bkT n (cz_ n k b)=bkT n b:=by
 cases n with
 | zero=> rfl
 | succ n=> cases b <;> rfl
theorem co_ (n:Nat) (a:List (El n)) (k:Ky) (b:List (El n)):prs n (s_ n a k b)=prs n a++prs n b:=by rw [s_,ee_,gv_]
theorem joinF_bkT (n:Nat) (a:List (El n)) (k:Ky) (b:List (El n)):bkT n (s_ n a k b)=bkT n a++bkT n b:=by rw [s_,er_,gx_]
def n_ (n:Nat):List (Pc n)->List (Pc n)×List Ptr4
 | []=> ([],[])
 | [x]=> ([x],[])
 | x::y::r=>
  if x.2.1.isSome && y.2.1.isSome then (x::(n_ n (y::r)).1,(n_ n (y::r)).2)
  else if szF n (s_ n x.2.2 y.1 y.2.2)<=1024 then
   ((n_ n ((x.1,none,s_ n x.2.2 y.1 y.2.2)::r)).1,x.2.1.toList++y.2.1.toList++(n_ n ((x.1,none,s_ n x.2.2 y.1 y.2.2)::r)).2)
  else (x::(n_ n (y::r)).1,(n_ n (y::r)).2)
termination_by l=> l.length
def kidF {n:Nat} (t:List (Pc n)) (key:Ky):Nat:=(t.drop 1).countP (fun e=> decide (¬key < e.1))
def j_ {n:Nat} (k:Ky):List (Pc n)->List (Pc n)
 | []=> []
 | e::r=> (k,e.2)::r
theorem cM_ (k:Ky) (b:List (Pc n)):cz_ (n+1) k b=j_ k b:=by cases b <;> rfl
def y_ {n:Nat} (t:List (Pc n)) (i:Nat):Ky:=(t[i]?).elim [] (fun e=> e.1)
def allF {n:Nat} (t:List (Pc n)) (i:Nat) (sub:List (Pc n)):List (Pc n):=
 (j_ [] t).take i++j_ (y_ (j_ [] t) i) sub++t.drop (i+1)
def ay_:(n:Nat)->Rf n->Ky->(List Pr->Except Int (List Pr))->Except Int (List (Pc n)×List Ptr4)
 | 0,r,_,f=> match f r.2 with
  | .error e=> .error e
  | .ok l=> .ok (i_ 0 l [],r.1.toList)
 | n+1,r,key,f=>
  let i:=kidF (n:=n) r.2 key
  match (r.2:List (Pc n))[i]? with
  | none=> .error 0
  | some k=> match ay_ n k.2 key f with
   | .error e=> .error e
   | .ok (sub,g)=> .ok (i_ (n+1) (n_ n (allF (n:=n) r.2 i sub)).1 [],r.1.toList++g++(n_ n (allF (n:=n) r.2 i sub)).2)
def ae_:(n:Nat)->Rf n->(m:Nat)×Rf m
 | 0,r=> ⟨0,r⟩
 | n+1,r=> match r.1,(r.2:List (Pc n)) with
  | none,[k]=> ae_ n k.2
  | _,_=> ⟨n+1,r⟩
def gP_ {n:Nat} (l:List (Pc n)):Option ((m:Nat)×Rf m):=l.head?.map (fun k=> ae_ n k.2)
def O_:(fuel n:Nat)->List (Pc n)->Option ((m:Nat)×Rf m)×List Ptr4
 | 0,_,l=> (gP_ l,[])
 | fuel+1,n,l=>
  if l.length<=1 then (gP_ l,[])
  else if (n_ n l).1.length<=1 then (gP_ (n_ n l).1,(n_ n l).2)
  else ((O_ fuel (n+1) (i_ (n+1) (n_ n l).1 [])).1,(n_ n l).2++(O_ fuel (n+1) (i_ (n+1) (n_ n l).1 [])).2)
abbrev Root:=Option ((m:Nat)×Rf m)
def doF (r:Root) (key:Ky) (f:List Pr->Except Int (List Pr)):Except Int (Root×List Ptr4):=
 match r with
 | none=> match f [] with
  | .error e=> .error e
  | .ok l=> .ok (O_ (i_ 0 l []).length 0 (i_ 0 l []))
 | some ⟨n,x⟩=> match ay_ n x key f with
  | .error e=> .error e
  | .ok (l,g)=> .ok ((O_ l.length n l).1,g++(O_ l.length n l).2)
def atF (l:List Pr) (key:Ky):Nat:=l.countP (fun p=> decide (p.1 < key))
def U_ (l:List Pr) (key:Ky):Bool:=decide ((l[atF l key]?).map (·.1)=some key)
def putF (key val:Ky) (l:List Pr):Except Int (List Pr):=
 .ok (l.take (atF l key)++ [(key,val)]++l.drop (atF l key+(if U_ l key then 1 else 0)))
def dropF (key:Ky) (l:List Pr):Except Int (List Pr):=
 if U_ l key then .ok (l.take (atF l key)++l.drop (atF l key+1)) else .error 7
section
variable {P:Program} {ops:Array Oper} {Q:Exit->Act->World->Prop} {md:Region.Mode} {S:World->Prop} {nd:Nat->Bool}
def ab_ (P:Program) (md:Region.Mode) (ops:Array Oper) (Q:Exit->Act->World->Prop) (S:World->Prop) (nd:Nat->Bool):Nat->Array Bool->Act->World->Prop
 | 0,listed,a,w=> Region.ready md ops listed= []/\Q .normal a w
 | n+1,listed,a,w=>
  (Region.ready md ops listed= []->Q .normal a w)/\
  ∀i∈Region.ready md ops listed,wpOp P ops Q i (fun a' w'=> (nd i=true->S w')/\ab_ P md ops Q S nd n (listed.setIfInBounds i true) a' w') a w
theorem dW_: ∀(n:Nat) (listed:Array Bool) (a:Act) (w:World),ab_ P md ops Q S nd n listed a w->wpAny P md ops Q n listed a w
 | 0,_,_,_,h=> h
 | n+1,_,_,_,h=> ⟨h.1,fun i hi=> wpOp_mono (fun a' w' h'=> dW_ n _ a' w' h'.2) (h.2 i hi)⟩
def bX_ (md:Region.Mode) (ops:Array Oper) (i:Nat):Nat->Nat->Bool
 | 0,_=> false
 | n+1,j=> match ops[j]? with
  | some oj=> oj.after.any fun e=> Region.binds md e && (e.on==i || bX_ md ops i n e.on)
  | none=> false
def Closed (md:Region.Mode) (ops:Array Oper) (L:Array Bool):Prop:=
 ∀j oj,ops[j]? =some oj->L.getD j true=true-> ∀e∈oj.after,Region.binds md e=true->L.getD e.on true=true
def gT_ (md:Region.Mode) (ops:Array Oper) (L:Array Bool):Bool:=
 (List.range ops.size).all fun j=> !L.getD j true || match ops[j]? with
  | some oj=> oj.after.all fun e=> !Region.binds md e || L.getD e.on true
  | none=> true
theorem cW_ {L:Array Bool} (h:gT_ md ops L=true):Closed md ops L:=by
 intro j oj hoj hl e he hb
 have hlt:j < ops.size:=(Array.getElem?_eq_some_iff.1 hoj).1
 have h1:=List.all_eq_true.1 h j (List.mem_range.2 hlt)
 rw [hoj,hl] at h1
 have h2:=Array.all_eq_true'.1 h1 e he
 rw [hb] at h2
 simpa using h2
theorem Closed.step {L:Array Bool} {j:Nat} (h:Closed md ops L) (hj:j∈Region.ready md ops L):Closed md ops (L.setIfInBounds j true):=by
 obtain⟨_,oj,hoj,hall⟩:=mem_ready.1 hj
 have mono: ∀k,L.getD k true=true->(L.setIfInBounds j true).getD k true=true:=by
  intro k hk
  by_cases hjk:j=k
  ·subst hjk
   rcases Nat.lt_or_ge j L.size with h' | h' <;> simp [h']
  ·rwa [getD_set_ne true hjk]
 intro k ok hok hk e he hb
 by_cases hjk:j=k
 ·subst hjk
  rw [hoj] at hok
  cases hok
  refine mono _ ?_
  have h2:=hall e he hb
  rcases Nat.lt_or_ge e.on L.size with h' | h'
  ·simp [h'] at h2 ⊢;exact h2
  ·simp [Array.getElem?_eq_none h']
 ·rw [getD_set_ne true hjk] at hk
  exact mono _ (h k ok hok hk e he hb)
theorem aU_ {L:Array Bool} (hc:Closed md ops L): ∀(n j:Nat),L.getD j true=true->bX_ md ops i n j=true->L.getD i true=true
 | 0,_,_,h=> by simp [bX_] at h
 | n+1,j,hj,h=> by
  rw [bX_] at h
  cases hoj:ops[j]? with
  | none=> rw [hoj] at h;cases h
  | some oj=>
   rw [hoj] at h
   obtain⟨e,he,hb⟩:=Array.any_eq_true'.1 h
   simp only [Bool.and_eq_true,Bool.or_eq_true,beq_iff_eq] at hb
   have h1:=hc j oj hoj hj e he hb.1
   rcases hb.2 with h2 | h2
   ·rwa [h2] at h1
   ·exact aU_ hc n e.on h1 h2
def waitsB (md:Region.Mode) (ops:Array Oper) (nd:Nat->Bool) (L:Array Bool) (i:Nat):Bool:=
 gT_ md ops L && (List.range ops.size).all fun j=> nd j || j==i || L.getD j true || bX_ md ops i 6 j
theorem not_ready {i j:Nat} {L0 listed:Array Bool} (hw:waitsB md ops nd L0 i=true) (hm: ∀k,L0.getD k true=true->listed.getD k true=true) (hc:Closed md ops listed) (hn:nd j=false) (hji:j≠i) (hi:listed.getD i true=false) (hj:j∈Region.ready md ops listed):False:=by
 have hcl:=hc.step hj
 obtain⟨hun,oj,hoj,hall⟩:=mem_ready.1 hj
 have hlt:j < ops.size:=(Array.getElem?_eq_some_iff.1 hoj).1
 have h1:=List.all_eq_true.1 (Bool.and_eq_true_iff.1 hw).2 j (List.mem_range.2 hlt)
 simp only [hn,Bool.false_or,Bool.or_eq_true,beq_iff_eq] at h1
 rcases h1 with (h1 | h1) | h1
 ·exact hji h1
 ·have h2:=hm j h1
  rcases Nat.lt_or_ge j listed.size with h' | h'
  ·simp [h'] at h2 hun;rw [hun] at h2;cases h2
  ·simp [Array.getElem?_eq_none h'] at hun
 ·have h2:=aU_ hcl 6 j (by rcases Nat.lt_or_ge j listed.size with h' | h' <;> simp [h']) h1
  rw [getD_set_ne true hji,hi] at h2
  cases h2
theorem cL_ {S':World->Prop} {oi:Oper} {v:Value} (hi:ops[i]? =some oi) (hsel: ∀(j:Nat) (o:Oper) cs b,ops[j]? =some o->o.op≠ .select cs b)
  (hQ: ∀c a w,Q (.panic c) (a.put oi.dst v) w->Q (.panic c) a w) (L0:Array Bool) (useC:Prop)
  (hst: ∀(j:Nat) (listed:Array Bool),(∀k,L0.getD k true=true->listed.getD k true=true)->(useC->Closed md ops listed)->listed.getD i true=false->j≠i->j∈Region.ready md ops listed-> ∀w',(nd j=true->S w')->S' w') (hni: ∀w,S' w->nd i=true->S w) (n:Nat):
  ∀(listed:Array Bool) (a:Act) (w:World),(∀k,L0.getD k true=true->listed.getD k true=true)->(useC->Closed md ops listed)->
   (∀j oj,ops[j]? =some oj->j≠i->listed.getD j true=false->(∀e∈oj.after,Region.binds md e=true->e.on≠i)->oi.apart ops oj=true)->
   i∈Region.ready md ops listed->YieldsIf P ops S' oi v a->S' w->
   ab_ P md ops Q S nd n (listed.setIfInBounds i true) (a.put oi.dst v) w->ab_ P md ops Q S nd (n+1) listed a w:=by
 induction n with
 | zero=>
  intro listed a w _ _ _ hr hy hS H
  refine⟨(fun h=> by rw [h] at hr;cases hr),fun j hj=> ?_⟩
  by_cases hji:j=i
  ·subst hji;exact hy.wpOp hi hS ⟨hni w hS,H⟩
  ·have h1:=ready_mono hj hji
   rw [H.1] at h1
   cases h1
 | succ n ih=>
  intro listed a w hm hc hfree hr hy hS H
  have hun:=(mem_ready.1 hr).1
  refine⟨(fun h=> by rw [h] at hr;cases hr),fun j hj=> ?_⟩
  by_cases hji:j=i
  ·subst hji;exact hy.wpOp hi hS ⟨hni w hS,H⟩
  ·have h1:=H.2 j (ready_mono hj hji)
   obtain⟨hjun,oj,hoj,hall⟩:=mem_ready.1 hj
   have hnot: ∀e∈oj.after,Region.binds md e=true->e.on≠i:=fun e he hb heq=> by
    have h2:=hall e he hb
    rw [heq] at h2
    rcases Nat.lt_or_ge i listed.size with h' | h'
    ·simp [h'] at hun h2;rw [hun] at h2;cases h2
    ·simp [Array.getElem?_eq_none h'] at hun
   have h2:=wpOp_putIf hoj (hfree j oj hoj hji hjun hnot) (fun cs b=> hsel i oi cs b hi) (fun cs b=> hsel j oj cs b hoj) hQ hy h1
   refine wpOp_mono (fun a' w' h3=> ⟨h3.2.1, ?_⟩) h2
   refine ih (listed.setIfInBounds j true) a' w' (fun k hk=> ?_) (fun hu=> (hc hu).step hj) (fun k ok hk hki hku hno=> ?_) (ready_mono hr (Ne.symm hji)) h3.1 (hst j listed hm hc hun hji hj w' h3.2.1) ?_
   ·by_cases hjk:j=k
    ·subst hjk
     rcases Nat.lt_or_ge j listed.size with h' | h' <;> simp [h']
    ·rw [getD_set_ne true hjk];exact hm k hk
   ·refine hfree k ok hk hki ?_ hno
    by_cases hjk:j=k
    ·subst hjk;exact hjun
    ·rwa [getD_set_ne true hjk] at hku
   ·rw [Array.setIfInBounds_comm _ _ hji]
    exact h3.2.2
theorem bZ_ {oi:Oper} {v:Value} {listed:Array Bool} {a:Act} (hi:ops[i]? =some oi)
  (hs:Region.noSelect ops=true) (hf:Region.free md ops listed i=true) (hr:(Region.ready md ops listed).contains i=true) (hw:waitsB md ops nd listed i=true)
  (hQ: ∀c a w,Q (.panic c) (a.put oi.dst v) w->Q (.panic c) a w) (hS:S w) (hy:YieldsIf P ops S oi v a)
  (h:ab_ P md ops Q S nd n (listed.setIfInBounds i true) (a.put oi.dst v) w):ab_ P md ops Q S nd (n+1) listed a w:=
 cL_ (S':=S) hi (Region.noSelect_spec hs) hQ listed True (fun j l hm hc hl hji hj w' h=> by
  cases hn:nd j with
  | true=> exact h hn
  | false=> exact(not_ready hw hm (hc trivial) hn hji hl hj).elim) (fun _ h _=> h) n listed a w (fun _ h=> h) (fun _=> cW_ (Bool.and_eq_true_iff.1 hw).1) (Region.free_spec hi hf) (by simpa using hr) hy hS h
theorem D_ {oi:Oper} {v:Value} {listed:Array Bool} {a:Act} (hi:ops[i]? =some oi)
  (hs:Region.noSelect ops=true) (hf:Region.free md ops listed i=true) (hr:(Region.ready md ops listed).contains i=true) (hn:nd i=false)
  (hQ: ∀c a w,Q (.panic c) (a.put oi.dst v) w->Q (.panic c) a w) (hy:Yields P ops oi v a)
  (h:ab_ P md ops Q S nd n (listed.setIfInBounds i true) (a.put oi.dst v) w):ab_ P md ops Q S nd (n+1) listed a w:=
 cL_ (S':=fun _=> True) hi (Region.noSelect_spec hs) hQ listed False (fun _ _ _ _ _ _ _ _ _=> trivial) (fun _ _ h=> by rw [hn] at h;cases h) n listed a w (fun _ h=> h) (fun h=> h.elim) (Region.free_spec hi hf) (by simpa using hr) hy.yieldsIf trivial h
theorem a_ {o:Oper} {listed:Array Bool} {a:Act} (hr:Region.ready md ops listed= [i]) (ho:ops[i]? =some o)
  (h: ∀K:Act->World->Prop,Hid (∀a' w',(nd i=true->S w')->((nd i=true->S w')->ab_ P md ops Q S nd n (listed.setIfInBounds i true) a' w')->K a' w')->if Region.wanted o (yielded ops a.tmps)=true then Oper.wp P o a w K Q else K (a.put o.dst undef) w):
  ab_ P md ops Q S nd (n+1) listed a w:=by
 refine⟨(fun h0=> by rw [hr] at h0;cases h0),fun j hj=> ?_⟩
 rw [hr] at hj
 obtain rfl:j=i:=by simpa using hj
 exact wpOp_step ho (fun K hK=> h K (fun a w hS hW=> hK a w ⟨hS,hW hS⟩))
theorem c_ {listed:Array Bool} {a:Act} (hr:Region.ready md ops listed= []) (h:Q .normal a w): ∀n,ab_ P md ops Q S nd n listed a w
 | 0=> ⟨hr,h⟩
 | _+1=> ⟨fun _=> h,by rw [hr];simp⟩
theorem e_ {id:Nat} {a:Act} (S:World->Prop) (nd:Nat->Bool) (hm:P.follows .mixedOrders=true) (hS:S w.drew)
  (h:S w.drew->ab_ P .any ops Q S nd ops.size (Array.replicate ops.size false) a w.drew):(Code.region id ops true).wp P Q a w:=
 wp_region_any hm (dW_ _ _ _ _ (h hS))
end
section
variable {P : Program} {ops : Array Oper} {Q : Exit -> Act -> World -> Prop} {md : Region.Mode} {S : World -> Prop} {nd : Nat -> Bool}
theorem PUq (i : Nat) {oi : Oper} {v : Value} {listed : Array Bool} {a : Act} (h : ab_ P md ops Q S nd n (listed.setIfInBounds i true) (a.put oi.dst v) w) (hi : ops[i]? = some oi := by rfl) (hs : Region.noSelect ops = true := by kernel_rfl) (hf : Region.free md ops listed i = true := by kernel_rfl) (hr : (Region.ready md ops listed).contains i = true := by kernel_rfl) (hn : nd i = false := by rfl) (hQ : ∀ c a w, Q (.panic c) (a.put oi.dst v) w -> Q (.panic c) a w := by exact fun _ _ _ h => h) (hy : Yields P ops oi v a := by exact (Or.inl ⟨by rfl, fun W => by (go_simp; try rfl)⟩)) : ab_ P md ops Q S nd (n + 1) listed a w :=
  D_ hi hs hf hr hn hQ hy h
theorem ta (i : Nat) {oi : Oper} {v : Value} {listed : Array Bool} {a : Act} (h : ab_ P md ops Q S nd n (listed.setIfInBounds i true) (a.put oi.dst v) w) (hi : ops[i]? = some oi := by rfl) (hs : Region.noSelect ops = true := by kernel_rfl) (hf : Region.free md ops listed i = true := by kernel_rfl) (hr : (Region.ready md ops listed).contains i = true := by kernel_rfl) (hw : waitsB md ops nd listed i = true := by kernel_rfl) (hQ : ∀ c a w, Q (.panic c) (a.put oi.dst v) w -> Q (.panic c) a w := by exact fun _ _ _ h => h) (hS : S w := by assumption) (hy : YieldsIf P ops S oi v a := by exact (Or.inl ⟨by rfl, fun W hW => by (have hWW := hW; clear hW; go_split_ands; go_simp; try rfl)⟩)) : ab_ P md ops Q S nd (n + 1) listed a w :=
  bZ_ hi hs hf hr hw hQ hS hy h
end
def EB:Enc UInt8 where
 k:=1
 hk:=by decide
 enc x:= [.int .u8 x.toNat]
 len _:=rfl
 one _ v hv:=by simp at hv;subst hv;rfl
theorem tiB:Ti Tryz.prog EB 5 1 0:=Ti.mk' (z:= .int .u8 0) (by kernel_rfl) rfl
theorem bA_ {g o n cap:Nat} {s:List UInt8} (h:EB.Rd w (.slice (some ⟨g,o,none⟩) n cap) s) (i:Nat) (hi:i < s.length):w.cell? ⟨g,o+i,none⟩=some (.int .u8 (s.getD i 0).toNat):=by
 have e:s.getD i 0=s[i]:=by simp [List.getD,hi]
 have h1:=h.cells i 0 hi (by decide)
 rw [e]
 simpa [EB] using h1
theorem cx_ (v:Value) (s:List UInt8) (w:World) (hl:s.length<=1000000) (hv:EB.Rd w v s):
  Calls Tryz.prog 110 #[v] w (aL_ EB 5 v s w):=by
 rcases hv with ⟨rfl,rfl⟩ | ⟨g,o,cap,rfl,h1,hg,hc⟩
 ·have hn:=fun w=> Lib.run_eql_slice_nil (P:=Tryz.prog) w 158 5 none 0 0 0 0 Tryz.underlying158
  go_enter Tryz.func110,Tryz.ntmps110
  go_wp2
  go_ret
  exact⟨_,rfl,.inl ⟨rfl,rfl⟩,Ext.refl _ _,by simp [blkL],by simp⟩
 ·have hn:=fun w=> Lib.run_eql_slice_nil (P:=Tryz.prog) w 158 5 (some ⟨g,o,none⟩) s.length cap 0 0 Tryz.underlying158
  have hv0:EB.Rd w (.slice (some ⟨g,o,none⟩) s.length cap) s:= .inr ⟨g,o,cap,rfl,h1,hg,hc⟩
  have HV:=hi_ hv0
  clear hv0 hc
  go_enter Tryz.func110,Tryz.ntmps110
  go_wp2_with (with_reducible refine f_ (d:=7) ?_)
  refine k_ rfl fun K hK=> b_ (E:=EB) (T:=5) (zero:=0) (bytes:=1) (v:= .slice (some ⟨w.heap.size,0,none⟩) 0 0) (xs:= []) (ys:=s) tiB Tryz.underlying158 Tryz.underlying158 rfl rfl rfl ?_ (HV.out.ext0 ((Ext.refl _ _).alloc _)) (by simp;omega) (by simp;omega) ?_
  ·exact .inr ⟨w.heap.size,0,0,[],rfl,heap_alloc_new w _,by simp,by simp,by simp⟩
  ·intro v' w' how hext hnear hnn
   refine hK _ _ ?_
   clear hK
   go_wp2
   go_ret
   refine⟨v',rfl,how,((Ext.refl [] w).alloc _).trans' hext (by simp) (by simp [blkL]), ?_, ?_⟩
   ·intro x hx
    rcases hnear x hx with h | h
    ·simp [blkL] at h;omega
    ·simp at h;omega
   ·exact⟨(fun h=> by cases h),(fun h=> by cases (hnn.2 h).1)⟩
end Go.Proofs.YtkpgjkekmdecbaaGreat
namespace Go.Proofs.YtkpgjkekmdecbaaGreat

variable {w:World} {T:TypeId} {n i k:Nat}
def Ok (s:List Rng):Prop:=s.Pairwise (fun a b=> a.2 < b.1)/\ ∀r∈s,0<=r.1/\r.1 < r.2/\r.2<=40000
def Mem (s:List Rng) (c:Int):Prop:= ∃x∈s,x.1<=c/\c < x.2
def hasB (s:List Rng) (r:Rng):Bool:=s.any (fun x=> decide (x.1<=r.1) && decide (r.2<=x.2))
def ah_ (s:List Rng) (r:Rng):Bool:=s.any (fun x=> decide (x.1 < r.2) && decide (r.1 < x.2))
def cntL:List Rng->Int
 | []=> 0
 | r::s=> (r.2 - r.1)+cntL s
theorem aY_ (a b:List Rng):cntL (a++b)=cntL a+cntL b:=by
 induction a with
 | nil=> simp [cntL]
 | cons x a ih=> simp [cntL,ih];omega
theorem Ok.nil:Ok []:=⟨List.Pairwise.nil,by simp⟩
theorem Ok.cons {r:Rng} {s:List Rng} (h:Ok (r::s)):Ok s:=⟨(List.pairwise_cons.1 h.1).2,fun x hx=> h.2 x (List.mem_cons_of_mem _ hx)⟩
theorem Ok.append {a b:List Rng} (h:Ok (a++b)):Ok a/\Ok b:=
 ⟨⟨(List.pairwise_append.1 h.1).1,fun x hx=> h.2 x (List.mem_append_left _ hx)⟩,⟨(List.pairwise_append.1 h.1).2.1,fun x hx=> h.2 x (List.mem_append_right _ hx)⟩⟩
theorem bU_ {a b:List Rng} {c:Int}:Mem (a++b) c↔Mem a c\/Mem b c:=by simp [Mem,or_and_right,exists_or]
theorem bc_ {r:Rng} {b:List Rng} {c:Int}:Mem (r::b) c↔(r.1<=c/\c < r.2)\/Mem b c:=by simp [Mem]
theorem ce_ {c:Int}: ¬Mem [] c:=by simp [Mem]
theorem cs_ {s:List Rng} (h:i < s.length):s.getD i (0,0)∈s:=by
 simp only [List.getD,List.getElem?_eq_getElem h,Option.getD_some];exact List.getElem_mem h
theorem Ok.lt {s:List Rng} (h:Ok s) {i j:Nat} (hij:i < j) (hj:j < s.length):(s.getD i (0,0)).2 < (s.getD j (0,0)).1:=by
 have:=List.pairwise_iff_getElem.1 h.1 i j (by omega) hj hij
 simpa [List.getD,List.getElem?_eq_getElem hj,List.getElem?_eq_getElem (show i < s.length by omega)] using this
theorem Ok.at {s:List Rng} (h:Ok s) (hi:i < s.length):0<=(s.getD i (0,0)).1/\(s.getD i (0,0)).1 < (s.getD i (0,0)).2/\(s.getD i (0,0)).2<=40000:=h.2 _ (cs_ hi)
theorem Ok.srt {s:List Rng} (h:Ok s):Srt s:=fun i j hij hj=> by
 have h1:=h.lt hij hj
 have h2:=h.at hj
 omega
theorem Cut.split {s:List Rng} {c:Int} (h:Cut s c k):(∀x∈s.take k,x.2<=c)/\(∀x∈s.drop k,c < x.2):=by
 obtain⟨h1,h2,h3⟩:=h
 constructor
 ·intro x hx
  obtain⟨i,hi,rfl⟩:=List.mem_iff_getElem.1 hx
  have hi':i < k:=by simp at hi;omega
  have:=h2 i hi'
  simpa [List.getD,List.getElem?_eq_getElem (show i < s.length by omega)] using this
 ·intro x hx
  obtain⟨i,hi,rfl⟩:=List.mem_iff_getElem.1 hx
  have hi':k+i < s.length:=by simp at hi;omega
  have:=h3 (k+i) (by omega) hi'
  simpa [List.getD,List.getElem?_eq_getElem hi'] using this
theorem hE_ {s:List Rng} {r:Rng} (hs:Ok s) (hk:Cut s r.1 k) (hr:r.1 < r.2):
  hasB s r=(decide (k < s.length) && (decide ((s.getD k (0,0)).1<=r.1) && decide (r.2<=(s.getD k (0,0)).2))):=by
 rw [Bool.eq_iff_iff]
 simp only [hasB,List.any_eq_true,Bool.and_eq_true,decide_eq_true_eq]
 constructor
 ·rintro⟨x,hx,h1,h2⟩
  obtain⟨j,hj,rfl⟩:=List.mem_iff_getElem.1 hx
  have e:s.getD j (0,0)=s[j]:=by simp [List.getD,hj]
  rw [<-e] at h1 h2
  have hkj:k<=j:=by
   by_cases hlt:j < k
   ·have:=hk.2.1 j hlt;omega
   ·omega
  have hk1:k < s.length:=by omega
  by_cases hkj':k=j
  ·subst hkj';exact⟨hk1,h1,h2⟩
  ·have:=hs.lt (show k < j by omega) hj
   have:=hk.2.2 k (Nat.le_refl _) hk1
   omega
 ·rintro⟨h1,h2,h3⟩
  exact⟨_,cs_ h1,h2,h3⟩
theorem iq_ {s:List Rng} {r:Rng} (hs:Ok s) (hk:Cut s r.1 k):
  ah_ s r=(decide (k < s.length) && decide ((s.getD k (0,0)).1 < r.2)):=by
 rw [Bool.eq_iff_iff]
 simp only [ah_,List.any_eq_true,Bool.and_eq_true,decide_eq_true_eq]
 constructor
 ·rintro⟨x,hx,h1,h2⟩
  obtain⟨j,hj,rfl⟩:=List.mem_iff_getElem.1 hx
  have e:s.getD j (0,0)=s[j]:=by simp [List.getD,hj]
  rw [<-e] at h1 h2
  have hkj:k<=j:=by
   by_cases hlt:j < k
   ·have:=hk.2.1 j hlt;omega
   ·omega
  have hk1:k < s.length:=by omega
  refine⟨hk1, ?_⟩
  by_cases hkj':k=j
  ·subst hkj';exact h1
  ·have h4:=hs.lt (show k < j by omega) hj
   have h5:=hs.at hk1
   omega
 ·rintro⟨h1,h2⟩
  exact⟨_,cs_ h1,h2,hk.2.2 k (Nat.le_refl _) h1⟩
theorem bk_ {s:List Rng} {r:Rng} (hr:r.1 < r.2) (hs: ∀x∈s,x.1 < x.2):ah_ s r=true↔ ∃c,Mem s c/\r.1<=c/\c < r.2:=by
 simp only [ah_,List.any_eq_true,Bool.and_eq_true,decide_eq_true_eq]
 constructor
 ·rintro⟨x,hx,h1,h2⟩
  have:=hs x hx
  exact⟨max x.1 r.1,⟨x,hx,by omega,by omega⟩,by omega,by omega⟩
 ·rintro⟨c,⟨x,hx,h1,h2⟩,h3,h4⟩
  exact⟨x,hx,by omega,by omega⟩
def addR (A:List Rng) (r:Rng) (B:List Rng):List Rng:=
 let p:Int×List Rng:=match B with
  | x::B'=> if r.2=x.1 then (x.2,B') else (r.2,B)
  | []=> (r.2,[])
 match A.getLast? with
 | some y=> if y.2=r.1 then A.dropLast++(y.1,p.1)::p.2 else A++(r.1,p.1)::p.2
 | none=> (r.1,p.1)::p.2
theorem Ok.mk3 {A B:List Rng} {m:Rng} (hA:Ok A) (hB:Ok B) (h1: ∀x∈A,x.2 < m.1) (h2: ∀x∈B,m.2 < x.1) (hm:0<=m.1/\m.1 < m.2/\m.2<=40000):Ok (A++m::B):=by
 refine⟨List.pairwise_append.2 ⟨hA.1,List.pairwise_cons.2 ⟨h2,hB.1⟩, ?_⟩, ?_⟩
 ·intro x hx y hy
  rcases List.mem_cons.1 hy with rfl | hy
  ·exact h1 x hx
  ·have:=h1 x hx;have:=h2 y hy;omega
 ·intro x hx
  rcases List.mem_append.1 hx with hx | hx
  ·exact hA.2 x hx
  ·rcases List.mem_cons.1 hx with rfl | hx
   ·exact hm
   ·exact hB.2 x hx
def addT (r:Rng) (B:List Rng):Int×List Rng:=match B with
 | x::B'=> if r.2=x.1 then (x.2,B') else (r.2,B)
 | []=> (r.2,[])
theorem addT_ok {B:List Rng} {r:Rng} (h:Ok B) (hr:0<=r.1/\r.1 < r.2/\r.2<=40000) (hB: ∀x∈B,r.2<=x.1):
  Ok (addT r B).2/\r.2<=(addT r B).1/\(addT r B).1<=40000/\(∀x∈(addT r B).2,(addT r B).1 < x.1)/\(∀c,(r.1<=c/\c < (addT r B).1)\/Mem (addT r B).2 c↔Mem B c\/(r.1<=c/\c < r.2)):=by
 cases B with
 | nil=> simp [addT,Ok.nil,ce_];omega
 | cons x B'=>
  have hx:=h.2 x (List.mem_cons_self ..)
  have hrx:=hB x (List.mem_cons_self ..)
  have hp:=(List.pairwise_cons.1 h.1).1
  simp only [addT]
  split
  ·rename_i e
   refine⟨h.cons,by simp only;omega,hx.2.2,hp,fun c=> ?_⟩
   simp only [bc_]
   have:(r.1<=c/\c < x.2)↔(x.1<=c/\c < x.2)\/(r.1<=c/\c < r.2):=by omega
   rw [this]
   constructor
   ·rintro((h | h) | h)
    ·exact .inl (.inl h)
    ·exact .inr h
    ·exact .inl (.inr h)
   ·rintro((h | h) | h)
    ·exact .inl (.inl h)
    ·exact .inr h
    ·exact .inl (.inr h)
  ·rename_i e
   refine⟨h,by simp only;omega,hr.2.2, ?_,fun c=> ?_⟩
   ·intro y hy
    rcases List.mem_cons.1 hy with rfl | hy
    ·simp only;omega
    ·have:=hp y hy;simp only;omega
   ·exact or_comm
theorem addT_cnt (r:Rng) (B:List Rng):(addT r B).1 - r.1+cntL (addT r B).2=cntL B+(r.2 - r.1):=by
 cases B with
 | nil=> simp [addT,cntL]
 | cons x B'=>
  simp only [addT]
  split <;> simp only [cntL] <;> omega
theorem dK_ (A:List Rng) (r:Rng) (B:List Rng):addR A r B=match A.getLast? with
 | some y=> if y.2=r.1 then A.dropLast++(y.1,(addT r B).1)::(addT r B).2 else A++(r.1,(addT r B).1)::(addT r B).2
 | none=> (r.1,(addT r B).1)::(addT r B).2:=rfl
theorem addR_ok {A B:List Rng} {r:Rng} (h:Ok (A++B)) (hr:0<=r.1/\r.1 < r.2/\r.2<=40000) (hA: ∀x∈A,x.2<=r.1) (hB: ∀x∈B,r.2<=x.1):
  Ok (addR A r B)/\(∀c,Mem (addR A r B) c↔Mem (A++B) c\/(r.1<=c/\c < r.2))/\cntL (addR A r B)=cntL (A++B)+(r.2 - r.1):=by
 obtain⟨hoA,hoB⟩:=h.append
 have hcT:=addT_cnt r B
 obtain⟨t1,t2,t3,t4,t5⟩:=addT_ok hoB hr hB
 rw [dK_]
 generalize addT r B=p at*
 rcases List.eq_nil_or_concat A with hAe | ⟨A0,y,hAe⟩
 ·subst hAe
  simp only [List.getLast?_nil,List.nil_append]
  refine⟨by simpa using Ok.mk3 (A:= []) (m:=(r.1,p.1)) Ok.nil t1 (by simp) t4 (by simp only;omega),fun c=> ?_,by simp only [cntL];omega⟩
  rw [bc_,<-t5]
 ·rw [List.concat_eq_append] at hAe
  subst hAe
  have hA0:=hoA.append.1
  have hy:=hoA.2 y (by simp)
  have hyr:=hA y (by simp)
  have hlast: ∀x∈A0,x.2 < y.1:=fun x hx=> (List.pairwise_append.1 hoA.1).2.2 x hx y (by simp)
  simp only [List.getLast?_append,List.getLast?_singleton,Option.some_or]
  split
  ·rename_i e
   rw [List.dropLast_concat]
   refine⟨Ok.mk3 (m:=(y.1,p.1)) hA0 t1 hlast t4 (by simp only;omega),fun c=> ?_,by simp only [cntL,aY_];omega⟩
   simp only [bU_,bc_]
   have h5:=t5 c
   have:(y.1<=c/\c < p.1)↔(y.1<=c/\c < y.2)\/(r.1<=c/\c < p.1):=by omega
   rw [this,or_assoc (a:=y.1<=c/\c < y.2),h5]
   simp only [or_assoc,ce_,false_or]
  ·rename_i e
   refine⟨Ok.mk3 (m:=(r.1,p.1)) hoA t1 ?_ t4 (by simp only;omega),fun c=> ?_,by simp only [cntL,aY_];omega⟩
   ·intro x hx
    rcases List.mem_append.1 hx with hx | hx
    ·have:=hlast x hx;simp only;omega
    ·simp only [List.mem_singleton] at hx;subst hx;simp only;omega
   ·simp only [bU_,bc_]
    have h5:=t5 c
    rw [h5]
    simp only [or_assoc]
def cutR (A:List Rng) (x r:Rng) (B:List Rng):List Rng:=A++((if x.1 < r.1 then [(x.1,r.1)] else [])++(if r.2 < x.2 then [(r.2,x.2)] else []))++B
theorem eZ_ {A B:List Rng} {x r:Rng} (h:Ok (A++x::B)) (hr:r.1 < r.2) (h1:x.1<=r.1) (h2:r.2<=x.2):
  Ok (cutR A x r B)/\(∀c,Mem (cutR A x r B) c↔Mem (A++x::B) c/\ ¬(r.1<=c/\c < r.2))/\cntL (cutR A x r B)=cntL (A++x::B) - (r.2 - r.1):=by
 obtain⟨hoA,hoB⟩:=h.append
 have hx:=h.2 x (by simp)
 have hB:=(List.pairwise_cons.1 hoB.1).1
 have hA: ∀y∈A,y.2 < x.1:=fun y hy=> (List.pairwise_append.1 h.1).2.2 y hy x (by simp)
 have hB':=hoB.cons
 have mA: ∀c,Mem A c->c < x.1:=by rintro c ⟨y,hy,h3,h4⟩;have:=hA y hy;omega
 have mB: ∀c,Mem B c->x.2 < c:=by rintro c ⟨y,hy,h3,h4⟩;have:=hB y hy;omega
 unfold cutR
 refine⟨?_,fun c=> ?_, ?_⟩
 ·by_cases c1:x.1 < r.1 <;> by_cases c2:r.2 < x.2 <;> simp only [c1,c2,if_true,if_false,List.nil_append,List.append_nil,List.append_assoc,List.cons_append]
  ·refine Ok.mk3 (m:=(x.1,r.1)) hoA (Ok.mk3 (A:= []) (m:=(r.2,x.2)) Ok.nil hB' (by simp) hB (by simp only;omega)) hA ?_ (by simp only;omega)
   intro y hy
   rcases List.mem_cons.1 hy with rfl | hy
   ·simp only;omega
   ·have:=hB y hy;simp only;omega
  ·exact Ok.mk3 (m:=(x.1,r.1)) hoA hB' hA (fun y hy=> by have:=hB y hy;simp only;omega) (by simp only;omega)
  ·exact Ok.mk3 (m:=(r.2,x.2)) hoA hB' (fun y hy=> by have:=hA y hy;simp only;omega) hB (by simp only;omega)
  ·refine⟨List.pairwise_append.2 ⟨hoA.1,hB'.1,fun y hy z hz=> ?_⟩,fun y hy=> ?_⟩
   ·have:=hA y hy;have:=hB z hz;omega
   ·rcases List.mem_append.1 hy with hy | hy
    ·exact hoA.2 y hy
    ·exact hB'.2 y hy
 ·simp only [bU_,bc_]
  have a1:=mA c
  have b1:=mB c
  by_cases c1:x.1 < r.1 <;> by_cases c2:r.2 < x.2 <;> simp only [c1,c2,if_true,if_false,bc_,ce_,or_false,false_or] <;>
   grind
 ·simp only [aY_,cntL]
  by_cases c1:x.1 < r.1 <;> by_cases c2:r.2 < x.2 <;> simp only [c1,c2,if_true,if_false,cntL] <;> omega
theorem Ok.ext {s t:List Rng} (hs:Ok s) (ht:Ok t) (h: ∀c,Mem s c↔Mem t c):s=t:=by
 induction s generalizing t with
 | nil=>
  cases t with
  | nil=> rfl
  | cons y t=>
   have hy:=ht.2 y (by simp)
   exact absurd ((h y.1).2 ⟨y,by simp,by omega,by omega⟩) ce_
 | cons x s ih=>
  cases t with
  | nil=>
   have hx:=hs.2 x (by simp)
   exact absurd ((h x.1).1 ⟨x,by simp,by omega,by omega⟩) ce_
  | cons y t=>
   have hx:=hs.2 x (by simp)
   have hy:=ht.2 y (by simp)
   have px:=(List.pairwise_cons.1 hs.1).1
   have py:=(List.pairwise_cons.1 ht.1).1
   have low: ∀(x:Rng) (s:List Rng),Ok (x::s)-> ∀c,Mem (x::s) c->x.1<=c:=by
    rintro x s hs c ⟨z,hz,h1,h2⟩
    have hx:=hs.2 x (by simp)
    rcases List.mem_cons.1 hz with rfl | hz
    ·omega
    ·have:=(List.pairwise_cons.1 hs.1).1 z hz;omega
   have e1:x.1=y.1:=by
    have h1:=low y t ht x.1 ((h x.1).1 ⟨x,by simp,by omega,by omega⟩)
    have h2:=low x s hs y.1 ((h y.1).2 ⟨y,by simp,by omega,by omega⟩)
    omega
   have end_: ∀(x:Rng) (s:List Rng),Ok (x::s)-> ¬Mem (x::s) x.2:=by
    rintro x s hs ⟨z,hz,h1,h2⟩
    rcases List.mem_cons.1 hz with rfl | hz
    ·omega
    ·have:=(List.pairwise_cons.1 hs.1).1 z hz;omega
   have e2:x.2=y.2:=by
    have a1:=end_ x s hs
    have a2:=end_ y t ht
    rw [h] at a1
    rw [<-h] at a2
    have b1: ¬(y.1<=x.2/\x.2 < y.2):=fun hh=> a1 ⟨y,by simp,hh.1,hh.2⟩
    have b2: ¬(x.1<=y.2/\y.2 < x.2):=fun hh=> a2 ⟨x,by simp,hh.1,hh.2⟩
    omega
   have e:x=y:=Prod.ext e1 e2
   subst e
   congr 1
   refine ih hs.cons ht.cons fun c=> ?_
   have hc:=h c
   simp only [bc_] at hc
   have nx:Mem s c->x.2 < c:=by rintro⟨z,hz,h1,h2⟩;have:=px z hz;omega
   have ny:Mem t c->x.2 < c:=by rintro⟨z,hz,h1,h2⟩;have:=py z hz;omega
   constructor
   ·intro hm
    rcases hc.1 (.inr hm) with h1 | h1
    ·have:=nx hm;omega
    ·exact h1
   ·intro hm
    rcases hc.2 (.inr hm) with h1 | h1
    ·have:=ny hm;omega
    ·exact h1
theorem Ok.len_le {s:List Rng} (hs:Ok s): ∀b:Int,(∀x∈s,b<=x.1)->b<=40000->(s.length:Int)<=40000 - b:=by
 induction s with
 | nil=> intro b _ hb;simp;omega
 | cons x s ih=>
  intro b hb hb2
  have hx:=hs.2 x (by simp)
  have:=hb x (by simp)
  have:=ih hs.cons (x.2) (fun y hy=> by have:=(List.pairwise_cons.1 hs.1).1 y hy;omega) (by omega)
  simp;omega
theorem Ok.len {s:List Rng} (hs:Ok s):s.length<=40000:=by
 have:=hs.len_le 0 (fun x hx=> (hs.2 x hx).1) (by omega)
 omega
end Go.Proofs.YtkpgjkekmdecbaaGreat
