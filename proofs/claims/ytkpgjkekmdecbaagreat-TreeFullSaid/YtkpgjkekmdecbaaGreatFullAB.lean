/- Lemmas for the claim. No conditions beside those that each states. -/
import Derived.Test.YtkpgjkekmdecbaaGreatFullAA
import Derived.OrdersHeld
import Derived.KernelRfl
import Derived.Maps.RangeWalk
set_option maxRecDepth 100000
set_option maxHeartbeats 8000000
set_option linter.all false

namespace Go.Proofs.YtkpgjkekmdecbaaGreat
open Go.RowKit
variable {w:World} {n i k:Nat}
section
variable {P:Program} {ops:Array Oper} {Q:Exit->Act->World->Prop} {md:Region.Mode} {S:World->Prop} {nd:Nat->Bool}
def ad_ (P:Program) (md:Region.Mode) (ops:Array Oper) (Q:Exit->Act->World->Prop) (S:World->Prop) (nd:Nat->Bool):Nat->Array Bool->Act->World->Prop
 | 0,listed,a,w=> Region.ready md ops listed= []/\Q .normal a w
 | n+1,listed,a,w=>
  (Region.ready md ops listed= []->Q .normal a w)/\
  ∀i∈Region.ready md ops listed,wpOp P ops Q i (fun a' w'=> (nd i=true->S w')/\ad_ P md ops Q S nd n (listed.setIfInBounds i true) a' w') a w
theorem dZ_: ∀(n:Nat) (listed:Array Bool) (a:Act) (w:World),ad_ P md ops Q S nd n listed a w->wpAny P md ops Q n listed a w
 | 0,_,_,_,h=> h
 | n+1,_,_,_,h=> ⟨h.1,fun i hi=> wpOp_mono (fun a' w' h'=> dZ_ n _ a' w' h'.2) (h.2 i hi)⟩
def cc_ (md:Region.Mode) (ops:Array Oper) (i:Nat):Nat->Nat->Bool
 | 0,_=> false
 | n+1,j=> match ops[j]? with
  | some oj=> oj.after.any fun e=> Region.binds md e && (e.on==i || cc_ md ops i n e.on)
  | none=> false
def Closed (md:Region.Mode) (ops:Array Oper) (L:Array Bool):Prop:=
 ∀j oj,ops[j]? =some oj->L.getD j true=true-> ∀e∈oj.after,Region.binds md e=true->L.getD e.on true=true
def gZ_ (md:Region.Mode) (ops:Array Oper) (L:Array Bool):Bool:=
 (List.range ops.size).all fun j=> !L.getD j true || match ops[j]? with
  | some oj=> oj.after.all fun e=> !Region.binds md e || L.getD e.on true
  | none=> true
theorem cZ_ {L:Array Bool} (h:gZ_ md ops L=true):Closed md ops L:=by
 intro j oj hoj hl e he hb
 have hlt:j < ops.size:=(Array.getElem?_eq_some_iff.1 hoj).1
 have h1:=List.all_eq_true.1 h j (List.mem_range.2 hlt)
 rw [hoj,hl] at h1
 have h2:=Array.all_eq_true'.1 h1 e he
 rw [hb] at h2
 simpa using h2
theorem Closed.step {L:Array Bool} {j:Nat} (h:Closed md ops L) (hj:j∈Region.ready md ops L):Closed md ops (L.setIfInBounds j true):=by
 obtain⟨_,oj,hoj,hall⟩:=mem_ready.1 hj
 have mono: ∀k,L.getD k true=true->(L.setIfInBounds j true).getD k true=true:=by
  intro k hk
  by_cases hjk:j=k
  ·subst hjk
   rcases Nat.lt_or_ge j L.size with h' | h' <;> simp [h']
  ·rwa [getD_set_ne true hjk]
 intro k ok hok hk e he hb
 by_cases hjk:j=k
 ·subst hjk
  rw [hoj] at hok
  cases hok
  refine mono _ ?_
  have h2:=hall e he hb
  rcases Nat.lt_or_ge e.on L.size with h' | h'
  ·simp [h'] at h2 ⊢;exact h2
  ·simp [Array.getElem?_eq_none h']
 ·rw [getD_set_ne true hjk] at hk
  exact mono _ (h k ok hok hk e he hb)
theorem aZ_ {L:Array Bool} (hc:Closed md ops L): ∀(n j:Nat),L.getD j true=true->cc_ md ops i n j=true->L.getD i true=true
 | 0,_,_,h=> by simp [cc_] at h
 | n+1,j,hj,h=> by
  rw [cc_] at h
  cases hoj:ops[j]? with
  | none=> rw [hoj] at h;cases h
  | some oj=>
   rw [hoj] at h
   obtain⟨e,he,hb⟩:=Array.any_eq_true'.1 h
   simp only [Bool.and_eq_true,Bool.or_eq_true,beq_iff_eq] at hb
   have h1:=hc j oj hoj hj e he hb.1
   rcases hb.2 with h2 | h2
   ·rwa [h2] at h1
   ·exact aZ_ hc n e.on h1 h2
def waitsB (md:Region.Mode) (ops:Array Oper) (nd:Nat->Bool) (L:Array Bool) (i:Nat):Bool:=
 gZ_ md ops L && (List.range ops.size).all fun j=> nd j || j==i || L.getD j true || cc_ md ops i 6 j
theorem not_ready {i j:Nat} {L0 listed:Array Bool} (hw:waitsB md ops nd L0 i=true) (hm: ∀k,L0.getD k true=true->listed.getD k true=true) (hc:Closed md ops listed) (hn:nd j=false) (hji:j≠i) (hi:listed.getD i true=false) (hj:j∈Region.ready md ops listed):False:=by
 have hcl:=hc.step hj
 obtain⟨hun,oj,hoj,hall⟩:=mem_ready.1 hj
 have hlt:j < ops.size:=(Array.getElem?_eq_some_iff.1 hoj).1
 have h1:=List.all_eq_true.1 (Bool.and_eq_true_iff.1 hw).2 j (List.mem_range.2 hlt)
 simp only [hn,Bool.false_or,Bool.or_eq_true,beq_iff_eq] at h1
 rcases h1 with (h1 | h1) | h1
 ·exact hji h1
 ·have h2:=hm j h1
  rcases Nat.lt_or_ge j listed.size with h' | h'
  ·simp [h'] at h2 hun;rw [hun] at h2;cases h2
  ·simp [Array.getElem?_eq_none h'] at hun
 ·have h2:=aZ_ hcl 6 j (by rcases Nat.lt_or_ge j listed.size with h' | h' <;> simp [h']) h1
  rw [getD_set_ne true hji,hi] at h2
  cases h2
theorem cP_ {S':World->Prop} {oi:Oper} {v:Value} (hi:ops[i]? =some oi) (hsel: ∀(j:Nat) (o:Oper) cs b,ops[j]? =some o->o.op≠ .select cs b)
  (hQ: ∀c a w,Q (.panic c) (a.put oi.dst v) w->Q (.panic c) a w) (L0:Array Bool) (useC:Prop)
  (hst: ∀(j:Nat) (listed:Array Bool),(∀k,L0.getD k true=true->listed.getD k true=true)->(useC->Closed md ops listed)->listed.getD i true=false->j≠i->j∈Region.ready md ops listed-> ∀w',(nd j=true->S w')->S' w') (hni: ∀w,S' w->nd i=true->S w) (n:Nat):
  ∀(listed:Array Bool) (a:Act) (w:World),(∀k,L0.getD k true=true->listed.getD k true=true)->(useC->Closed md ops listed)->
   (∀j oj,ops[j]? =some oj->j≠i->listed.getD j true=false->(∀e∈oj.after,Region.binds md e=true->e.on≠i)->oi.apart ops oj=true)->
   i∈Region.ready md ops listed->YieldsIf P ops S' oi v a->S' w->
   ad_ P md ops Q S nd n (listed.setIfInBounds i true) (a.put oi.dst v) w->ad_ P md ops Q S nd (n+1) listed a w:=by
 induction n with
 | zero=>
  intro listed a w _ _ _ hr hy hS H
  refine⟨(fun h=> by rw [h] at hr;cases hr),fun j hj=> ?_⟩
  by_cases hji:j=i
  ·subst hji;exact hy.wpOp hi hS ⟨hni w hS,H⟩
  ·have h1:=ready_mono hj hji
   rw [H.1] at h1
   cases h1
 | succ n ih=>
  intro listed a w hm hc hfree hr hy hS H
  have hun:=(mem_ready.1 hr).1
  refine⟨(fun h=> by rw [h] at hr;cases hr),fun j hj=> ?_⟩
  by_cases hji:j=i
  ·subst hji;exact hy.wpOp hi hS ⟨hni w hS,H⟩
  ·have h1:=H.2 j (ready_mono hj hji)
   obtain⟨hjun,oj,hoj,hall⟩:=mem_ready.1 hj
   have hnot: ∀e∈oj.after,Region.binds md e=true->e.on≠i:=fun e he hb heq=> by
    have h2:=hall e he hb
    rw [heq] at h2
    rcases Nat.lt_or_ge i listed.size with h' | h'
    ·simp [h'] at hun h2;rw [hun] at h2;cases h2
    ·simp [Array.getElem?_eq_none h'] at hun
   have h2:=wpOp_putIf hoj (hfree j oj hoj hji hjun hnot) (fun cs b=> hsel i oi cs b hi) (fun cs b=> hsel j oj cs b hoj) hQ hy h1
   refine wpOp_mono (fun a' w' h3=> ⟨h3.2.1, ?_⟩) h2
   refine ih (listed.setIfInBounds j true) a' w' (fun k hk=> ?_) (fun hu=> (hc hu).step hj) (fun k ok hk hki hku hno=> ?_) (ready_mono hr (Ne.symm hji)) h3.1 (hst j listed hm hc hun hji hj w' h3.2.1) ?_
   ·by_cases hjk:j=k
    ·subst hjk
     rcases Nat.lt_or_ge j listed.size with h' | h' <;> simp [h']
    ·rw [getD_set_ne true hjk];exact hm k hk
   ·refine hfree k ok hk hki ?_ hno
    by_cases hjk:j=k
    ·subst hjk;exact hjun
    ·rwa [getD_set_ne true hjk] at hku
   ·rw [Array.setIfInBounds_comm _ _ hji]
    exact h3.2.2
theorem gx_ {oi:Oper} {v:Value} {listed:Array Bool} {a:Act} (hi:ops[i]? =some oi)
  (hs:Region.noSelect ops=true) (hf:Region.free md ops listed i=true) (hr:(Region.ready md ops listed).contains i=true) (hw:waitsB md ops nd listed i=true)
  (hQ: ∀c a w,Q (.panic c) (a.put oi.dst v) w->Q (.panic c) a w) (hS:S w) (hy:YieldsIf P ops S oi v a)
  (h:ad_ P md ops Q S nd n (listed.setIfInBounds i true) (a.put oi.dst v) w):ad_ P md ops Q S nd (n+1) listed a w:=
 cP_ (S':=S) hi (Region.noSelect_spec hs) hQ listed True (fun j l hm hc hl hji hj w' h=> by
  cases hn:nd j with
  | true=> exact h hn
  | false=> exact(not_ready hw hm (hc trivial) hn hji hl hj).elim) (fun _ h _=> h) n listed a w (fun _ h=> h) (fun _=> cZ_ (Bool.and_eq_true_iff.1 hw).1) (Region.free_spec hi hf) (by simpa using hr) hy hS h
theorem gy_ {oi:Oper} {v:Value} {listed:Array Bool} {a:Act} (hi:ops[i]? =some oi)
  (hs:Region.noSelect ops=true) (hf:Region.free md ops listed i=true) (hr:(Region.ready md ops listed).contains i=true) (hn:nd i=false)
  (hQ: ∀c a w,Q (.panic c) (a.put oi.dst v) w->Q (.panic c) a w) (hy:Yields P ops oi v a)
  (h:ad_ P md ops Q S nd n (listed.setIfInBounds i true) (a.put oi.dst v) w):ad_ P md ops Q S nd (n+1) listed a w:=
 cP_ (S':=fun _=> True) hi (Region.noSelect_spec hs) hQ listed False (fun _ _ _ _ _ _ _ _ _=> trivial) (fun _ _ h=> by rw [hn] at h;cases h) n listed a w (fun _ h=> h) (fun h=> h.elim) (Region.free_spec hi hf) (by simpa using hr) hy.yieldsIf trivial h
theorem a_ {o:Oper} {listed:Array Bool} {a:Act} (hr:Region.ready md ops listed= [i]) (ho:ops[i]? =some o)
  (h: ∀K:Act->World->Prop,Hid (∀a' w',(nd i=true->S w')->((nd i=true->S w')->ad_ P md ops Q S nd n (listed.setIfInBounds i true) a' w')->K a' w')->if Region.wanted o (yielded ops a.tmps)=true then Oper.wp P o a w K Q else K (a.put o.dst undef) w):
  ad_ P md ops Q S nd (n+1) listed a w:=by
 refine⟨(fun h0=> by rw [hr] at h0;cases h0),fun j hj=> ?_⟩
 rw [hr] at hj
 obtain rfl:j=i:=by simpa using hj
 exact wpOp_step ho (fun K hK=> h K (fun a w hS hW=> hK a w ⟨hS,hW hS⟩))
theorem c_ {listed:Array Bool} {a:Act} (hr:Region.ready md ops listed= []) (h:Q .normal a w): ∀n,ad_ P md ops Q S nd n listed a w
 | 0=> ⟨hr,h⟩
 | _+1=> ⟨fun _=> h,by rw [hr];simp⟩
theorem e_ {id:Nat} {a:Act} (S:World->Prop) (nd:Nat->Bool) (hm:P.follows .mixedOrders=true) (hS:S w.drew)
  (h:S w.drew->ad_ P .any ops Q S nd ops.size (Array.replicate ops.size false) a w.drew):(Code.region id ops true).wp P Q a w:=
 wp_region_any hm (dZ_ _ _ _ _ (h hS))
end
section
variable {P : Program} {ops : Array Oper} {Q : Exit -> Act -> World -> Prop} {md : Region.Mode} {S : World -> Prop} {nd : Nat -> Bool}
theorem PUq (i : Nat) {oi : Oper} {v : Value} {listed : Array Bool} {a : Act} (h : ad_ P md ops Q S nd n (listed.setIfInBounds i true) (a.put oi.dst v) w) (hi : ops[i]? = some oi := by rfl) (hs : Region.noSelect ops = true := by kernel_rfl) (hf : Region.free md ops listed i = true := by kernel_rfl) (hr : (Region.ready md ops listed).contains i = true := by kernel_rfl) (hn : nd i = false := by rfl) (hQ : ∀ c a w, Q (.panic c) (a.put oi.dst v) w -> Q (.panic c) a w := by exact fun _ _ _ h => h) (hy : Yields P ops oi v a := by exact (Or.inl ⟨by rfl, fun W => by (go_simp; try rfl)⟩)) : ad_ P md ops Q S nd (n + 1) listed a w :=
  gy_ hi hs hf hr hn hQ hy h
theorem ta (i : Nat) {oi : Oper} {v : Value} {listed : Array Bool} {a : Act} (h : ad_ P md ops Q S nd n (listed.setIfInBounds i true) (a.put oi.dst v) w) (hi : ops[i]? = some oi := by rfl) (hs : Region.noSelect ops = true := by kernel_rfl) (hf : Region.free md ops listed i = true := by kernel_rfl) (hr : (Region.ready md ops listed).contains i = true := by kernel_rfl) (hw : waitsB md ops nd listed i = true := by kernel_rfl) (hQ : ∀ c a w, Q (.panic c) (a.put oi.dst v) w -> Q (.panic c) a w := by exact fun _ _ _ h => h) (hS : S w := by assumption) (hy : YieldsIf P ops S oi v a := by exact (Or.inl ⟨by rfl, fun W hW => by (have hWW := hW; clear hW; go_split_ands; go_simp; try rfl)⟩)) : ad_ P md ops Q S nd (n + 1) listed a w :=
  gx_ hi hs hf hr hw hQ hS hy h
end
end Go.Proofs.YtkpgjkekmdecbaaGreat
namespace Go.Proofs.YtkpgjkekmdecbaaGreat

variable {w:World} {n i k:Nat}
def Ok (s:List Rng):Prop:=s.Pairwise (fun a b=> a.2 < b.1)/\ ∀r∈s,0<=r.1/\r.1 < r.2/\r.2<=40000
def Mem (s:List Rng) (c:Int):Prop:= ∃x∈s,x.1<=c/\c < x.2
def hasB (s:List Rng) (r:Rng):Bool:=s.any (fun x=> decide (x.1<=r.1) && decide (r.2<=x.2))
def ae_ (s:List Rng) (r:Rng):Bool:=s.any (fun x=> decide (x.1 < r.2) && decide (r.1 < x.2))
def cntL:List Rng->Int
 | []=> 0
 | r::s=> (r.2 - r.1)+cntL s
theorem aH_ (a b:List Rng):cntL (a++b)=cntL a+cntL b:=by
 induction a with
 | nil=> simp [cntL]
 | cons x a ih=> simp [cntL,ih];omega
theorem Ok.nil:Ok []:=⟨List.Pairwise.nil,by simp⟩
theorem Ok.cons {r:Rng} {s:List Rng} (h:Ok (r::s)):Ok s:=⟨(List.pairwise_cons.1 h.1).2,fun x hx=> h.2 x (List.mem_cons_of_mem _ hx)⟩
theorem Ok.append {a b:List Rng} (h:Ok (a++b)):Ok a/\Ok b:=
 ⟨⟨(List.pairwise_append.1 h.1).1,fun x hx=> h.2 x (List.mem_append_left _ hx)⟩,⟨(List.pairwise_append.1 h.1).2.1,fun x hx=> h.2 x (List.mem_append_right _ hx)⟩⟩
theorem bu_ {a b:List Rng} {c:Int}:Mem (a++b) c↔Mem a c\/Mem b c:=by simp [Mem,or_and_right,exists_or]
theorem aV_ {r:Rng} {b:List Rng} {c:Int}:Mem (r::b) c↔(r.1<=c/\c < r.2)\/Mem b c:=by simp [Mem]
theorem bf_ {c:Int}: ¬Mem [] c:=by simp [Mem]
theorem bX_ {s:List Rng} (h:i < s.length):s.getD i (0,0)∈s:=by
 simp only [List.getD,List.getElem?_eq_getElem h,Option.getD_some];exact List.getElem_mem h
theorem Ok.lt {s:List Rng} (h:Ok s) {i j:Nat} (hij:i < j) (hj:j < s.length):(s.getD i (0,0)).2 < (s.getD j (0,0)).1:=by
 have:=List.pairwise_iff_getElem.1 h.1 i j (by omega) hj hij
 simpa [List.getD,List.getElem?_eq_getElem hj,List.getElem?_eq_getElem (show i < s.length by omega)] using this
theorem Ok.at {s:List Rng} (h:Ok s) (hi:i < s.length):0<=(s.getD i (0,0)).1/\(s.getD i (0,0)).1 < (s.getD i (0,0)).2/\(s.getD i (0,0)).2<=40000:=h.2 _ (bX_ hi)
theorem Ok.srt {s:List Rng} (h:Ok s):Srt s:=fun i j hij hj=> by
 have h1:=h.lt hij hj
 have h2:=h.at hj
 omega
theorem Cut.split {s:List Rng} {c:Int} (h:Cut s c k):(∀x∈s.take k,x.2<=c)/\(∀x∈s.drop k,c < x.2):=by
 obtain⟨h1,h2,h3⟩:=h
 constructor
 ·intro x hx
  obtain⟨i,hi,rfl⟩:=List.mem_iff_getElem.1 hx
  have hi':i < k:=by simp at hi;omega
  have:=h2 i hi'
  simpa [List.getD,List.getElem?_eq_getElem (show i < s.length by omega)] using this
 ·intro x hx
  obtain⟨i,hi,rfl⟩:=List.mem_iff_getElem.1 hx
  have hi':k+i < s.length:=by simp at hi;omega
  have:=h3 (k+i) (by omega) hi'
  simpa [List.getD,List.getElem?_eq_getElem hi'] using this
theorem hO_ {s:List Rng} {r:Rng} (hs:Ok s) (hk:Cut s r.1 k) (hr:r.1 < r.2):
  hasB s r=(decide (k < s.length) && (decide ((s.getD k (0,0)).1<=r.1) && decide (r.2<=(s.getD k (0,0)).2))):=by
 rw [Bool.eq_iff_iff]
 simp only [hasB,List.any_eq_true,Bool.and_eq_true,decide_eq_true_eq]
 constructor
 ·rintro⟨x,hx,h1,h2⟩
  obtain⟨j,hj,rfl⟩:=List.mem_iff_getElem.1 hx
  have e:s.getD j (0,0)=s[j]:=by simp [List.getD,hj]
  rw [<-e] at h1 h2
  have hkj:k<=j:=by
   by_cases hlt:j < k
   ·have:=hk.2.1 j hlt;omega
   ·omega
  have hk1:k < s.length:=by omega
  by_cases hkj':k=j
  ·subst hkj';exact⟨hk1,h1,h2⟩
  ·have:=hs.lt (show k < j by omega) hj
   have:=hk.2.2 k (Nat.le_refl _) hk1
   omega
 ·rintro⟨h1,h2,h3⟩
  exact⟨_,bX_ h1,h2,h3⟩
theorem iB_ {s:List Rng} {r:Rng} (hs:Ok s) (hk:Cut s r.1 k):
  ae_ s r=(decide (k < s.length) && decide ((s.getD k (0,0)).1 < r.2)):=by
 rw [Bool.eq_iff_iff]
 simp only [ae_,List.any_eq_true,Bool.and_eq_true,decide_eq_true_eq]
 constructor
 ·rintro⟨x,hx,h1,h2⟩
  obtain⟨j,hj,rfl⟩:=List.mem_iff_getElem.1 hx
  have e:s.getD j (0,0)=s[j]:=by simp [List.getD,hj]
  rw [<-e] at h1 h2
  have hkj:k<=j:=by
   by_cases hlt:j < k
   ·have:=hk.2.1 j hlt;omega
   ·omega
  have hk1:k < s.length:=by omega
  refine⟨hk1, ?_⟩
  by_cases hkj':k=j
  ·subst hkj';exact h1
  ·have h4:=hs.lt (show k < j by omega) hj
   have h5:=hs.at hk1
   omega
 ·rintro⟨h1,h2⟩
  exact⟨_,bX_ h1,h2,hk.2.2 k (Nat.le_refl _) h1⟩
theorem aX_ {s:List Rng} {r:Rng} (hr:r.1 < r.2) (hs: ∀x∈s,x.1 < x.2):ae_ s r=true↔ ∃c,Mem s c/\r.1<=c/\c < r.2:=by
 simp only [ae_,List.any_eq_true,Bool.and_eq_true,decide_eq_true_eq]
 constructor
 ·rintro⟨x,hx,h1,h2⟩
  have:=hs x hx
  exact⟨max x.1 r.1,⟨x,hx,by omega,by omega⟩,by omega,by omega⟩
 ·rintro⟨c,⟨x,hx,h1,h2⟩,h3,h4⟩
  exact⟨x,hx,by omega,by omega⟩
def addR (A:List Rng) (r:Rng) (B:List Rng):List Rng:=
 let p:Int×List Rng:=match B with
  | x::B'=> if r.2=x.1 then (x.2,B') else (r.2,B)
  | []=> (r.2,[])
 match A.getLast? with
 | some y=> if y.2=r.1 then A.dropLast++(y.1,p.1)::p.2 else A++(r.1,p.1)::p.2
 | none=> (r.1,p.1)::p.2
theorem Ok.mk3 {A B:List Rng} {m:Rng} (hA:Ok A) (hB:Ok B) (h1: ∀x∈A,x.2 < m.1) (h2: ∀x∈B,m.2 < x.1) (hm:0<=m.1/\m.1 < m.2/\m.2<=40000):Ok (A++m::B):=by
 refine⟨List.pairwise_append.2 ⟨hA.1,List.pairwise_cons.2 ⟨h2,hB.1⟩, ?_⟩, ?_⟩
 ·intro x hx y hy
  rcases List.mem_cons.1 hy with rfl | hy
  ·exact h1 x hx
  ·have:=h1 x hx;have:=h2 y hy;omega
 ·intro x hx
  rcases List.mem_append.1 hx with hx | hx
  ·exact hA.2 x hx
  ·rcases List.mem_cons.1 hx with rfl | hx
   ·exact hm
   ·exact hB.2 x hx
def addT (r:Rng) (B:List Rng):Int×List Rng:=match B with
 | x::B'=> if r.2=x.1 then (x.2,B') else (r.2,B)
 | []=> (r.2,[])
theorem addT_ok {B:List Rng} {r:Rng} (h:Ok B) (hr:0<=r.1/\r.1 < r.2/\r.2<=40000) (hB: ∀x∈B,r.2<=x.1):
  Ok (addT r B).2/\r.2<=(addT r B).1/\(addT r B).1<=40000/\(∀x∈(addT r B).2,(addT r B).1 < x.1)/\(∀c,(r.1<=c/\c < (addT r B).1)\/Mem (addT r B).2 c↔Mem B c\/(r.1<=c/\c < r.2)):=by
 cases B with
 | nil=> simp [addT,Ok.nil,bf_];omega
 | cons x B'=>
  have hx:=h.2 x (List.mem_cons_self ..)
  have hrx:=hB x (List.mem_cons_self ..)
  have hp:=(List.pairwise_cons.1 h.1).1
  simp only [addT]
  split
  ·rename_i e
   refine⟨h.cons,by simp only;omega,hx.2.2,hp,fun c=> ?_⟩
   simp only [aV_]
   have:(r.1<=c/\c < x.2)↔(x.1<=c/\c < x.2)\/(r.1<=c/\c < r.2):=by omega
   rw [this]
   constructor
   ·rintro((h | h) | h)
    ·exact .inl (.inl h)
    ·exact .inr h
    ·exact .inl (.inr h)
   ·rintro((h | h) | h)
    ·exact .inl (.inl h)
    ·exact .inr h
    ·exact .inl (.inr h)
  ·rename_i e
   refine⟨h,by simp only;omega,hr.2.2, ?_,fun c=> ?_⟩
   ·intro y hy
    rcases List.mem_cons.1 hy with rfl | hy
    ·simp only;omega
    ·have:=hp y hy;simp only;omega
   ·exact or_comm
theorem addT_cnt (r:Rng) (B:List Rng):(addT r B).1 - r.1+cntL (addT r B).2=cntL B+(r.2 - r.1):=by
 cases B with
 | nil=> simp [addT,cntL]
 | cons x B'=>
  simp only [addT]
  split <;> simp only [cntL] <;> omega
theorem dL_ (A:List Rng) (r:Rng) (B:List Rng):addR A r B=match A.getLast? with
 | some y=> if y.2=r.1 then A.dropLast++(y.1,(addT r B).1)::(addT r B).2 else A++(r.1,(addT r B).1)::(addT r B).2
 | none=> (r.1,(addT r B).1)::(addT r B).2:=rfl
theorem addR_ok {A B:List Rng} {r:Rng} (h:Ok (A++B)) (hr:0<=r.1/\r.1 < r.2/\r.2<=40000) (hA: ∀x∈A,x.2<=r.1) (hB: ∀x∈B,r.2<=x.1):
  Ok (addR A r B)/\(∀c,Mem (addR A r B) c↔Mem (A++B) c\/(r.1<=c/\c < r.2))/\cntL (addR A r B)=cntL (A++B)+(r.2 - r.1):=by
 obtain⟨hoA,hoB⟩:=h.append
 have hcT:=addT_cnt r B
 obtain⟨t1,t2,t3,t4,t5⟩:=addT_ok hoB hr hB
 rw [dL_]
 generalize addT r B=p at*
 rcases List.eq_nil_or_concat A with hAe | ⟨A0,y,hAe⟩
 ·subst hAe
  simp only [List.getLast?_nil,List.nil_append]
  refine⟨by simpa using Ok.mk3 (A:= []) (m:=(r.1,p.1)) Ok.nil t1 (by simp) t4 (by simp only;omega),fun c=> ?_,by simp only [cntL];omega⟩
  rw [aV_,<-t5]
 ·rw [List.concat_eq_append] at hAe
  subst hAe
  have hA0:=hoA.append.1
  have hy:=hoA.2 y (by simp)
  have hyr:=hA y (by simp)
  have hlast: ∀x∈A0,x.2 < y.1:=fun x hx=> (List.pairwise_append.1 hoA.1).2.2 x hx y (by simp)
  simp only [List.getLast?_append,List.getLast?_singleton,Option.some_or]
  split
  ·rename_i e
   rw [List.dropLast_concat]
   refine⟨Ok.mk3 (m:=(y.1,p.1)) hA0 t1 hlast t4 (by simp only;omega),fun c=> ?_,by simp only [cntL,aH_];omega⟩
   simp only [bu_,aV_]
   have h5:=t5 c
   have:(y.1<=c/\c < p.1)↔(y.1<=c/\c < y.2)\/(r.1<=c/\c < p.1):=by omega
   rw [this,or_assoc (a:=y.1<=c/\c < y.2),h5]
   simp only [or_assoc,bf_,false_or]
  ·rename_i e
   refine⟨Ok.mk3 (m:=(r.1,p.1)) hoA t1 ?_ t4 (by simp only;omega),fun c=> ?_,by simp only [cntL,aH_];omega⟩
   ·intro x hx
    rcases List.mem_append.1 hx with hx | hx
    ·have:=hlast x hx;simp only;omega
    ·simp only [List.mem_singleton] at hx;subst hx;simp only;omega
   ·simp only [bu_,aV_]
    have h5:=t5 c
    rw [h5]
    simp only [or_assoc]
def cutR (A:List Rng) (x r:Rng) (B:List Rng):List Rng:=A++((if x.1 < r.1 then [(x.1,r.1)] else [])++(if r.2 < x.2 then [(r.2,x.2)] else []))++B
theorem ff_ {A B:List Rng} {x r:Rng} (h:Ok (A++x::B)) (hr:r.1 < r.2) (h1:x.1<=r.1) (h2:r.2<=x.2):
  Ok (cutR A x r B)/\(∀c,Mem (cutR A x r B) c↔Mem (A++x::B) c/\ ¬(r.1<=c/\c < r.2))/\cntL (cutR A x r B)=cntL (A++x::B) - (r.2 - r.1):=by
 obtain⟨hoA,hoB⟩:=h.append
 have hx:=h.2 x (by simp)
 have hB:=(List.pairwise_cons.1 hoB.1).1
 have hA: ∀y∈A,y.2 < x.1:=fun y hy=> (List.pairwise_append.1 h.1).2.2 y hy x (by simp)
 have hB':=hoB.cons
 have mA: ∀c,Mem A c->c < x.1:=by rintro c ⟨y,hy,h3,h4⟩;have:=hA y hy;omega
 have mB: ∀c,Mem B c->x.2 < c:=by rintro c ⟨y,hy,h3,h4⟩;have:=hB y hy;omega
 unfold cutR
 refine⟨?_,fun c=> ?_, ?_⟩
 ·by_cases c1:x.1 < r.1 <;> by_cases c2:r.2 < x.2 <;> simp only [c1,c2,if_true,if_false,List.nil_append,List.append_nil,List.append_assoc,List.cons_append]
  ·refine Ok.mk3 (m:=(x.1,r.1)) hoA (Ok.mk3 (A:= []) (m:=(r.2,x.2)) Ok.nil hB' (by simp) hB (by simp only;omega)) hA ?_ (by simp only;omega)
   intro y hy
   rcases List.mem_cons.1 hy with rfl | hy
   ·simp only;omega
   ·have:=hB y hy;simp only;omega
  ·exact Ok.mk3 (m:=(x.1,r.1)) hoA hB' hA (fun y hy=> by have:=hB y hy;simp only;omega) (by simp only;omega)
  ·exact Ok.mk3 (m:=(r.2,x.2)) hoA hB' (fun y hy=> by have:=hA y hy;simp only;omega) hB (by simp only;omega)
  ·refine⟨List.pairwise_append.2 ⟨hoA.1,hB'.1,fun y hy z hz=> ?_⟩,fun y hy=> ?_⟩
   ·have:=hA y hy;have:=hB z hz;omega
   ·rcases List.mem_append.1 hy with hy | hy
    ·exact hoA.2 y hy
    ·exact hB'.2 y hy
 ·simp only [bu_,aV_]
  have a1:=mA c
  have b1:=mB c
  by_cases c1:x.1 < r.1 <;> by_cases c2:r.2 < x.2 <;> simp only [c1,c2,if_true,if_false,aV_,bf_,or_false,false_or] <;>
   grind
 ·simp only [aH_,cntL]
  by_cases c1:x.1 < r.1 <;> by_cases c2:r.2 < x.2 <;> simp only [c1,c2,if_true,if_false,cntL] <;> omega
theorem Ok.ext {s t:List Rng} (hs:Ok s) (ht:Ok t) (h: ∀c,Mem s c↔Mem t c):s=t:=by
 induction s generalizing t with
 | nil=>
  cases t with
  | nil=> rfl
  | cons y t=>
   have hy:=ht.2 y (by simp)
   exact absurd ((h y.1).2 ⟨y,by simp,by omega,by omega⟩) bf_
 | cons x s ih=>
  cases t with
  | nil=>
   have hx:=hs.2 x (by simp)
   exact absurd ((h x.1).1 ⟨x,by simp,by omega,by omega⟩) bf_
  | cons y t=>
   have hx:=hs.2 x (by simp)
   have hy:=ht.2 y (by simp)
   have px:=(List.pairwise_cons.1 hs.1).1
   have py:=(List.pairwise_cons.1 ht.1).1
   have low: ∀(x:Rng) (s:List Rng),Ok (x::s)-> ∀c,Mem (x::s) c->x.1<=c:=by
    rintro x s hs c ⟨z,hz,h1,h2⟩
    have hx:=hs.2 x (by simp)
    rcases List.mem_cons.1 hz with rfl | hz
    ·omega
    ·have:=(List.pairwise_cons.1 hs.1).1 z hz;omega
   have e1:x.1=y.1:=by
    have h1:=low y t ht x.1 ((h x.1).1 ⟨x,by simp,by omega,by omega⟩)
    have h2:=low x s hs y.1 ((h y.1).2 ⟨y,by simp,by omega,by omega⟩)
    omega
   have end_: ∀(x:Rng) (s:List Rng),Ok (x::s)-> ¬Mem (x::s) x.2:=by
    rintro x s hs ⟨z,hz,h1,h2⟩
    rcases List.mem_cons.1 hz with rfl | hz
    ·omega
    ·have:=(List.pairwise_cons.1 hs.1).1 z hz;omega
   have e2:x.2=y.2:=by
    have a1:=end_ x s hs
    have a2:=end_ y t ht
    rw [h] at a1
    rw [<-h] at a2
    have b1: ¬(y.1<=x.2/\x.2 < y.2):=fun hh=> a1 ⟨y,by simp,hh.1,hh.2⟩
    have b2: ¬(x.1<=y.2/\y.2 < x.2):=fun hh=> a2 ⟨x,by simp,hh.1,hh.2⟩
    omega
   have e:x=y:=Prod.ext e1 e2
   subst e
   congr 1
   refine ih hs.cons ht.cons fun c=> ?_
   have hc:=h c
   simp only [aV_] at hc
   have nx:Mem s c->x.2 < c:=by rintro⟨z,hz,h1,h2⟩;have:=px z hz;omega
   have ny:Mem t c->x.2 < c:=by rintro⟨z,hz,h1,h2⟩;have:=py z hz;omega
   constructor
   ·intro hm
    rcases hc.1 (.inr hm) with h1 | h1
    ·have:=nx hm;omega
    ·exact h1
   ·intro hm
    rcases hc.2 (.inr hm) with h1 | h1
    ·have:=ny hm;omega
    ·exact h1
theorem Ok.len_le {s:List Rng} (hs:Ok s): ∀b:Int,(∀x∈s,b<=x.1)->b<=40000->(s.length:Int)<=40000 - b:=by
 induction s with
 | nil=> intro b _ hb;simp;omega
 | cons x s ih=>
  intro b hb hb2
  have hx:=hs.2 x (by simp)
  have:=hb x (by simp)
  have:=ih hs.cons (x.2) (fun y hy=> by have:=(List.pairwise_cons.1 hs.1).1 y hy;omega) (by omega)
  simp;omega
theorem Ok.len {s:List Rng} (hs:Ok s):s.length<=40000:=by
 have:=hs.len_le 0 (fun x hx=> (hs.2 x hx).1) (by omega)
 omega
end Go.Proofs.YtkpgjkekmdecbaaGreat
