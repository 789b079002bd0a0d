/- Lemmas for the claim. No conditions beside those that each states. -/
import Derived.WalkKit
import Derived.WalkSpells
import Derived.WalkLawsBesides
import Derived.BigQuiet
import Derived.Deep.RegionHeld3
import Derived.Deep.DeepCutAuto
import Derived.Laws.CopyOwn
import Derived.Lib.Hide
import Derived.Test.YtkpgjkekmdecbaaGreatRows
import Derived.KernelRfl
import Derived.Lib.Overlaps
import Derived.Deep.RegionLaw
set_option maxRecDepth 100000
set_option maxHeartbeats 8000000
set_option linter.all false

namespace Go.Proofs.YtkpgjkekmdecbaaGreat
open Go.RowKit
variable {w w':World} {T:TypeId} {i g b:Nat} {S:List Nat}
theorem hi_ {p : Prop} (h : p) : Hid p := Lib.hid h
theorem h_2 {p0 p1 : Prop} (h0 : p0) (h1 : p1) : Hid p0 /\ Hid p1 := ⟨h0, h1⟩
theorem h_3 {p0 p1 p2 : Prop} (h0 : p0) (h1 : p1) (h2 : p2) : Hid p0 /\ Hid p1 /\ Hid p2 := ⟨h0, h1, h2⟩
theorem h_4 {p0 p1 p2 p3 : Prop} (h0 : p0) (h1 : p1) (h2 : p2) (h3 : p3) : Hid p0 /\ Hid p1 /\ Hid p2 /\ Hid p3 := ⟨h0, h1, h2, h3⟩
theorem h_5 {p0 p1 p2 p3 p4 : Prop} (h0 : p0) (h1 : p1) (h2 : p2) (h3 : p3) (h4 : p4) : Hid p0 /\ Hid p1 /\ Hid p2 /\ Hid p3 /\ Hid p4 := ⟨h0, h1, h2, h3, h4⟩
theorem h_6 {p0 p1 p2 p3 p4 p5 : Prop} (h0 : p0) (h1 : p1) (h2 : p2) (h3 : p3) (h4 : p4) (h5 : p5) : Hid p0 /\ Hid p1 /\ Hid p2 /\ Hid p3 /\ Hid p4 /\ Hid p5 := ⟨h0, h1, h2, h3, h4, h5⟩
theorem h_7 {p0 p1 p2 p3 p4 p5 p6 : Prop} (h0 : p0) (h1 : p1) (h2 : p2) (h3 : p3) (h4 : p4) (h5 : p5) (h6 : p6) : Hid p0 /\ Hid p1 /\ Hid p2 /\ Hid p3 /\ Hid p4 /\ Hid p5 /\ Hid p6 := ⟨h0, h1, h2, h3, h4, h5, h6⟩
theorem h_8 {p0 p1 p2 p3 p4 p5 p6 p7 : Prop} (h0 : p0) (h1 : p1) (h2 : p2) (h3 : p3) (h4 : p4) (h5 : p5) (h6 : p6) (h7 : p7) : Hid p0 /\ Hid p1 /\ Hid p2 /\ Hid p3 /\ Hid p4 /\ Hid p5 /\ Hid p6 /\ Hid p7 := ⟨h0, h1, h2, h3, h4, h5, h6, h7⟩
theorem nk {q : Prop} {s : World -> Prop} {X K : Act -> World -> Prop} (hK : Hid (∀ a w, (q -> s w) -> ((q -> s w) -> X a w) -> K a w)) {a : Act} (h : X a w) (hq : q -> s w := by exact fun h => by cases h) : K a w := hK.out a w hq (fun _ => h)
theorem iw {o : Oper} {f : Nat -> Option Bool} {p q : Prop} (h : Region.wanted o f = true) (hp : p) : if Region.wanted o f = true then p else q := by rw [if_pos h]; exact hp
theorem zA {α : Type} {xs : List α} (h : i < xs.toArray.size) : xs.toArray[i] = xs[i]'(by simpa using h) := rfl
theorem zB {α : Type} {a : α} {xs : List α} (h : 0 < (a :: xs).length) : (a :: xs)[0] = a := rfl
theorem zC {α : Type} {a : α} {xs : List α} (h : i + 1 < (a :: xs).length) : (a :: xs)[i + 1] = xs[i]'(Nat.lt_of_succ_lt_succ h) := rfl
theorem zD {α : Type} {a b : α} {xs : List α} : (a :: xs).set 0 b = b :: xs := rfl
theorem zE {α : Type} {a b : α} {xs : List α} : (a :: xs).set (i + 1) b = a :: xs.set i b := rfl
structure Ext (S:List Nat) (w w':World):Prop where
 os:w'.os=w.os
 tape:w'.tape=w.tape
 output:w'.output=w.output
 size:w.heap.size<=w'.heap.size
 block: ∀k,k < w.heap.size->k∉S->w'.heap[k]? =w.heap[k]?
theorem Ext.refl (S:List Nat) (w:World):Ext S w w:=⟨rfl,rfl,rfl,Nat.le_refl _,fun _ _ _=> rfl⟩
theorem Ext.trans' {S S' S'':List Nat} {a b c:World} (h:Ext S a b) (k:Ext S' b c) (h1: ∀x∈S,x∈S''\/a.heap.size<=x) (h2: ∀x∈S',x∈S''\/a.heap.size<=x):Ext S'' a c:=
 ⟨k.os.trans h.os,k.tape.trans h.tape,k.output.trans h.output,Nat.le_trans h.size k.size,fun i hi hn=>
  (k.block i (Nat.lt_of_lt_of_le hi h.size) (fun hm=> by rcases h2 i hm with h | h;exact hn h;omega)).trans
   (h.block i hi (fun hm=> by rcases h1 i hm with h | h;exact hn h;omega))⟩
theorem Ext.trans {a b c:World} (h:Ext S a b) (k:Ext S b c):Ext S a c:=h.trans' k (fun _ h=> .inl h) (fun _ h=> .inl h)
theorem Ext.mono {S S':List Nat} {a b:World} (h:Ext S a b) (hs: ∀x∈S,x∈S'\/a.heap.size<=x):Ext S' a b:=h.trans' (Ext.refl [] b) hs (by simp)
theorem Ext.nil {a b:World} (h:Ext [] a b):Ext S a b:=h.mono (by simp)
theorem Ext.andThen {a b c:World} (h:Ext S a b) (k:Ext [] b c):Ext S a c:=h.trans k.nil
theorem Ext.drew {a b:World} (h:Ext S a b):Ext S a b.drew:=⟨h.os,h.tape,h.output,h.size,h.block⟩
theorem Ext.drewN {a b:World} (h:Ext S a b) (n:Nat):Ext S a (b.drewN n):=⟨h.os,h.tape,h.output,h.size,h.block⟩
theorem Ext.alloc {a b:World} (h:Ext S a b) (o:Obj):Ext S a (b.alloc o):=
 h.trans ⟨rfl,rfl,rfl,by simp,fun k hk _=> Below.heap_alloc _ _ _ (by omega)⟩
theorem Ext.setCell {a b:World} (h:Ext S a b) {p:Addr} (hp:p.block∈S\/a.heap.size<=p.block) (u:Value):Ext S a (b.setCell p u):=
 ⟨h.os,h.tape,h.output,by simpa using h.size,fun k hk hn=> (Below.heap_setCell _ _ _ _ (fun e=> by subst e;rcases hp with hp | hp;exact hn hp;omega)).trans (h.block k hk hn)⟩
theorem Ext.setRow {a b:World} (h:Ext S a b) (hp:g∈S\/a.heap.size<=g) (cs:Array Value):Ext S a (b.setRow g cs):=
 ⟨h.os,h.tape,h.output,by simpa using h.size,fun k hk hn=> (setRow_other _ _ _ _ (fun e=> by subst e;rcases hp with hp | hp;exact hn hp;omega)).trans (h.block k hk hn)⟩
theorem Ext.below (h:Ext S w w') {B:Nat} (hB:B<=w.heap.size) (hS: ∀x∈S,B<=x):Below B w w':=
 ⟨h.os,h.tape,h.output,h.size,fun k hk=> h.block k (by omega) (fun hm=> by have:=hS k hm;omega)⟩
theorem Ext.toBelow (h:Ext [] w w'):Below w.heap.size w w':=h.below (Nat.le_refl _) (by simp)
theorem Ext.blk (h:Ext S w w') {o:Obj} (hg:w.heap[g]? =some o) (hn:g∉S):w'.heap[g]? =some o:=
 (h.block g (Array.getElem?_eq_some_iff.1 hg).1 hn).trans hg
theorem Ext.cell (h:Ext S w w') {g o:Nat} {v:Value} (hg:w.cell? ⟨g,o,none⟩=some v) (hn:g∉S):w'.cell? ⟨g,o,none⟩=some v:=
 (World.cell?_of_block (w:=w) (h.block g (World.block_lt_of_cell? w ⟨g,o,none⟩ hg) hn)).trans hg
theorem Ext.lt (h:Ext S w w') (hg:g < w.heap.size):g < w'.heap.size:=Nat.lt_of_lt_of_le hg h.size
theorem g_ {o:Obj} (hg:w.heap[g]? =some o):g < w.heap.size:=(Array.getElem?_eq_some_iff.1 hg).1
structure Enc (α:Type) where
 k:Nat
 hk:0 < k
 enc:α->List Value
 len: ∀a,(enc a).length=k
 one: ∀a v,v∈enc a->v.oneCell'=true
namespace Enc
variable {α:Type} (E:Enc α)
def flat (l:List α):List Value:=l.flatMap E.enc
@[simp] theorem flat_nil:E.flat []= []:=rfl
@[simp] theorem flat_cons (a:α) (l:List α):E.flat (a::l)=E.enc a++E.flat l:=rfl
@[simp] theorem flat_append (l m:List α):E.flat (l++m)=E.flat l++E.flat m:=by simp [flat]
theorem length_flat (l:List α):(E.flat l).length=l.length*E.k:=by
 induction l with
 | nil=> simp
 | cons a l ih=> simp [ih,E.len,Nat.add_mul];omega
theorem one_flat (l:List α): ∀v∈E.flat l,v.oneCell'=true:=by
 intro v hv
 simp only [flat,List.mem_flatMap] at hv
 obtain⟨a,_,h⟩:=hv
 exact E.one a v h
theorem flat_take (l:List α) (n:Nat):E.flat (l.take n)=(E.flat l).take (n*E.k):=by
 induction l generalizing n with
 | nil=> simp
 | cons a l ih=>
  cases n with
  | zero=> simp
  | succ n=>
   simp only [List.take_succ_cons,flat_cons,ih]
   have e:(n+1)*E.k=(E.enc a).length+n*E.k:=by rw [E.len,Nat.add_mul];omega
   rw [e,List.take_length_add_append]
theorem flat_drop (l:List α) (n:Nat):E.flat (l.drop n)=(E.flat l).drop (n*E.k):=by
 induction l generalizing n with
 | nil=> simp
 | cons a l ih=>
  cases n with
  | zero=> simp
  | succ n=>
   simp only [List.drop_succ_cons,flat_cons,ih]
   have e:(n+1)*E.k=(E.enc a).length+n*E.k:=by rw [E.len,Nat.add_mul];omega
   rw [e,List.drop_length_add_append]
theorem flat_get (l:List α) (i r:Nat) (hr:r < E.k):(E.flat l)[i*E.k+r]? =(l[i]?).bind (fun a=> (E.enc a)[r]?):=by
 have h:(E.flat l)[i*E.k+r]? =((E.flat l).drop (i*E.k))[r]? :=by rw [List.getElem?_drop]
 rw [h,<-flat_drop]
 cases hi:l[i]? with
 | none=> rw [List.drop_eq_nil_of_le (by simpa using hi)];simp
 | some a=>
  obtain⟨hl,ha⟩:=List.getElem?_eq_some_iff.1 hi
  rw [List.drop_eq_getElem_cons hl,flat_cons,List.getElem?_append_left (by rw [E.len];exact hr),ha];rfl
def Rd (w:World) (v:Value) (xs:List α):Prop:=
 (v= .slice none 0 0/\xs= [])\/ ∃g o cap,v= .slice (some ⟨g,o,none⟩) xs.length cap/\xs.length<=cap/\g < w.heap.size/\
  ∀j u,(E.flat xs)[j]? =some u->w.cell? ⟨g,o+j,none⟩=some u
def Ow (T:TypeId) (w:World) (v:Value) (xs:List α):Prop:=
 (v= .slice none 0 0/\xs= [])\/ ∃g i cap l,v= .slice (some ⟨g,i*E.k,none⟩) xs.length cap/\w.heap[g]? =some (.cells (E.flat l).toArray T (0,0))/\
  xs.length<=cap/\i+cap<=l.length/\(l.drop i).take xs.length=xs
end Enc
def blkL:Value->List Nat
 | .slice (some a) _ _=> [a.block]
 | _=> []
section
variable {α:Type} {E:Enc α} {T:TypeId} {w w':World} {v:Value} {xs:List α}
theorem Enc.Ow.rd (h:E.Ow T w v xs):E.Rd w v xs:=by
 rcases h with h | ⟨g,i,cap,l,rfl,hg,h1,h2,h3⟩
 ·exact .inl h
 ·refine .inr ⟨g,i*E.k,cap,rfl,h1,g_ hg,fun j u hj=> ?_⟩
  rw [cell_of_row w g _ _ T _ hg]
  have hj':j < xs.length*E.k:=by have:=(List.getElem?_eq_some_iff.1 hj).1;rwa [E.length_flat] at this
  rw [<-h3,E.flat_take,E.flat_drop,List.getElem?_take,if_pos hj',List.getElem?_drop] at hj
  simpa using hj
theorem Enc.Rd.ext (h:E.Rd w v xs) (he:Ext S w w') (hn: ∀g∈blkL v,g∉S):E.Rd w' v xs:=by
 rcases h with h | ⟨g,o,cap,rfl,h1,h2,h3⟩
 ·exact .inl h
 ·exact .inr ⟨g,o,cap,rfl,h1,he.lt h2,fun j u hj=> he.cell (h3 j u hj) (hn g (by simp [blkL]))⟩
theorem Enc.Rd.ext0 (h:E.Rd w v xs) (he:Ext [] w w'):E.Rd w' v xs:=h.ext he (by simp)
theorem Enc.Ow.ext (h:E.Ow T w v xs) (he:Ext S w w') (hn: ∀g∈blkL v,g∉S):E.Ow T w' v xs:=by
 rcases h with h | ⟨g,i,cap,l,rfl,hg,h1,h2,h3⟩
 ·exact .inl h
 ·exact .inr ⟨g,i,cap,l,rfl,he.blk hg (hn g (by simp [blkL])),h1,h2,h3⟩
theorem Enc.Ow.ext0 (h:E.Ow T w v xs) (he:Ext [] w w'):E.Ow T w' v xs:=h.ext he (by simp)
theorem Enc.Rd.lt (h:E.Rd w v xs): ∀g∈blkL v,g < w.heap.size:=by
 rcases h with ⟨rfl,_⟩ | ⟨g,o,cap,rfl,_,h2,_⟩ <;> simp_all [blkL]
theorem Enc.Ow.lt (h:E.Ow T w v xs): ∀g∈blkL v,g < w.heap.size:=h.rd.lt
theorem Enc.Ow.tag (h:E.Ow T w v xs): ∀g∈blkL v,∃c,w.heap[g]? =some (.cells c T (0,0)):=by
 rcases h with ⟨rfl,_⟩ | ⟨g,i,cap,l,rfl,hg,_⟩
 ·simp [blkL]
 ·intro x hx;simp [blkL] at hx;subst hx;exact⟨_,hg⟩
theorem Enc.Ow.ne (h:E.Ow T w v xs) {c:Array Value} {T':TypeId} {f:Nat×Nat} (hb:w.heap[b]? =some (.cells c T' f)) (hT:T≠T'): ∀g∈blkL v,g≠b:=by
 rintro g hg rfl
 obtain⟨c',hc⟩:=h.tag g hg
 rw [hb] at hc;simp at hc;exact hT hc.2.1.symm
theorem Enc.Rd.len_eq (h:E.Rd w v xs): ∃p cap,v= .slice p xs.length cap/\xs.length<=cap:=by
 rcases h with ⟨rfl,rfl⟩ | ⟨g,o,cap,rfl,h1,_⟩
 ·exact⟨none,0,rfl,Nat.le_refl _⟩
 ·exact⟨_,cap,rfl,h1⟩
theorem Enc.Rd.cells {g o n cap:Nat} (h:E.Rd w (.slice (some ⟨g,o,none⟩) n cap) xs) (i r:Nat) (hi:i < xs.length) (hr:r < E.k):w.cell? ⟨g,o+i*E.k+r,none⟩=(E.enc xs[i])[r]? :=by
 rcases h with ⟨h,_⟩ | ⟨g',o',cap',h,h1,h2,h3⟩
 ·cases h
 ·cases h
  have hlen:r < (E.enc xs[i]).length:=by rw [E.len];exact hr
  have e:=E.flat_get xs i r hr
  rw [List.getElem?_eq_getElem hi,Option.bind_some,List.getElem?_eq_getElem hlen] at e
  have:=h3 _ _ e
  rw [List.getElem?_eq_getElem hlen,<-this]
  congr 2;omega
structure Ti (P:Program) (E:Enc α) (T:TypeId) (bytes:Nat) (zero:α):Prop where
 row: ∃i z,P.info? T=some i/\i.zero=some z/\i.size=E.k/\i.bytes=bytes/\z.cells.toList=E.enc zero
theorem Ti.mk' {P:Program} {E:Enc α} {bytes:Nat} {zero:α} {z:Value} (h:(P.info? T).map (fun i=> (i.zero,i.size,i.bytes))=some (some z,E.k,bytes)) (hz:z.cells.toList=E.enc zero):Ti P E T bytes zero:=by
 obtain⟨i,h1,h2,h3,h4⟩:=info_parts h
 exact⟨i,z,h1,h2,h3,h4,hz⟩
theorem ak_ (E:Enc α) (zero:α) (z:Array Value) (hz:z.toList=E.enc zero) (n:Nat):(Builtin.zeroCells z n).toList=E.flat (List.replicate n zero):=by
 have hsz:z.size=E.k:=by rw [<-Array.length_toList,hz,E.len]
 apply List.ext_getElem?
 intro j
 by_cases hj:j < n*E.k
 ·have hk:=E.hk
  have hd:j=(j / E.k)*E.k+j % E.k:=by rw [Nat.mul_comm];exact(Nat.div_add_mod j E.k).symm
  have hm:j % E.k < E.k:=Nat.mod_lt _ hk
  have hq:j / E.k < n:=Nat.div_lt_of_lt_mul (by rw [Nat.mul_comm];exact hj)
  have h1:(Builtin.zeroCells z n).toList[j]? =some (z[j % z.size]!):=by
   simp only [Builtin.zeroCells,Array.toList_map,Array.toList_range,List.getElem?_map]
   rw [List.getElem?_range (by rw [hsz];exact hj)];rfl
  rw [h1]
  conv=> rhs;rw [hd]
  rw [E.flat_get _ _ _ hm,List.getElem?_replicate,if_pos hq,Option.bind_some,<-hz,hsz]
  rw [Array.getElem?_toList,getElem!_pos z (j % E.k) (by omega),getElem?_pos z (j % E.k) (by omega)]
 ·rw [List.getElem?_eq_none (by simp [Builtin.zeroCells,hsz];omega),List.getElem?_eq_none (by rw [E.length_flat];simp;omega)]
theorem aB_ (E:Enc α) (l ys:List α) (i:Nat):splice (E.flat l) (i*E.k) (E.flat ys)=E.flat (splice l i ys):=by
 unfold splice
 rw [E.flat_append,E.flat_append,E.flat_take,E.flat_drop,E.length_flat,Nat.add_mul]
theorem cX_ {P:Program} {t t' ty T T':TypeId} (ht:P.underlying t=some (.slice T)) (ht':P.underlying t'=some (.slice T')) (a b:Value) (w:World):
  (Builtin.append_ #[t,t'] ty #[a,b]).run P w=(Builtin.append_ #[t,t] ty #[a,b]).run P w:=by
 cases a <;> simp [Builtin.append_,run_underlying ht,run_underlying ht']
def Near (w:World) (v v':Value):Prop:= ∀g∈blkL v',g∈blkL v\/w.heap.size<=g
theorem eE_ {P:Program} {E:Enc α} {T t t' ty:TypeId} {bytes:Nat} {zero:α} (ti:Ti P E T bytes zero) (ht:P.underlying t=some (.slice T)) {T':TypeId} (ht':P.underlying t'=some (.slice T'))
  {w:World} {v u:Value} {xs ys:List α} (hv:E.Ow T w v xs) (hu:E.Rd w u ys) (hb:(xs.length+ys.length)*bytes<=140737488355328) (h63:xs.length+ys.length<=9223372036854775807):
  ∃v' w',(Builtin.append_ #[t,t'] ty #[v,u]).run P w= .ok v' w'/\E.Ow T w' v' (xs++ys)/\Ext (blkL v) w w'/\Near w v v'/\((xs++ys= []->v'=v)/\(v'= .slice none 0 0->v= .slice none 0 0/\ys= [])):=by
 obtain⟨i,z,hi,hz,hsize,hby,hzz⟩:=ti.row
 rw [cX_ ht ht']
 have hzs:z.cells.size=E.k:=by rw [<-Array.length_toList,hzz,E.len]
 by_cases hy:ys= []
 ·subst hy
  have hrun:(Builtin.append_ #[t,t] ty #[v,u]).run P w= .ok v w:=by
   have hvv:=hv.rd
   rcases hvv with ⟨rfl,rfl⟩ | ⟨g,o,cap,rfl,h1,h2,h3⟩ <;> rcases hu with ⟨rfl,_⟩ | ⟨g',o',cap',rfl,h1',h2',h3'⟩ <;>
    simp [Builtin.append_,run_underlying ht,sizeOf,typeInfo,Builtin.lenOf,Builtin.firstCells,loadCells,loadCellsFrom,storeCells, *]
  exact⟨v,w,hrun,by simpa using hv,Ext.refl _ _,fun g hg=> .inl hg,fun _=> rfl,fun h=> ⟨h,rfl⟩⟩
 ·rcases hu with ⟨_,h⟩ | ⟨g',o',cap',rfl,h1',h2',h3'⟩
  ·exact absurd h hy
  have hy0:0 < ys.length:=by cases ys;exact absurd rfl hy;simp
  have hl:(E.flat ys).length=ys.length*i.size:=by rw [E.length_flat,hsize]
  have hnews: ∀j v,(E.flat ys)[j]? =some v->w.cell? ((⟨g',o',none⟩:Addr).add j)=some v:=by
   intro j v hj
   have:=h3' j v hj
   unfold Addr.add;split
   ·subst_vars;simpa using this
   ·exact this
  have grown: ∀old,old < xs.length+ys.length->
    E.Ow T (w.drew.alloc (.cells ((E.flat xs).toArray++(E.flat ys).toArray++Builtin.zeroCells z.cells (grownCap w (xs.length+ys.length) old T - (xs.length+ys.length))) T))
    (.slice (some ⟨w.heap.size,0,none⟩) (xs.length+ys.length) (grownCap w (xs.length+ys.length) old T)) (xs++ys):=by
   intro old ho
   have hge:=grownCap_ge w (xs.length+ys.length) old T
   refine .inr ⟨w.heap.size,0,grownCap w (xs.length+ys.length) old T,xs++ys++List.replicate (grownCap w (xs.length+ys.length) old T - (xs.length+ys.length)) zero,by simp, ?_,by simpa using hge,by simp;omega, ?_⟩
   ·refine(heap_alloc_new w.drew _).trans ?_
    congr 2
    apply Array.ext'
    simp [ak_ E zero z.cells hzz]
   ·rw [List.drop_zero,List.take_left]
  rcases hv with ⟨rfl,rfl⟩ | ⟨g,q,cap,l,rfl,hg,h1,h2,h3⟩
  ·simp only [List.length_nil,Nat.zero_add] at*
   have hr:=run_append_nil (P:=P) w t ty T i z ht hi hz ⟨g',o',none⟩ ys.length cap' (E.flat ys) hl hnews hy0 (by omega) (by rw [hby];omega)
   refine⟨_,_,hr, ?_, ?_, ?_,by simp [hy],by simp⟩
   ·have:=grown 0 hy0;simpa using this
   ·exact(Ext.refl _ _).drew.alloc _
   ·intro x hx;simp [blkL] at hx;right;omega
  ·have hnc:(xs.length+ys.length<=cap)\/cap < xs.length+ys.length:=by omega
   rcases hnc with hroom | hroom
   ·have hfit:(q+xs.length)*E.k+(E.flat ys).length<=(E.flat l).toArray.size:=by
     simp only [List.size_toArray,E.length_flat];rw [<-Nat.add_mul];exact Nat.mul_le_mul_right _ (by omega)
    have hst:=run_storeCells_at P g (q*E.k+xs.length*E.k) T (E.flat ys) 0 (E.flat l).toArray w hg (by rw [Nat.add_mul] at hfit;simpa using hfit) (E.one_flat ys)
    have hf:=run_firstCells_some (P:=P) w i.size ys.length ⟨g',o',none⟩ ys.length cap' (E.flat ys) hl hnews
    have hrun:(Builtin.append_ #[t,t] ty #[.slice (some ⟨g,q*E.k,none⟩) xs.length cap,.slice (some ⟨g',o',none⟩) ys.length cap']).run P w=
      .ok (.slice (some ⟨g,q*E.k,none⟩) (xs.length+ys.length) cap) (w.setRow g (splice (E.flat l) ((q+xs.length)*E.k) (E.flat ys)).toArray):=by
     have e:(q+xs.length)*E.k=q*E.k+xs.length*E.k:=Nat.add_mul _ _ _
     simp only [Nat.add_zero] at hst
     rw [hsize] at hf
     simp [Builtin.append_,run_underlying ht,sizeOf,typeInfo,hi,Builtin.lenOf,hroom,hf,Addr.add_lit,hst,hsize,e,splice]
    refine⟨_,_,hrun, ?_,(Ext.refl _ _).setRow (.inl (by simp [blkL])) _,fun g hg=> .inl (by simpa [blkL] using hg),by simp [hy],by simp⟩
    refine .inr ⟨g,q,cap,splice l (q+xs.length) ys,by simp, ?_,by simpa using hroom, ?_, ?_⟩
    ·rw [setRow_heap w g _ _ T _ hg,aB_]
    ·rw [length_splice _ _ _ (by omega)];exact h2
    ·simp only [splice,List.length_append]
     rw [List.drop_append_of_le_length (by simp;omega),List.drop_take,show q+xs.length - q=xs.length from by omega,h3]
     rw [<-List.append_assoc,List.take_append_of_le_length (by simp),List.take_of_length_le (by simp)]
   ·have hrd:E.Rd w (.slice (some ⟨g,q*E.k,none⟩) xs.length cap) xs:=Enc.Ow.rd (T:=T) (.inr ⟨g,q,cap,l,rfl,hg,h1,h2,h3⟩)
    rcases hrd with ⟨h,_⟩ | ⟨g2,o2,cap2,h,_,_,h5⟩
    ·cases h
    cases h
    have holds: ∀j v,(E.flat xs)[j]? =some v->w.cell? ((⟨g,q*E.k,none⟩:Addr).add j)=some v:=by
     intro j v hj
     have:=h5 j v hj
     unfold Addr.add;split
     ·subst_vars;simpa using this
     ·exact this
    have hr:=run_append_grow (P:=P) w t ty T i z ht hi hz ⟨g,q*E.k,none⟩ xs.length cap (E.flat xs) (by rw [E.length_flat,hsize]) holds ⟨g',o',none⟩ ys.length cap' (E.flat ys) hl hnews hroom (by omega) (growslice_fits hroom (by rw [hby];exact hb))
    refine⟨_,_,hr,grown cap hroom,(Ext.refl _ _).drew.alloc _, ?_,by simp [hy],by simp⟩
    intro x hx;simp [blkL] at hx;right;omega
end
def Hold (p:Prop):Prop:=p
theorem f_ {P:Program} {ops:Array Oper} {Q:Exit->Act->World->Prop} {rest:List Oper} {a:Act} {d:Nat} {op:Op} {ty:TypeId} {pos:String} {af:Array Edge} {g:Option (Nat×Bool)}
  (h:Hold (wpList P ops Q (⟨some d,op,ty,pos,af,g⟩::rest) a w)):wpList P ops Q (⟨some d,op,ty,pos,af,g⟩::rest) a w:=h
theorem P_ {P:Program} {ops:Array Oper} {Q:Exit->Act->World->Prop} {rest:List Oper} {a:Act} {d:Option Nat} {args:Array Operand} {ts:Array TypeId} {ty:TypeId} {pos:String} {af:Array Edge} {g:Option (Nat×Bool)}
  (h:Hold (wpList P ops Q (⟨d,.call ⟨.builtin .clear,args,ts⟩,ty,pos,af,g⟩::rest) a w)):wpList P ops Q (⟨d,.call ⟨.builtin .clear,args,ts⟩,ty,pos,af,g⟩::rest) a w:=h
section rules
variable {P:Program} {ops:Array Oper} {Q:Exit->Act->World->Prop} {a:Act} {w:World} {rest:List Oper} {o:Oper} {K:Act->World->Prop} {α:Type} {E:Enc α} {T t t' T':TypeId} {bytes:Nat} {zero:α}
theorem k_ (hgd:o.guard=none) (h: ∀K:Act->World->Prop,(∀a w,wpList P ops Q rest a w->K a w)->o.wp P a w K Q):Hold (wpList P ops Q (o::rest) a w):=wpList_plain hgd h
theorem b_ (ti:Ti P E T bytes zero) (ht:P.underlying t=some (.slice T)) (ht':P.underlying t'=some (.slice T'))
  {s x:Operand} (ho:o.op= .call {callee:= .builtin .append,args:=#[s,x],argTypes:=#[t,t']})
  {v u:Value} {xs ys:List α} (hs:a.eval s=v) (hx:a.eval x=u) (hv:E.Ow T w v xs) (hu:E.Rd w u ys) (hb:(xs.length+ys.length)*bytes<=140737488355328) (h63:xs.length+ys.length<=9223372036854775807)
  (h: ∀v' w',E.Ow T w' v' (xs++ys)->Ext (blkL v) w w'->Near w v v'->((xs++ys= []->v'=v)/\(v'= .slice none 0 0->v= .slice none 0 0/\ys= []))->K (a.put o.dst v') w'):o.wp P a w K Q:=by
 obtain⟨v',w',hr,h2,h3,h4,h5⟩:=eE_ (ty:=o.type) ti ht ht' hv hu hb h63
 unfold Oper.wp execOp
 simp only [ho,resolve,invoke,builtin,Sem.run_bind,Sem.run_pure,Result.andThen_ok,List.map_toArray,List.map_cons,List.map_nil,hs,hx,hr]
 exact h v' w' h2 h3 h4 h5
theorem dQ_ {ty:TypeId} (ti:Ti P E T bytes zero) (ht:P.underlying t=some (.slice T)) (ht':P.underlying t'=some (.slice T'))
  {u:Value} {g q n cap:Nat} {l ys:List α} (hg:w.heap[g]? =some (.cells (E.flat l).toArray T (0,0))) (hu:E.Rd w u ys) (hroom:n+ys.length<=cap) (hq:q+cap<=l.length):
  (Builtin.append_ #[t,t'] ty #[.slice (some ⟨g,q*E.k,none⟩) n cap,u]).run P w= .ok (.slice (some ⟨g,q*E.k,none⟩) (n+ys.length) cap) (w.setRow g (E.flat (splice l (q+n) ys)).toArray):=by
 obtain⟨i,z,hi,hz,hsize,hby,hzz⟩:=ti.row
 rw [cX_ ht ht']
 rcases hu with ⟨rfl,rfl⟩ | ⟨g',o',cap',rfl,h1',h2',h3'⟩
 ·have e:splice l (q+n) ([]:List α)=l:=by simp [splice]
  rw [e,setRow_self w g _ T _ hg]
  simp only [List.length_nil,Nat.add_zero] at hroom
  simp [Builtin.append_,run_underlying ht,sizeOf,typeInfo,hi,Builtin.lenOf,Builtin.firstCells,storeCells,hroom]
 ·have hl:(E.flat ys).length=ys.length*i.size:=by rw [E.length_flat,hsize]
  have hnews: ∀j v,(E.flat ys)[j]? =some v->w.cell? ((⟨g',o',none⟩:Addr).add j)=some v:=by
   intro j v hj
   have:=h3' j v hj
   unfold Addr.add;split
   ·subst_vars;simpa using this
   ·exact this
  have hst:=run_storeCells_at P g (q*E.k+n*E.k) T (E.flat ys) 0 (E.flat l).toArray w hg (by simp only [List.size_toArray,E.length_flat,Nat.add_zero,<-Nat.add_mul];exact Nat.mul_le_mul_right _ (by omega)) (E.one_flat ys)
  have hf:=run_firstCells_some (P:=P) w i.size ys.length ⟨g',o',none⟩ ys.length cap' (E.flat ys) hl hnews
  have e:(q+n)*E.k=q*E.k+n*E.k:=Nat.add_mul _ _ _
  simp only [Nat.add_zero] at hst
  rw [hsize] at hf
  rw [<-aB_]
  simp [Builtin.append_,run_underlying ht,sizeOf,typeInfo,hi,Builtin.lenOf,hroom,hf,Addr.add_lit,hst,hsize,e,splice]
theorem H_ (ti:Ti P E T bytes zero) (ht:P.underlying t=some (.slice T)) (ht':P.underlying t'=some (.slice T'))
  {s x:Operand} (ho:o.op= .call {callee:= .builtin .append,args:=#[s,x],argTypes:=#[t,t']})
  {u:Value} {g q n cap:Nat} {l ys:List α} (hs:a.eval s= .slice (some ⟨g,q*E.k,none⟩) n cap) (hx:a.eval x=u) (hg:w.heap[g]? =some (.cells (E.flat l).toArray T (0,0))) (hu:E.Rd w u ys) (hroom:n+ys.length<=cap) (hq:q+cap<=l.length)
  (h: ∀w',w'.heap[g]? =some (.cells (E.flat (splice l (q+n) ys)).toArray T (0,0))->Ext [g] w w'->K (a.put o.dst (.slice (some ⟨g,q*E.k,none⟩) (n+ys.length) cap)) w'):o.wp P a w K Q:=by
 have hr:=dQ_ (ty:=o.type) ti ht ht' (n:=n) hg hu hroom hq
 unfold Oper.wp execOp
 simp only [ho,resolve,invoke,builtin,Sem.run_bind,Sem.run_pure,Result.andThen_ok,List.map_toArray,List.map_cons,List.map_nil,hs,hx,hr]
 exact h _ (setRow_heap w g _ _ T _ hg) ((Ext.refl _ _).setRow (.inl (by simp)) _)
theorem du_ {ty:TypeId} (ti:Ti P E T bytes zero) (ht:P.underlying t=some (.slice T)) (ht':P.underlying t'=some (.int .i64))
  {v:Value} {xs:List α} {n:Nat} (hv:E.Ow T w v xs) (hb:(xs.length+n)*bytes<=140737488355328) (h63:xs.length+n<=9223372036854775807):
  ∃v' w',(Builtin.append_ #[t,t'] ty #[v,.int .i64 n]).run P w= .ok v' w'/\E.Ow T w' v' (xs++List.replicate n zero)/\Ext (blkL v) w w'/\Near w v v'/\
   (∀p c,v= .slice p xs.length c->c < xs.length+n->Ext [] w w'/\ ∀g∈blkL v',w.heap.size<=g):=by
 obtain⟨i,z,hi,hz,hsize,hby,hzz⟩:=ti.row
 have hw:IntKind.i64.wrap (n:Int)=n:=by rw [IntKind.wrap_i64];omega
 have hnb:n*bytes<=140737488355328:=Nat.le_trans (Nat.mul_le_mul_right _ (by omega)) hb
 have hnb': ¬(281474976710656 < (n:Int)*(i.bytes:Int)):=by rw [hby,<-Int.natCast_mul];omega
 have h0n: ¬((n:Int) < 0):=by omega
 by_cases hn:n=0
 ·subst hn
  have hrun:(Builtin.append_ #[t,t'] ty #[v,.int .i64 (0:Nat)]).run P w= .ok v w:=by
   have hw0:IntKind.i64.wrap 0=0:=by rw [IntKind.wrap_i64];omega
   have hvv:=hv.rd
   rcases hvv with ⟨rfl,rfl⟩ | ⟨g,o,cap,rfl,h1,h2,h3⟩ <;>
    simp [Builtin.append_,run_underlying ht,run_underlying ht',sizeOf,typeInfo,asInt,asIntOf,storeCells, *]
  refine⟨v,w,hrun,by simpa using hv,Ext.refl _ _,fun g hg=> .inl hg, ?_⟩
  rintro p c rfl hc
  obtain⟨p',c',e,hle⟩:=hv.rd.len_eq
  cases e;omega
 ·have hnk: ¬(n*E.k=0):=by have:=E.hk;simp only [Nat.mul_eq_zero];omega
  have hzc:(Builtin.zeroCells z.cells n)=(E.flat (List.replicate n zero)).toArray:=by apply Array.ext';rw [ak_ E zero z.cells hzz]
  have grown: ∀old,old < xs.length+n->
    E.Ow T (w.drew.alloc (.cells ((E.flat xs).toArray++(E.flat (List.replicate n zero)).toArray++Builtin.zeroCells z.cells (grownCap w (xs.length+n) old T - (xs.length+n))) T))
    (.slice (some ⟨w.heap.size,0,none⟩) (xs.length+n) (grownCap w (xs.length+n) old T)) (xs++List.replicate n zero):=by
   intro old ho
   have hge:=grownCap_ge w (xs.length+n) old T
   refine .inr ⟨w.heap.size,0,grownCap w (xs.length+n) old T,xs++List.replicate n zero++List.replicate (grownCap w (xs.length+n) old T - (xs.length+n)) zero,by simp, ?_,by simpa using hge,by simp;omega, ?_⟩
   ·refine(heap_alloc_new w.drew _).trans ?_
    congr 2
    apply Array.ext'
    simp only [Array.toList_append,ak_ E zero z.cells hzz,E.flat_append,List.append_assoc]
   ·rw [List.drop_zero,List.take_left]
  have h63': ¬(9223372036854775807 < ((xs.length:Int)+(n:Int))):=by omega
  rcases hv with ⟨rfl,rfl⟩ | ⟨g,q,cap,l,rfl,hg,h1,h2,h3⟩
  ·have h48: ¬(281474976710656 < Builtin.nextslicecap n 0*i.bytes):=by rw [nextslicecap_zero (by omega),hby];omega
   have hrun:(Builtin.append_ #[t,t'] ty #[.slice none 0 0,.int .i64 n]).run P w= .ok (.slice (some ⟨w.heap.size,0,none⟩) n (grownCap w n 0 T))
     (w.drew.alloc (.cells ((E.flat (List.replicate n zero)).toArray++Builtin.zeroCells z.cells (grownCap w n 0 T - n)) T)):=by
    simp at h63'
    simp [Builtin.append_,run_underlying ht,run_underlying ht',sizeOf,typeInfo,hi,asInt,asIntOf,hw,hnb',h0n,hn,hsize,hnk,h48,Question.forced,zeroValue,hz,hzc,newRow,grownCap,run_firstCells_none]
    omega
   refine⟨_,_,hrun, ?_,(Ext.refl _ _).drew.alloc _, ?_, ?_⟩
   ·have:=grown 0 (by simp;omega);simpa using this
   ·intro x hx;simp [blkL] at hx;right;omega
   ·exact fun p c _ _=> ⟨(Ext.refl _ _).drew.alloc _,fun x hx=> by simp [blkL] at hx;omega⟩
  ·have hnc:(xs.length+n<=cap)\/cap < xs.length+n:=by omega
   rcases hnc with hroom | hroom
   ·have hfit:(q+xs.length)*E.k+(E.flat (List.replicate n zero)).length<=(E.flat l).toArray.size:=by
     simp only [List.size_toArray,E.length_flat,List.length_replicate];rw [<-Nat.add_mul];exact Nat.mul_le_mul_right _ (by omega)
    have hst:=run_storeCells_at P g (q*E.k+xs.length*E.k) T (E.flat (List.replicate n zero)) 0 (E.flat l).toArray w hg (by rw [Nat.add_mul] at hfit;simpa using hfit) (E.one_flat _)
    have e:(q+xs.length)*E.k=q*E.k+xs.length*E.k:=Nat.add_mul _ _ _
    simp only [Nat.add_zero] at hst
    have hrun:(Builtin.append_ #[t,t'] ty #[.slice (some ⟨g,q*E.k,none⟩) xs.length cap,.int .i64 n]).run P w=
      .ok (.slice (some ⟨g,q*E.k,none⟩) (xs.length+n) cap) (w.setRow g (splice (E.flat l) ((q+xs.length)*E.k) (E.flat (List.replicate n zero))).toArray):=by
     simp [Builtin.append_,run_underlying ht,run_underlying ht',sizeOf,typeInfo,hi,asInt,asIntOf,hw,hnb',h0n,hsize,hnk,hroom,zeroValue,hz,hzc,Addr.add_lit,hst,e,splice]
    refine⟨_,_,hrun, ?_,(Ext.refl _ _).setRow (.inl (by simp [blkL])) _,fun g hg=> .inl (by simpa [blkL] using hg), ?_⟩
    ·refine .inr ⟨g,q,cap,splice l (q+xs.length) (List.replicate n zero),by simp, ?_,by simpa using hroom, ?_, ?_⟩
     ·rw [setRow_heap w g _ _ T _ hg,aB_]
     ·rw [length_splice _ _ _ (by simp;omega)];exact h2
     ·simp only [splice,List.length_append]
      rw [List.drop_append_of_le_length (by simp;omega),List.drop_take,show q+xs.length - q=xs.length from by omega,h3]
      rw [<-List.append_assoc,List.take_append_of_le_length (by simp),List.take_of_length_le (by simp)]
    ·intro p c hv hc;cases hv;omega
   ·have hrd:E.Rd w (.slice (some ⟨g,q*E.k,none⟩) xs.length cap) xs:=Enc.Ow.rd (T:=T) (.inr ⟨g,q,cap,l,rfl,hg,h1,h2,h3⟩)
    rcases hrd with ⟨h,_⟩ | ⟨g2,o2,cap2,h,_,_,h5⟩
    ·cases h
    cases h
    have holds: ∀j v,(E.flat xs)[j]? =some v->w.cell? ((⟨g,q*E.k,none⟩:Addr).add j)=some v:=by
     intro j v hj
     have:=h5 j v hj
     unfold Addr.add;split
     ·subst_vars;simpa using this
     ·exact this
    have hn': ¬(xs.length+n<=cap):=by omega
    have h48: ¬(281474976710656 < Builtin.nextslicecap (xs.length+n) cap*i.bytes):=by have:=growslice_fits (bytes:=i.bytes) hroom (by rw [hby];exact hb);omega
    have hfo:=run_firstCells_some (P:=P) w.drew E.k xs.length ⟨g,q*E.k,none⟩ xs.length cap (E.flat xs) (E.length_flat xs) (by simpa using holds)
    have hrun:(Builtin.append_ #[t,t'] ty #[.slice (some ⟨g,q*E.k,none⟩) xs.length cap,.int .i64 n]).run P w= .ok (.slice (some ⟨w.heap.size,0,none⟩) (xs.length+n) (grownCap w (xs.length+n) cap T))
      (w.drew.alloc (.cells ((E.flat xs).toArray++(E.flat (List.replicate n zero)).toArray++Builtin.zeroCells z.cells (grownCap w (xs.length+n) cap T - (xs.length+n))) T)):=by
     simp [Builtin.append_,run_underlying ht,run_underlying ht',sizeOf,typeInfo,hi,asInt,asIntOf,hw,hnb',h0n,hn',hsize,hnk,h48,Question.forced,zeroValue,hz,hzc,newRow,grownCap,hfo]
     rw [if_neg h63']
     congr 3
     apply Array.ext'
     simp only [Array.toList_append,List.append_assoc]
    refine⟨_,_,hrun,grown cap hroom,(Ext.refl _ _).drew.alloc _, ?_, ?_⟩
    ·intro x hx;simp [blkL] at hx;right;omega
    ·exact fun p c _ _=> ⟨(Ext.refl _ _).drew.alloc _,fun x hx=> by simp [blkL] at hx;omega⟩
theorem L_ (ti:Ti P E T bytes zero) (ht:P.underlying t=some (.slice T)) (ht':P.underlying t'=some (.int .i64))
  {s x:Operand} (ho:o.op= .call {callee:= .builtin .append,args:=#[s,x],argTypes:=#[t,t']})
  {v:Value} {xs:List α} {n:Nat} (hs:a.eval s=v) (hx:a.eval x= .int .i64 n) (hv:E.Ow T w v xs) (hb:(xs.length+n)*bytes<=140737488355328) (h63:xs.length+n<=9223372036854775807)
  (h: ∀v' w',E.Ow T w' v' (xs++List.replicate n zero)->Ext (blkL v) w w'->Near w v v'->(∀p c,v= .slice p xs.length c->c < xs.length+n->Ext [] w w'/\ ∀g∈blkL v',w.heap.size<=g)->K (a.put o.dst v') w'):o.wp P a w K Q:=by
 obtain⟨v',w',hr,h2,h3,h4,h5⟩:=du_ (ty:=o.type) ti ht ht' hv hb h63
 unfold Oper.wp execOp
 simp only [ho,resolve,invoke,builtin,Sem.run_bind,Sem.run_pure,Result.andThen_ok,List.map_toArray,List.map_cons,List.map_nil,hs,hx,hr]
 exact h v' w' h2 h3 h4 h5
theorem gE_ {dT sT ty:TypeId} (hu:P.underlying dT=some (.slice T')) (hi:(P.info? T').map (·.size)=some E.k)
  {dp sp:Option Addr} {dLen dCap sLen sCap g q:Nat} {l ys:List α} (hg:w.heap[g]? =some (.cells (E.flat l).toArray T (0,0))) (hn:ys.length=min sLen dLen)
  (hpos:0 < ys.length->dp=some ⟨g,q*E.k,none⟩/\ ∃g' o',sp=some ⟨g',o',none⟩/\ ∀j u,(E.flat ys)[j]? =some u->w.cell? ⟨g',o'+j,none⟩=some u) (hfit:q+ys.length<=l.length):
  (Builtin.copy_ #[dT,sT] ty #[.slice dp dLen dCap,.slice sp sLen sCap]).run P w= .ok (goInt ys.length) (w.setRow g (E.flat (splice l q ys)).toArray):=by
 have hsz:(sizeOf T').run P w= .ok E.k w:=by
  cases hq:P.info? T' with
  | none=> simp [hq] at hi
  | some i=> simp [hq] at hi;simp [sizeOf,typeInfo,hq,hi]
 by_cases h0:ys.length=0
 ·obtain rfl:ys= []:=List.eq_nil_of_length_eq_zero h0
  have e:splice l q ([]:List α)=l:=by simp [splice]
  rw [e,setRow_self w g _ T _ hg]
  have hm:min sLen dLen=0:=by simpa using hn.symm
  cases dp <;> cases sp <;> simp [Builtin.copy_,run_underlying hu,Builtin.lenOf,Builtin.firstCells,hsz,hm,loadCells,loadCellsFrom,storeCells]
 ·obtain⟨rfl,g',o',rfl,hsrc⟩:=hpos (by omega)
  have hm:min sLen dLen=ys.length:=hn.symm
  have hsrc': ∀j v,(E.flat ys)[j]? =some v->w.cell? ((⟨g',o',none⟩:Addr).add j)=some v:=by
   intro j v hj
   have:=hsrc j v hj
   unfold Addr.add;split
   ·subst_vars;simpa using this
   ·exact this
  have hf:=run_firstCells_some (P:=P) w E.k ys.length ⟨g',o',none⟩ sLen sCap (E.flat ys) (E.length_flat ys) hsrc'
  have hst:=run_storeCells_at P g (q*E.k) T (E.flat ys) 0 (E.flat l).toArray w hg (by simp only [List.size_toArray,E.length_flat,Nat.add_zero,<-Nat.add_mul];exact Nat.mul_le_mul_right _ hfit) (E.one_flat ys)
  simp only [Nat.add_zero] at hst
  rw [<-aB_]
  simp [Builtin.copy_,run_underlying hu,Builtin.lenOf,hsz,hm,hf,hst,splice]
theorem N_ {dT sT:TypeId} (hu:P.underlying dT=some (.slice T')) (hi:(P.info? T').map (·.size)=some E.k)
  {s x:Operand} (ho:o.op= .call {callee:= .builtin .copy,args:=#[s,x],argTypes:=#[dT,sT]})
  {dp sp:Option Addr} {dLen dCap sLen sCap g q:Nat} {l ys:List α} (hs:a.eval s= .slice dp dLen dCap) (hx:a.eval x= .slice sp sLen sCap) (hg:w.heap[g]? =some (.cells (E.flat l).toArray T (0,0))) (hn:ys.length=min sLen dLen)
  (hpos:0 < ys.length->dp=some ⟨g,q*E.k,none⟩/\ ∃g' o',sp=some ⟨g',o',none⟩/\ ∀j u,(E.flat ys)[j]? =some u->w.cell? ⟨g',o'+j,none⟩=some u) (hfit:q+ys.length<=l.length)
  (h: ∀w',w'.heap[g]? =some (.cells (E.flat (splice l q ys)).toArray T (0,0))->Ext [g] w w'->K (a.put o.dst (goInt ys.length)) w'):o.wp P a w K Q:=by
 have hr:=gE_ (ty:=o.type) (sT:=sT) (dCap:=dCap) (sCap:=sCap) hu hi hg hn hpos hfit
 unfold Oper.wp execOp
 simp only [ho,resolve,invoke,builtin,Sem.run_bind,Sem.run_pure,Result.andThen_ok,List.map_toArray,List.map_cons,List.map_nil,hs,hx,hr]
 exact h _ (setRow_heap w g _ _ T _ hg) ((Ext.refl _ _).setRow (.inl (by simp)) _)
theorem Z_ (ti:Ti P E T bytes zero) (ht:P.underlying t=some (.slice T))
  {s:Operand} (ho:o.op= .call {callee:= .builtin .clear,args:=#[s],argTypes:=#[t]})
  {dp:Option Addr} {n dCap g q:Nat} {l:List α} (hs:a.eval s= .slice dp n dCap) (hg:w.heap[g]? =some (.cells (E.flat l).toArray T (0,0)))
  (hpos:0 < n->dp=some ⟨g,q*E.k,none⟩) (hfit:q+n<=l.length)
  (h: ∀w',w'.heap[g]? =some (.cells (E.flat (splice l q (List.replicate n zero))).toArray T (0,0))->Ext [g] w w'->K (a.put o.dst (.tuple #[])) w'):o.wp P a w K Q:=by
 obtain⟨i,z,hi,hz,hsize,hby,hzz⟩:=ti.row
 have hr:(Builtin.clear_ #[t] o.type #[.slice dp n dCap]).run P w= .ok (.tuple #[]) (w.setRow g (E.flat (splice l q (List.replicate n zero))).toArray):=by
  by_cases h0:n=0
  ·subst h0
   have e:splice l q (List.replicate 0 zero)=l:=by simp [splice]
   rw [e,setRow_self w g _ T _ hg]
   cases dp <;> simp [Builtin.clear_,run_underlying ht]
  ·obtain rfl:=hpos (by omega)
   have hst:=run_storeCells_at P g (q*E.k) T (E.flat (List.replicate n zero)) 0 (E.flat l).toArray w hg (by simp only [List.size_toArray,E.length_flat,Nat.add_zero,<-Nat.add_mul,List.length_replicate];exact Nat.mul_le_mul_right _ hfit) (E.one_flat _)
   simp only [Nat.add_zero] at hst
   obtain⟨m,rfl⟩: ∃m,n=m+1:=⟨n - 1,by omega⟩
   rw [<-aB_]
   simp [Builtin.clear_,run_underlying ht,zeroValue,typeInfo,hi,hz,ak_ E zero z.cells hzz,hst,splice]
 unfold Oper.wp execOp
 simp only [ho,resolve,invoke,builtin,Sem.run_bind,Sem.run_pure,Result.andThen_ok,List.map_toArray,List.map_cons,List.map_nil,hs,hr]
 exact h _ (setRow_heap w g _ _ T _ hg) ((Ext.refl _ _).setRow (.inl (by simp)) _)
end rules
abbrev Rng:=Int×Int
def ER:Enc Rng:=⟨2,by decide,fun r=> [.int .i64 r.1,.int .i64 r.2],fun _=> rfl,fun _ v hv=> by simp at hv;rcases hv with rfl | rfl <;> rfl⟩
@[simp] theorem ER_k:ER.k=2:=rfl
@[simp] theorem ER_enc (r:Rng):ER.enc r= [.int .i64 r.1,.int .i64 r.2]:=rfl
theorem tiR:Ti Tryz.prog ER 165 16 (0,0):=Ti.mk' (z:= .agg #[.int .i64 0,.int .i64 0]) (by kernel_rfl) rfl
theorem E_ {g o n cap:Nat} {s:List Rng} (h:ER.Rd w (.slice (some ⟨g,o,none⟩) n cap) s) (i:Nat) (hi:i < s.length):
  w.cell? ⟨g,o+i*2,none⟩=some (.int .i64 (s.getD i (0,0)).1)/\w.cell? ⟨g,o+i*2+1,none⟩=some (.int .i64 (s.getD i (0,0)).2):=by
 have e:s.getD i (0,0)=s[i]:=by simp [List.getD,hi]
 rw [e]
 exact⟨h.cells i 0 hi (by simp),h.cells i 1 hi (by simp)⟩
theorem eT_ (a:Int) (w:World):Calls Tryz.prog 194 #[.int .i64 a] w fun e w'=> e= .returned (.bool false)/\w=w':=by
 go_enter Tryz.func194,Tryz.ntmps194
 go_wp2
 go_ret
 simp
def cmpI (a b:Int):Int:=if a < b then -1 else if b < a then 1 else 0
theorem cmp_c (a b:Int) (w:World):Calls Tryz.prog 156 #[.int .i64 a,.int .i64 b] w fun e w'=> e= .returned (.int .i64 (cmpI a b))/\w=w':=by
 unfold cmpI
 by_cases h1:a < b
 ·rw [if_pos h1]
  go_enter Tryz.func156,Tryz.ntmps156
  go_wp2_with (go_at_call 194;refine(eT_ _ _).mono ?_;rintro e w' ⟨rfl,rfl⟩)
  all_goals (go_ret;simp)
 ·rw [if_neg h1]
  by_cases h2:b < a
  ·rw [if_pos h2]
   go_enter Tryz.func156,Tryz.ntmps156
   go_wp2_with (go_at_call 194;refine(eT_ _ _).mono ?_;rintro e w' ⟨rfl,rfl⟩)
   all_goals (go_ret;simp)
  ·rw [if_neg h2]
   go_enter Tryz.func156,Tryz.ntmps156
   go_wp2_with (go_at_call 194;refine(eT_ _ _).mono ?_;rintro e w' ⟨rfl,rfl⟩)
   all_goals (go_ret;simp)
theorem at1_c (f t c:Int) (w:World) (hc:0<=c) (hc':c<=100000):
  Calls Tryz.prog 155 #[.agg #[.int .i64 f,.int .i64 t],.int .i64 c] w fun e w'=> e= .returned (.int .i64 (cmpI t (c+1)))/\Ext [] w w':=by
 go_enter Tryz.func155,Tryz.ntmps155
 go_wp2_with (go_at_call 156;refine(cmp_c _ _ _).mono ?_;rintro e w' ⟨rfl,rfl⟩)
 go_ret
 exact⟨rfl,(Ext.refl _ _).alloc _⟩
def Cut (s:List Rng) (c:Int) (k:Nat):Prop:=k<=s.length/\(∀i,i < k->(s.getD i (0,0)).2<=c)/\(∀i,k<=i->i < s.length->c < (s.getD i (0,0)).2)
def Srt (s:List Rng):Prop:= ∀i j,i < j->j < s.length->(s.getD i (0,0)).2<=(s.getD j (0,0)).2
def BsfPost (s:List Rng) (c:Int) (w:World) (e:Ending) (w':World):Prop:= ∃(k:Nat) (b:Bool),e= .returned (.tuple #[.int .i64 k,.bool b])/\Cut s c k/\Ext [] w w'
theorem bsf_c (v:Value) (s:List Rng) (c:Int) (w:World) (hc:0<=c) (hc':c<=100000) (hl:s.length<=1000000) (hv:ER.Rd w v s) (hs:Srt s):
  Calls Tryz.prog 154 #[v,.int .i64 c,.func (.func 155) #[] #[]] w (BsfPost s c w):=by
 have HS:=hi_ hs
 clear hs
 have hv0:=hi_ hv
 rcases hv with ⟨rfl,rfl⟩ | ⟨g,o,cap,rfl,h1,hg,_⟩
 ·go_enter Tryz.func154,Tryz.ntmps154
  go_wp2
  go_loopw [9,10,11] (fun lo hi _ wr=> lo= .int .i64 0/\hi= .int .i64 0/\wr=w) (fun _ _ _ _=> 0)
  case atStart=> exact⟨rfl,rfl,rfl⟩
  case round=>
   obtain⟨rfl,rfl,rfl⟩:=hrel
   go_wp2
   go_ret2
   exact⟨0,_,rfl,⟨Nat.le_refl _,fun i h=> by omega,fun i _ h=> by simp at h⟩,Ext.refl _ _⟩
 ·go_enter Tryz.func154,Tryz.ntmps154
  go_wp2
  go_loopw [9,10,11] (fun lo hi _ wr=> ∃a b:Nat,lo= .int .i64 a/\hi= .int .i64 b/\a<=b/\b<=s.length/\Hid (∀i,i < a->(s.getD i (0,0)).2<=c)/\Hid (∀i,b<=i->i < s.length->c < (s.getD i (0,0)).2)/\Ext [] w wr)
   (fun lo hi _ _=> (intOf hi).toNat - (intOf lo).toNat)
  case atStart=> exact⟨0,s.length,rfl,rfl,Nat.zero_le _,Nat.le_refl _,fun i h=> by omega,fun i h1 h2=> by omega,Ext.refl _ _⟩
  case round=>
   obtain⟨a,b,rfl,rfl,hab,hbn,h1,h2,hB⟩:=hrel
   have hv1:=hv0.out.ext0 hB
   by_cases hlt:a < b
   ·obtain⟨hm1,hm2⟩:=E_ hv1 ((a+b)/2) (by omega)
    obtain⟨x,hx⟩: ∃x,x=s.getD ((a+b)/2) (0,0):=⟨_,rfl⟩
    rw [<-hx] at hm1 hm2
    have HX:=hi_ hx
    clear hx
    go_wp2_with fail
    refine(at1_c _ _ _ _ hc hc').mono ?_
    rintro e w1 ⟨rfl,hB1⟩
    unfold cmpI
    have hB2:=hB.trans hB1
    clear hB hB1 hm1 hm2 hv1
    by_cases hx2:x.2 < c+1
    ·rw [if_pos hx2]
     go_wp2
     go_roundw
     case rel=> exact⟨(a+b)/2+1,b,by go_num,rfl,by omega,hbn,fun i hi=> by
       have e:=HX.out
       by_cases hi':i=(a+b)/2
       ·subst hi';rw [<-e];omega
       ·have:=HS.out i ((a+b)/2) (by omega) (by omega);rw [<-e] at this;omega,h2,hB2⟩
     case measure=> simp [intOf];omega
    ·rw [if_neg hx2]
     have hx3:c < x.2:=by omega
     by_cases hx4:c+1 < x.2
     all_goals
      go_wp2
      go_roundw
      case rel=> exact⟨a,(a+b)/2,rfl,by go_num,by omega,by omega,h1,fun i hi hi2=> by
        have e:=HX.out
        by_cases hi':i=(a+b)/2
        ·subst hi';rw [<-e];omega
        ·have:=HS.out ((a+b)/2) i (by omega) (by omega);rw [<-e] at this;omega,hB2⟩
      case measure=> simp [intOf];omega
   ·have hab':a=b:=by omega
    subst hab'
    by_cases hal:a < s.length
    ·obtain⟨hm1,hm2⟩:=E_ hv1 a hal
     go_wp2_with fail
     refine(at1_c _ _ _ _ hc hc').mono ?_
     rintro e w1 ⟨rfl,hB1⟩
     have hB2:=hB.trans hB1
     clear hB hB1 hm1 hm2 hv1
     go_wp2
     go_ret2
     exact⟨a,_,rfl,⟨hbn,h1,h2⟩,hB2⟩
    ·go_wp2_with fail
     go_ret2
     exact⟨a,_,rfl,⟨hbn,h1,h2⟩,hB⟩
def AtPost (s:List Rng) (c:Int) (w:World) (e:Ending) (w':World):Prop:= ∃(k:Nat),e= .returned (.int .i64 k)/\Cut s c k/\Ext [] w w'
theorem at_c (v:Value) (s:List Rng) (c:Int) (w:World) (hc:0<=c) (hc':c<=100000) (hl:s.length<=1000000) (hv:ER.Rd w v s) (hs:Srt s):
  Calls Tryz.prog 112 #[v,.int .i64 c] w (AtPost s c w):=by
 go_enter Tryz.func112,Tryz.ntmps112
 go_wp2_with fail
 refine(bsf_c v s c _ hc hc' hl hv hs).mono ?_
 rintro e w1 ⟨k,b,rfl,hk,hB⟩
 go_wp2
 go_ret
 exact⟨k,rfl,hk,hB⟩
def aL_ {α:Type} (E:Enc α) (T:TypeId) (v:Value) (xs:List α) (w:World) (e:Ending) (w':World):Prop:=
 ∃v',e= .returned v'/\E.Ow T w' v' xs/\Ext [] w w'/\(∀g∈blkL v',w.heap.size<=g)/\(v= .slice none 0 0↔v'= .slice none 0 0)
theorem dF_ (v:Value) (s:List Rng) (w:World) (hl:s.length<=1000000) (hv:ER.Rd w v s):
  Calls Tryz.prog 86 #[v] w (aL_ ER 165 v s w):=by
 rcases hv with ⟨rfl,rfl⟩ | ⟨g,o,cap,rfl,h1,hg,hc⟩
 ·have hn:=fun w=> Lib.run_eql_slice_nil (P:=Tryz.prog) w 166 165 none 0 0 0 0 Tryz.underlying166
  go_enter Tryz.func86,Tryz.ntmps86
  go_wp2
  go_ret
  exact⟨_,rfl,.inl ⟨rfl,rfl⟩,Ext.refl _ _,by simp [blkL],by simp⟩
 ·have hn:=fun w=> Lib.run_eql_slice_nil (P:=Tryz.prog) w 166 165 (some ⟨g,o,none⟩) s.length cap 0 0 Tryz.underlying166
  have hv0:ER.Rd w (.slice (some ⟨g,o,none⟩) s.length cap) s:= .inr ⟨g,o,cap,rfl,h1,hg,hc⟩
  have HV:=hi_ hv0
  clear hv0 hc
  go_enter Tryz.func86,Tryz.ntmps86
  go_wp2_with (with_reducible refine f_ (d:=7) ?_)
  refine k_ rfl fun K hK=> b_ (E:=ER) (T:=165) (zero:=(0,0)) (bytes:=16) (v:= .slice (some ⟨w.heap.size,0,none⟩) 0 0) (xs:= []) (ys:=s) tiR Tryz.underlying166 Tryz.underlying166 rfl rfl rfl ?_ (HV.out.ext0 ((Ext.refl _ _).alloc _)) (by simp;omega) (by simp;omega) ?_
  ·exact .inr ⟨w.heap.size,0,0,[],rfl,heap_alloc_new w _,by simp,by simp,by simp⟩
  ·intro v' w' how hext hnear hnn
   refine hK _ _ ?_
   clear hK
   go_wp2
   go_ret
   refine⟨v',rfl,how,((Ext.refl [] w).alloc _).trans' hext (by simp) (by simp [blkL]), ?_, ?_⟩
   ·intro x hx
    rcases hnear x hx with h | h
    ·simp [blkL] at h;omega
    ·simp at h;omega
   ·exact⟨(fun h=> by cases h),(fun h=> by cases (hnn.2 h).1)⟩
section lists
variable {α:Type}
theorem m_ (l ys:List α) (i j:Nat) (h:i<=l.length):(splice l i ys)[j]? =if j < i then l[j]? else if j < i+ys.length then ys[j - i]? else l[j]? :=by
 unfold splice
 have e1:(List.take i l).length=i:=by simp;omega
 rw [List.getElem?_append,List.getElem?_append,e1,List.getElem?_take,List.getElem?_drop]
 split
 ·rfl
 ·split
  ·rw [if_pos (by omega)]
  ·rw [if_neg (by omega)];congr 1;omega
def win (l:List α) (q n:Nat):List α:=(l.drop q).take n
theorem v_ (l:List α) (q n j:Nat):(win l q n)[j]? =if j < n then l[q+j]? else none:=by
 unfold win;rw [List.getElem?_take,List.getElem?_drop]
theorem cE_ (l:List α) (q n:Nat) (h:q+n<=l.length):(win l q n).length=n:=by simp [win];omega
theorem I_ (l ys:List α) (q i n:Nat) (h1:i+ys.length<=n) (h2:q+n<=l.length):win (splice l (q+i) ys) q n=splice (win l q n) i ys:=by
 apply List.ext_getElem?
 intro j
 rw [v_,m_ _ _ _ _ (by omega),m_ _ _ _ _ (by rw [cE_ _ _ _ h2];omega),v_]
 by_cases hj:j < n
 ·rw [if_pos hj,if_pos hj]
  by_cases h3:j < i
  ·rw [if_pos (by omega),if_pos h3]
  ·rw [if_neg (by omega),if_neg h3]
   by_cases h4:j < i+ys.length
   ·rw [if_pos (by omega),if_pos h4];congr 1;omega
   ·rw [if_neg (by omega),if_neg h4]
 ·rw [if_neg hj,if_neg hj,if_neg (by omega),if_neg (by omega)]
theorem bD_ (A R ys B:List α) (i:Nat) (hi:A.length=i) (hR:R.length=ys.length+B.length):splice (splice (A++R) i ys) (i+ys.length) B=A++ys++B:=by
 apply List.ext_getElem?
 intro j
 rw [m_ _ _ _ _ (by rw [length_splice _ _ _ (by simp;omega)];simp;omega),m_ _ _ _ _ (by simp;omega)]
 simp only [List.append_assoc,List.getElem?_append,hi]
 (repeat' split) <;> first | rfl | (exfalso;omega) | (congr 1;omega) | (rw [List.getElem?_eq_none (by omega),List.getElem?_eq_none (by omega)])
theorem cR_ (xs sp ys:List α) (i:Nat) (hi:i<=xs.length) (hs:sp.length=ys.length):splice (splice (xs++sp) (i+ys.length) (xs.drop i)) i ys=xs.take i++ys++xs.drop i:=by
 apply List.ext_getElem?
 intro j
 rw [m_ _ _ _ _ (by rw [length_splice _ _ _ (by simp;omega)];simp;omega),m_ _ _ _ _ (by simp;omega)]
 have e1:(List.take i xs).length=i:=by simp;omega
 have e2:(List.drop i xs).length=xs.length - i:=by simp
 simp only [List.append_assoc,List.getElem?_append,e1,e2,List.getElem?_take,List.getElem?_drop]
 (repeat' split) <;> first | rfl | (exfalso;omega) | (congr 1;omega) | (rw [List.getElem?_eq_none (by omega),List.getElem?_eq_none (by omega)])
end lists
theorem cV_ (w:World) (a b:Addr) (la ca lb cb:Nat) (hne:a.block≠b.block) (tA tB:TypeId) (cA cB:Array Value)
  (hA:w.heap[a.block]? =some (.cells cA tA (0,0))) (hB:w.heap[b.block]? =some (.cells cB tB (0,0))) (hk:cB.size≠0):
  (callFunc 157 #[.slice (some a) la ca,.slice (some b) lb cb]).run Tryz.prog w= .ok (.value (.bool false)) w:=by
 have hf:Tryz.prog.funcs[157]? =some Tryz.f157:=by kernel_rfl
 have hz: ∀w,(Go.sizeOf 165).run Tryz.prog w= .ok 2 w:=fun w=> by
  obtain⟨i,z,hi,_,hs,_⟩:=tiR.row
  simp [sizeOf,typeInfo,hi,hs]
 have hsA:w.shape? a.block=some (tA,cA.size):=by simp [World.shape?,hA]
 have hsB:w.shape? b.block=some (tB,cB.size):=by simp [World.shape?,hB]
 have h:=Lib.run_overlaps_apart (P:=Tryz.prog) w 62 4 165 Tryz.underlying62 2 hz a b la ca lb cb hne tA tB cA.size cB.size hsA hsB hk (by simp [World.frozen?,hA]) (by simp [World.frozen?,hA])
 rw [run_callFunc_extern (e:=Extern.SlicesOverlaps.overlaps #[62,62] #[4]) hf (by kernel_rfl) (by kernel_rfl) (by kernel_rfl) (by kernel_rfl),h]
 rfl
end Go.Proofs.YtkpgjkekmdecbaaGreat
