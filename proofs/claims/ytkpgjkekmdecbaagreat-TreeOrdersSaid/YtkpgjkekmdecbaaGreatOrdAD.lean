/- Lemmas for the claim. No conditions beside those that each states. -/
import Derived.Test.YtkpgjkekmdecbaaGreatOrdAB
import Derived.Deep.AppendSrc
import Derived.Test.YtkpgjkekmdecbaaGreatOrdAC
import Derived.WalkLawsBesides
import Derived.Tactics2
import Derived.Defers
import Derived.Laws.Pointers
import Derived.Laws.LoneSync
import Derived.RegionTactic
import Derived.RegionCalls
import Derived.ChangeAlike
import Derived.Deep.CutBlock
import Derived.BigQuiet
import Derived.Laws.NewBlocks
import Derived.Laws.BitsAllLaws
set_option maxRecDepth 100000
set_option maxHeartbeats 8000000
set_option linter.all false

namespace Go.Proofs.YtkpgjkekmdecbaaGreat
open Go.RowKit
variable {w w':World} {T:TypeId} {n i g b:Nat} {S:List Nat}
theorem dU_ (s:List UInt8):byteCells ⟨s.toArray⟩=EB.flat s:=by
 unfold byteCells Enc.flat
 induction s with
 | nil=> rfl
 | cons a s ih=> simp only [List.map_cons,List.flatMap_cons] at ih ⊢;rw [ih];rfl
section
variable {P:Program} {T t t' ty:TypeId}
theorem dP_ (ti:Ti P EB T 1 0) (ht:P.underlying t=some (.slice T)) (ht':P.underlying t'=some .string)
  {w:World} {v:Value} {xs:List UInt8} (s:List UInt8) (hv:EB.Ow T w v xs) (hb:xs.length+s.length<=140737488355328):
  ∃v' w',(Builtin.append_ #[t,t'] ty #[v,.string ⟨s.toArray⟩]).run P w= .ok v' w'/\EB.Ow T w' v' (xs++s)/\Ext (blkL v) w w'/\Near w v v'/\(xs++s= []->v'=v):=by
 obtain⟨i,z,hi,hz,hsize,hby,hzz⟩:=ti.row
 have hs1:i.size=1:=hsize
 have hsz:(⟨s.toArray⟩:ByteArray).size=s.length:=by simp [ByteArray.size]
 have hsrc:=Src.ofString (P:=P) w ht' ⟨s.toArray⟩
 rw [hsz,dU_,<-hs1] at hsrc
 have hfl:(EB.flat s).length=s.length:=by rw [EB.length_flat];exact Nat.mul_one _
 by_cases hy:s= []
 ·subst hy
  have hrun:(Builtin.append_ #[t,t'] ty #[v,.string ⟨#[]⟩]).run P w= .ok v w:=by
   have hvv:=hv.rd
   have hlen:=hsrc.len w
   have hc:=hsrc.cells
   simp only [List.length_nil,Enc.flat_nil] at hlen hc
   rw [hsize] at hc
   rcases hvv with ⟨rfl,rfl⟩ | ⟨g,o,cap,rfl,h1,h2,h3⟩ <;>
    simp [Builtin.append_,run_underlying ht,run_underlying ht',sizeOf,typeInfo,storeCells, *]
  exact⟨v,w,hrun,by simpa using hv,Ext.refl _ _,fun g hg=> .inl hg,fun _=> rfl⟩
 ·have hy0:0 < s.length:=List.length_pos_iff.2 hy
  have grown: ∀(W:World) old,EB.Ow T (W.drew.alloc (.cells ((EB.flat xs++EB.flat s).toArray++Builtin.zeroCells z.cells (grownCap W (xs.length+s.length) old T - (xs.length+s.length))) T))
    (.slice (some ⟨W.heap.size,0,none⟩) (xs.length+s.length) (grownCap W (xs.length+s.length) old T)) (xs++s):=by
   intro W old
   have hge:=grownCap_ge W (xs.length+s.length) old T
   refine .inr ⟨W.heap.size,0,grownCap W (xs.length+s.length) old T,xs++s++List.replicate (grownCap W (xs.length+s.length) old T - (xs.length+s.length)) 0,by simp, ?_,by simpa using hge,by simp;omega, ?_⟩
   ·refine(heap_alloc_new W.drew _).trans ?_
    congr 2
    apply Array.ext'
    simp [ak_ EB 0 z.cells hzz]
   ·rw [List.drop_zero,List.take_left]
  rcases hv with ⟨rfl,rfl⟩ | ⟨g,q,cap,l,rfl,hg,h1,h2,h3⟩
  ·simp only [List.length_nil,Nat.zero_add,List.nil_append,Enc.flat_nil] at*
   have hr:=run_append_grow_src (P:=P) w t t' ty T i z ht hi hz none 0 0 [] (by simp [Builtin.firstCells]) (.string ⟨s.toArray⟩) s.length (EB.flat s) hsrc (by omega) (by omega) (by rw [nextslicecap_zero (by omega),hby];omega)
   simp only [Nat.zero_add,List.nil_append] at hr
   refine⟨_,_,hr, ?_, ?_, ?_,fun h=> absurd h hy⟩
   ·exact grown w 0
   ·exact(Ext.refl _ _).drew.alloc _
   ·intro x hx;simp [blkL] at hx;right;omega
  ·have hnc:(xs.length+s.length<=cap)\/cap < xs.length+s.length:=by omega
   have hlx:(EB.flat l).length=l.length:=by rw [EB.length_flat];exact Nat.mul_one _
   have hk1:EB.k=1:=rfl
   rw [hk1]
   simp only [Nat.mul_one]
   rcases hnc with hroom | hroom
   ·have hst:=run_storeCells_at P g (q+xs.length) T (EB.flat s) 0 (EB.flat l).toArray w hg (by simp only [List.size_toArray];omega) (EB.one_flat s)
    simp only [Nat.add_zero] at hst
    have hlen:=hsrc.len w
    have hc:=hsrc.cells
    rw [hs1] at hc
    have hrun:(Builtin.append_ #[t,t'] ty #[.slice (some ⟨g,q,none⟩) xs.length cap,.string ⟨s.toArray⟩]).run P w=
      .ok (.slice (some ⟨g,q,none⟩) (xs.length+s.length) cap) (w.setRow g (splice (EB.flat l) (q+xs.length) (EB.flat s)).toArray):=by
     simp [Builtin.append_,run_underlying ht,run_underlying ht',sizeOf,typeInfo,hi,hlen,hroom,hc,Addr.add_lit,hst,hs1,splice]
    refine⟨_,_,hrun, ?_,(Ext.refl _ _).setRow (.inl (by simp [blkL])) _,fun g hg=> .inl (by simpa [blkL] using hg),fun h=> absurd (List.append_eq_nil_iff.1 h).2 hy⟩
    refine .inr ⟨g,q,cap,splice l (q+xs.length) s,by simp [EB], ?_,by simpa using hroom, ?_, ?_⟩
    ·have e:=aB_ EB l s (q+xs.length)
     rw [hk1,Nat.mul_one] at e
     rw [setRow_heap w g _ _ T _ hg,e]
    ·rw [length_splice _ _ _ (by omega)];exact h2
    ·simp only [splice,List.length_append]
     rw [List.drop_append_of_le_length (by simp;omega),List.drop_take,show q+xs.length - q=xs.length from by omega,h3]
     rw [<-List.append_assoc,List.take_append_of_le_length (by simp),List.take_of_length_le (by simp)]
   ·have hrd:EB.Rd w (.slice (some ⟨g,q*EB.k,none⟩) xs.length cap) xs:=Enc.Ow.rd (T:=T) (.inr ⟨g,q,cap,l,rfl,hg,h1,h2,h3⟩)
    rcases hrd with ⟨h,_⟩ | ⟨g2,o2,cap2,h,_,_,h5⟩
    ·cases h
    cases h
    have holds: ∀j v,(EB.flat xs)[j]? =some v->w.cell? ((⟨g,q*EB.k,none⟩:Addr).add j)=some v:=by
     intro j v hj
     have:=h5 j v hj
     unfold Addr.add;split
     ·subst_vars;simpa using this
     ·exact this
    have hold:=run_firstCells_some (P:=P) w.drew i.size xs.length ⟨g,q*EB.k,none⟩ xs.length cap (EB.flat xs) (by rw [EB.length_flat,hsize]) (by simpa using holds)
    rw [hk1,Nat.mul_one] at hold
    have hr:=run_append_grow_src (P:=P) w t t' ty T i z ht hi hz (some ⟨g,q,none⟩) xs.length cap (EB.flat xs) hold (.string ⟨s.toArray⟩) s.length (EB.flat s) hsrc hroom (by omega) (by
     have:=growslice_fits (bytes:=i.bytes) hroom (by rw [hby];omega)
     omega)
    refine⟨_,_,hr,grown w cap,(Ext.refl _ _).drew.alloc _, ?_,fun h=> absurd (List.append_eq_nil_iff.1 h).2 hy⟩
    intro x hx;simp [blkL] at hx;right;omega
variable {ops:Array Oper} {Q:Exit->Act->World->Prop} {a:Act} {w:World} {rest:List Oper} {o:Oper} {K:Act->World->Prop}
theorem dT_ (ti:Ti P EB T 1 0) (ht:P.underlying t=some (.slice T)) (ht':P.underlying t'=some .string)
  {s x:Operand} (ho:o.op= .call {callee:= .builtin .append,args:=#[s,x],argTypes:=#[t,t']})
  {v:Value} {xs ys:List UInt8} (hs:a.eval s=v) (hx:a.eval x= .string ⟨ys.toArray⟩) (hv:EB.Ow T w v xs) (hb:xs.length+ys.length<=140737488355328)
  (h: ∀v' w',EB.Ow T w' v' (xs++ys)->Ext (blkL v) w w'->Near w v v'->(xs++ys= []->v'=v)->K (a.put o.dst v') w'):o.wp P a w K Q:=by
 obtain⟨v',w',hr,h2,h3,h4,h5⟩:=dP_ (ty:=o.type) ti ht ht' ys hv hb
 unfold Oper.wp execOp
 simp only [ho,resolve,invoke,builtin,Sem.run_bind,Sem.run_pure,Result.andThen_ok,List.map_toArray,List.map_cons,List.map_nil,hs,hx,hr]
 exact h v' w' h2 h3 h4 h5
end
def itmV:Itm->Itm3
 | .num n=> (1,n,[])
 | .txt s=> (2,0,s)
def GoodI:Itm->Prop
 | .num n=> n<=4611686018427387903
 | .txt s=> s.length<=4000
def gr_ (l:List Itm):Prop:=l.length<=2000/\ ∀x∈l,GoodI x
abbrev itV (x:Itm3):Value:= .agg #[.int .i64 x.1,.int .i64 x.2.1,.string ⟨x.2.2.toArray⟩]
theorem io_ (x:Itm) (w:World) (hg:GoodI x):Calls Tryz.prog 186 #[itV (itmV x)] w fun e w'=> e= .returned (.bool false)/\Ext [] w w':=by
 cases x with
 | num n=>
  simp only [itmV,itV]
  go_enter Tryz.func186,Tryz.ntmps186
  go_wp2
  go_ret
  exact⟨rfl,(Ext.refl _ _).alloc _⟩
 | txt s=>
  have h4: ¬((4000:Int) < (s.length:Int)):=by have:s.length<=4000:=hg;omega
  simp only [itmV,itV]
  go_enter Tryz.func186,Tryz.ntmps186
  go_wp2
  go_ret
  exact⟨rfl,(Ext.refl _ _).alloc _⟩
theorem idxIt_c (v:Value) (l:List Itm) (w:World) (hv:EIt.Rd w v (l.map itmV)) (hg:gr_ l):
  Calls Tryz.prog 209 #[v,.func (.func 186) #[] #[]] w fun e w'=> e= .returned (.int .i64 (-1))/\Ext [] w w':=by
 obtain⟨p,cap,rfl,_⟩:=hv.len_eq
 obtain⟨HV,HG⟩:=h_2 hv hg
 have hl:=hg.1
 rw [List.length_map] at HV ⊢
 obtain⟨n,hn⟩: ∃n,n=l.length:=⟨_,rfl⟩
 rw [<-hn] at HV hl ⊢
 have HN:=hi_ hn
 clear hv hg hn
 go_enter Tryz.func209,Tryz.ntmps209
 go_wp2_with fail
 go_loopw [5,8] (fun _ iv wr=> ∃i:Nat,i<=n/\iv= .int .i64 i/\Ext [] w wr) (fun _ iv _=> n - (intOf iv).toNat)
 case atStart=> exact⟨0,Nat.zero_le _,rfl,Ext.refl _ _⟩
 case round=>
  obtain⟨i,hi,rfl,hE⟩:=hrel
  by_cases hlt:i < n
  ·have z1:(i:Int) < (n:Int):=by omega
   have hil:i < l.length:=by rw [<-HN.out];exact hlt
   obtain⟨g,o,rfl⟩: ∃g o,p=some ⟨g,o,none⟩:=by
    rcases HV.out with ⟨h,_⟩ | ⟨g,o,c,h,_⟩
    ·simp at h;omega
    ·simp only [Value.slice.injEq] at h;exact⟨g,o,h.1⟩
   have hc:=aK_ (HV.out.ext0 hE) i (by rw [List.length_map];exact hil)
   have hx:(l.map itmV).getD i I0=itmV l[i]:=by simp [List.getD,hil]
   rw [hx] at hc
   have hgx:=HG.out.2 l[i] (List.getElem_mem hil)
   obtain⟨x,hx⟩: ∃x,x=l[i]:=⟨_,rfl⟩
   rw [<-hx] at hc hgx
   clear hx
   obtain⟨y,hy⟩: ∃y,y=itmV x:=⟨_,rfl⟩
   rw [<-hy] at hc
   obtain⟨m1,m2,m3⟩:=hc
   obtain⟨HY,HGX⟩:=h_2 hy hgx
   clear hy hgx
   go_wp2_with fail
   have hcc:=fun W=> io_ x W HGX.out
   rw [<-HY.out] at hcc
   refine(hcc _).mono ?_
   rintro e W1 ⟨rfl,hE1⟩
   have hE01:=hE.trans hE1
   clear m1 m2 m3 hE1 hE hcc
   go_wp2_with fail
   go_roundw
   case rel=> exact⟨i+1,by omega,by go_num,hE01⟩
   case measure=> simp [intOf];omega
  ·obtain rfl:i=n:=by omega
   have z1: ¬((i:Int) < (i:Int)):=by omega
   go_wp2
   go_ret
   exact⟨rfl,hE⟩
theorem contIt_c (v:Value) (l:List Itm) (w:World) (hv:EIt.Rd w v (l.map itmV)) (hg:gr_ l):
  Calls Tryz.prog 187 #[v,.func (.func 186) #[] #[]] w fun e w'=> e= .returned (.bool false)/\Ext [] w w':=by
 go_enter Tryz.func187,Tryz.ntmps187
 go_wp2_with fail
 refine(idxIt_c v l _ hv hg).mono ?_
 rintro e W1 ⟨rfl,hE⟩
 go_wp2
 go_ret
 exact⟨rfl,hE⟩
theorem pkcheck_c (v:Value) (l:List Itm) (w:World) (hv:EIt.Rd w v (l.map itmV)) (hg:gr_ l):
  Calls Tryz.prog 140 #[v] w fun e w'=> e= .returned (.int .i64 0)/\Ext [] w w':=by
 have hcont:=contIt_c v l w hv hg
 obtain⟨p,cap,rfl,_⟩:=hv.len_eq
 obtain⟨HV,HG,HC⟩:=h_3 hv hg hcont
 have hl:=hg.1
 rw [List.length_map] at HV HC ⊢
 obtain⟨n,hn⟩: ∃n,n=l.length:=⟨_,rfl⟩
 rw [<-hn] at HV hl HC ⊢
 have HN:=hi_ hn
 clear hv hg hn hcont
 have z0: ¬((2000:Int) < (n:Int)):=by omega
 have hmf: ∀(fn:Fn) (first cap:Array Value) (w:World),(Instr.makeFunc fn first cap).run Tryz.prog w= .ok (.func fn first cap) w:=fun _ _ _ _=> rfl
 go_enter Tryz.func140,Tryz.ntmps140
 go_wp2_with fail
 refine HC.out.mono ?_
 rintro e W1 ⟨rfl,hE1⟩
 go_wp2_with fail
 go_loopw [5,16,20] (fun _ iv _ wr=> ∃i:Nat,i<=n/\iv= .int .i64 i/\Ext [] w wr) (fun _ iv _ _=> n - (intOf iv).toNat)
 case atStart=> exact⟨0,Nat.zero_le _,rfl,hE1⟩
 case round=>
  obtain⟨i,hi,rfl,hE⟩:=hrel
  by_cases hlt:i < n
  ·have z1:(i:Int) < (n:Int):=by omega
   have hil:i < l.length:=by rw [<-HN.out];exact hlt
   obtain⟨g,o,rfl⟩: ∃g o,p=some ⟨g,o,none⟩:=by
    rcases HV.out with ⟨h,_⟩ | ⟨g,o,c,h,_⟩
    ·simp at h;omega
    ·simp only [Value.slice.injEq] at h;exact⟨g,o,h.1⟩
   have hc:=aK_ (HV.out.ext0 hE) i (by rw [List.length_map];exact hil)
   have hx:(l.map itmV).getD i I0=itmV l[i]:=by simp [List.getD,hil]
   rw [hx] at hc
   obtain⟨x,hx⟩: ∃x,x=l[i]:=⟨_,rfl⟩
   rw [<-hx] at hc
   clear hx
   cases x with
   | num q=>
    obtain⟨m1,m2,m3⟩:=hc
    simp only [itmV] at m1 m2 m3
    have hE2:Ext [] w (wr.alloc (.cells #[.int .i64 1,.int .i64 q,.string ⟨#[]⟩] 215)):=hE.alloc _
    go_wp2_with fail
    go_roundw
    case rel=> exact⟨i+1,by omega,by go_num,hE2⟩
    case measure=> simp [intOf];omega
   | txt s=>
    obtain⟨m1,m2,m3⟩:=hc
    simp only [itmV] at m1 m2 m3
    have hE2:Ext [] w (wr.alloc (.cells #[.int .i64 2,.int .i64 0,.string ⟨s.toArray⟩] 215)):=hE.alloc _
    go_wp2_with fail
    go_roundw
    case rel=> exact⟨i+1,by omega,by go_num,hE2⟩
    case measure=> simp [intOf];omega
  ·obtain rfl:i=n:=by omega
   have z1: ¬((i:Int) < (i:Int)):=by omega
   go_wp2
   go_ret
   exact⟨rfl,hE⟩
theorem cU_ (w:World):(callFunc 257 #[]).run Tryz.prog w= .ok (.value (.tuple #[])) w:=run_call_mark0 Tryz.func257 (by kernel_rfl) (by kernel_rfl) (by kernel_rfl) .disable (by kernel_rfl) w
theorem dy_ (w:World):(callFunc 259 #[]).run Tryz.prog w= .ok (.value (.tuple #[])) w:=run_call_mark0 Tryz.func259 (by kernel_rfl) (by kernel_rfl) (by kernel_rfl) .enable (by kernel_rfl) w
theorem fM_ (a:Addr) (w:World):(callFunc 260 #[.pointer (some a)]).run Tryz.prog w= .ok (.value (.tuple #[])) w:=run_call_marked Tryz.func260 (by kernel_rfl) (by kernel_rfl) (by kernel_rfl) .acquire (by kernel_rfl) a w
theorem fL_ (a:Addr) (w:World):(callFunc 262 #[.pointer (some a)]).run Tryz.prog w= .ok (.value (.tuple #[])) w:=run_call_marked Tryz.func262 (by kernel_rfl) (by kernel_rfl) (by kernel_rfl) .releaseMerge (by kernel_rfl) a w
theorem dH_ (a:Addr) (x:Value) (u:FrameMode) (w:World) (hc:w.cell? a=some x) (hz:w.frozen? a=false):
  CallsD Tryz.prog 252 #[.pointer (some a),.bool true] u w fun e u' w'=> u'=u/\(e= .returned (.tuple #[])/\w'=w.drew.setCell a (.int .u32 1)):=by
 have hc':w.drew.cell? a=some x:=by go_simp
 have hz':w.drew.frozen? a=false:=by go_simp
 have hst:=run_call_store (P:=Tryz.prog) Tryz.func255 (by kernel_rfl) (by kernel_rfl) (by kernel_rfl) (by kernel_rfl) (k:= .u32) (y:=1) hc' hz'
 go_enter_d Tryz.func252,Tryz.ntmps252
 go_wp2
 go_region_calls
 all_goals (go_end0;exact⟨rfl,rfl⟩)
theorem iunlock_c (a:Addr) (w:World) (hc:w.cell? a=some (.int .i32 1)) (hz:w.frozen? a=false):
  Calls Tryz.prog 254 #[.pointer (some a)] w fun e w'=> e= .returned (.tuple #[])/\w'=w.setCell a (.int .i32 0):=by
 have hd:=cU_
 have he:=dy_
 have hr:=fL_
 have hadd:=run_call_add (P:=Tryz.prog) Tryz.func263 (by kernel_rfl) (by kernel_rfl) (by kernel_rfl) .i32 (by kernel_rfl) (y:= -1) (s:=0) hc hz (by simp [go_sem];rfl)
 have hcv:=run_convert_to_unsafe (P:=Tryz.prog) (src:=376) (dst:=380) Tryz.underlying376 Tryz.underlying380 (by kernel_rfl) hc
 go_enter Tryz.func254,Tryz.ntmps254
 go_wp2
 go_end0
 exact⟨rfl,rfl⟩
theorem dj_ (a:Addr) (u:FrameMode) (w:World) (hc:w.cell? a=some (.int .i32 1)) (hz:w.frozen? a=false):
  CallsD Tryz.prog 251 #[.pointer (some a)] u w fun e u' w'=> u'=u/\(e= .returned (.tuple #[])/\w'=w.setCell a (.int .i32 0)):=by
 go_enter_d Tryz.func251,Tryz.ntmps251
 go_wp2_with fail
 refine(iunlock_c a _ hc hz).mono ?_
 rintro e w' ⟨rfl,rfl⟩
 go_wp2
 go_end0
 exact⟨rfl,rfl⟩
theorem ilock_c (a:Addr) (w:World) (hc:w.cell? a=some (.int .i32 0)) (hz:w.frozen? a=false):
  Calls Tryz.prog 253 #[.pointer (some a)] w fun e w'=> e= .returned (.tuple #[])/\w'=w.setCell a (.int .i32 1):=by
 have hd:=cU_
 have he:=dy_
 have ha:=fM_
 have hcas:=run_call_cas_hit (P:=Tryz.prog) Tryz.func258 (by kernel_rfl) (by kernel_rfl) (by kernel_rfl) .i32 (by kernel_rfl) (y:=1) hc hz
 have hc':(w.setCell a (.int .i32 1)).cell? a=some (.int .i32 1):=World.cell?_setCell_same w a _ hc
 have hcv:=run_convert_to_unsafe (P:=Tryz.prog) (src:=376) (dst:=380) Tryz.underlying376 Tryz.underlying380 (by kernel_rfl) hc'
 go_enter Tryz.func253,Tryz.ntmps253
 go_wp2
 refine bodyPost_ret (results_none rfl _ _ _) rfl ?_
 exact⟨rfl,rfl⟩
theorem lock_c (a:Addr) (w:World) (hc:w.cell? a=some (.int .i32 0)) (hz:w.frozen? a=false):
  Calls Tryz.prog 250 #[.pointer (some a)] w fun e w'=> e= .returned (.tuple #[])/\w'=w.setCell a (.int .i32 1):=by
 go_enter Tryz.func250,Tryz.ntmps250
 go_wp2_with fail
 refine(ilock_c a _ hc hz).mono ?_
 rintro e w' ⟨rfl,rfl⟩
 go_wp2
 go_end0
 exact⟨rfl,rfl⟩
theorem gU_ (a:Addr) (d:Int) (w:World) (h0:w.cell? a=some (.int .u32 d)):
  Calls Tryz.prog 247 #[.pointer (some a)] w fun e w'=> e= .returned (.bool (d !=0))/\w'=w:=by
 have hl:=run_call_load (P:=Tryz.prog) Tryz.func249 (by kernel_rfl) (by kernel_rfl) (by kernel_rfl) .u32 (by kernel_rfl) h0
 go_enter Tryz.func247,Tryz.ntmps247
 go_wp2
 go_ret
 exact⟨rfl,rfl⟩
structure FGood (c:Array Value):Prop where
 size:c.size=769
 exp: ∀i,i < 510-> ∃b:UInt8,c[3+i]? =some (.int .u8 b.toNat)
 log: ∀i,i < 256-> ∃n:Int,0<=n/\n<=254/\c[513+i]? =some (.int .i64 n)
theorem FGood.setExp {c:Array Value} (h:FGood c) (hi:i < 510) (b:UInt8):FGood (c.setIfInBounds (3+i) (.int .u8 b.toNat)):=by
 refine⟨by simp [h.size],fun j hj=> ?_,fun j hj=> ?_⟩
 ·by_cases hij:i=j
  ·subst hij;exact⟨b,by rw [Array.getElem?_setIfInBounds_self_of_lt (by rw [h.size];omega)]⟩
  ·obtain⟨x,hx⟩:=h.exp j hj
   exact⟨x,by rw [Array.getElem?_setIfInBounds_ne (by omega)];exact hx⟩
 ·obtain⟨x,h1,h2,hx⟩:=h.log j hj
  exact⟨x,h1,h2,by rw [Array.getElem?_setIfInBounds_ne (by omega)];exact hx⟩
theorem FGood.setLog {c:Array Value} (h:FGood c) (hi:i < 256) {n:Int} (h0:0<=n) (h1:n<=254):FGood (c.setIfInBounds (513+i) (.int .i64 n)):=by
 refine⟨by simp [h.size],fun j hj=> ?_,fun j hj=> ?_⟩
 ·obtain⟨x,hx⟩:=h.exp j hj
  exact⟨x,by rw [Array.getElem?_setIfInBounds_ne (by omega)];exact hx⟩
 ·by_cases hij:i=j
  ·subst hij;exact⟨n,h0,h1,by rw [Array.getElem?_setIfInBounds_self_of_lt (by rw [h.size];omega)]⟩
  ·obtain⟨x,h2,h3,hx⟩:=h.log j hj
   exact⟨x,h2,h3,by rw [Array.getElem?_setIfInBounds_ne (by omega)];exact hx⟩
theorem FGood.setHead {c:Array Value} (h:FGood c) (hi:i < 3) (v:Value):FGood (c.setIfInBounds i v):=by
 refine⟨by simp [h.size],fun j hj=> ?_,fun j hj=> ?_⟩
 ·obtain⟨x,hx⟩:=h.exp j hj
  exact⟨x,by rw [Array.getElem?_setIfInBounds_ne (by omega)];exact hx⟩
 ·obtain⟨x,h1,h2,hx⟩:=h.log j hj
  exact⟨x,h1,h2,by rw [Array.getElem?_setIfInBounds_ne (by omega)];exact hx⟩
theorem xor_ok: ∀x:Nat,x < 256->128<=x->0<=bits .xor .i64 ((x:Int)*2) 285/\bits .xor .i64 ((x:Int)*2) 285<=255:=by decide+kernel
theorem tables1_c (pl:Addr) (f:Nat) (c:Array Value) (w:World) (hpb:pl.block≠f) (hp:w.cell? pl=some (.pointer (some ⟨f,0,none⟩))) (hf:w.heap[f]? =some (.cells c 337 (0,0))) (hc:FGood c):
  Calls Tryz.prog 246 #[.pointer (some pl)] w fun e w'=> e= .returned (.tuple #[])/\ ∃c',w'.heap[f]? =some (.cells c' 337 (0,0))/\FGood c'/\(∀i,i < 3->c'[i]? =c[i]?)/\Ext [f] w w':=by
 go_enter Tryz.func246,Tryz.ntmps246
 have hu8: ∀x:Nat,x<=255->(x:Int)=((UInt8.ofNat x).toNat:Int):=fun x hx=> by
  simp only [UInt8.toNat_ofNat',Nat.reducePow]
  rw [Nat.mod_eq_of_lt (by omega)]
 obtain⟨HU8,HF,HC⟩:=h_3 hu8 hf hc
 obtain⟨pb,po,ps⟩:=pl
 obtain rfl:ps=none:=World.cell?_spot hp
 have hpb':pb≠f:=hpb
 clear hu8 hf hc hpb
 go_wp2_with fail
 go_loopw [1,2,3] (fun xv _ kv wr=> ∃(k x:Nat) (c':Array Value),k<=255/\x<=255/\xv= .int .i64 x/\kv= .int .i64 k/\Ext [f] w wr/\Hid (wr.heap[f]? =some (.cells c' 337 (0,0)))/\Hid (FGood c'/\ ∀i,i < 3->c'[i]? =c[i]?)) (fun _ _ kv _=> 255 - (intOf kv).toNat)
 case atStart=> exact⟨0,1,c,by omega,by omega,rfl,rfl,Ext.refl _ _,HF,HC.out,fun i _=> rfl⟩
 case round=>
  obtain⟨k,x,c',hk,hx,rfl,rfl,hE,HG,HGC⟩:=hrel
  have hpc:=hE.cell hp (by simpa using hpb')
  have hsz:=HGC.out.1.size
  by_cases hlt:k < 255
  ·have z1:(k:Int) < 255:=by omega
   have w1:IntKind.u8.wrap (x:Int)=x:=by simp [IntKind.wrap,IntKind.signed,IntKind.bits];omega
   have w2:IntKind.i64.wrap ((k:Int)+255)=(k:Int)+255:=IntWalk.i64_in _ (by omega)
   have w3:((k:Int)+255).toNat=k+255:=by omega
   have w4:(k:Int)+255 < 510:=by omega
   have w5:(0:Int)<=(k:Int)+255:=by omega
   have w6:(k:Int) < 510:=by omega
   have w7:(x:Int) < 256:=by omega
   have w8:IntKind.i64.wrap ((x:Int)*2)=(x:Int)*2:=IntWalk.i64_in _ (by omega)
   have hd:=(Ext.refl [] wr).drew.cell hpc (by simp)
   have hG:=HGC.out.1
   obtain⟨e1,he1⟩:=hG.exp k (by omega)
   obtain⟨e2,he2⟩:=hG.exp (k+255) (by omega)
   have m1:wr.cell? ⟨f,3+k,none⟩=some (.int .u8 e1.toNat):=by rw [cell_of_row wr f _ _ _ _ HG.out];exact he1
   have m2:wr.cell? ⟨f,3+(k+255),none⟩=some (.int .u8 e2.toNat):=by rw [cell_of_row wr f _ _ _ _ HG.out];exact he2
   have hfz: ∀j,wr.frozen? ⟨f,j,none⟩=false:=fun j=> frozen_of_row _ _ _ _ _ HG.out
   clear he1 he2 hG
   go_wp2_with fail
   refine e_ (fun W=> W.cell? ⟨pb,po,none⟩=some (.pointer (some ⟨f,0,none⟩))) (fun _=> true) (by kernel_rfl) hd (fun hS=> ?_)
   refine ta 0 ?_;(try go_frame)
   refine ta 1 ?_;(try go_frame)
   refine ta 2 ?_;(try go_frame)
   refine ta 3 ?_;(try go_frame)
   refine ta 4 ?_;(try go_frame)
   refine ta 5 ?_;(try go_frame)
   refine ta 6 ?_;(try go_frame)
   refine ta 7 ?_;(try go_frame)
   refine ta 8 ?_;(try go_frame)
   refine ta 9 ?_;(try go_frame)
   refine ta 10 ?_;(try go_frame);simp only [zA,zB,zC,zD,zE]
   refine ta 11 ?_;(try go_frame);simp only [zA,zB,zC,zD,zE]
   refine ta 13 ?_;(try go_frame);simp only [zA,zB,zC,zD,zE]
   refine ta 14 ?_;(try go_frame);simp only [zA,zB,zC,zD,zE]
   refine a_ (i:=12) (by kernel_rfl) rfl (fun K hK=> ?_)
   refine iw rfl ?_
   go_simp
   refine hK.out _ _ (fun _=> (Ext.setCell (S:= [f]) (p:=⟨f,3+k,none⟩) (Ext.refl [f] _) (.inl (by simp)) _).cell hS (by simpa using hpb')) (fun hS1=> ?_)
   have hS2:=hS1 rfl
   clear hK hS hS1
   refine ta 15 ?_;(try go_frame);simp only [zA,zB,zC,zD,zE]
   refine a_ (i:=16) (by kernel_rfl) rfl (fun K hK=> ?_)
   refine iw rfl ?_
   go_simp
   have hE4:Ext [f] wr (((wr.setCell ⟨f,3+k,none⟩ (.int .u8 x)).setCell ⟨f,3+(k+255),none⟩ (.int .u8 x)).drew):=(((Ext.refl [f] wr).setCell (.inl (by simp)) _).setCell (.inl (by simp)) _).drew
   have hg4:(((wr.setCell ⟨f,3+k,none⟩ (.int .u8 x)).setCell ⟨f,3+(k+255),none⟩ (.int .u8 x)).drew).heap[f]? =some (.cells ((c'.setIfInBounds (3+k) (.int .u8 x)).setIfInBounds (3+(k+255)) (.int .u8 x)) 337 (0,0)):=heap_setCell_same _ f _ _ _ _ (heap_setCell_same wr f (3+k) _ _ _ HG.out)
   have hx8:=HU8.out x hx
   have hgood4:FGood ((c'.setIfInBounds (3+k) (.int .u8 x)).setIfInBounds (3+(k+255)) (.int .u8 x)):=by
    rw [hx8];exact(HGC.out.1.setExp (by omega) _).setExp (by omega) _
   have hhead4: ∀i,i < 3->((c'.setIfInBounds (3+k) (Value.int .u8 x)).setIfInBounds (3+(k+255)) (.int .u8 x))[i]? =c[i]? :=fun i hi=> by
    rw [Array.getElem?_setIfInBounds_ne (by omega),Array.getElem?_setIfInBounds_ne (by omega)];exact HGC.out.2 i hi
   refine hK.out _ _ (fun _=> hE4.cell hpc (by simpa using hpb')) (fun _=> ?_)
   clear hK hS2 m1 m2 hfz hx8
   refine c_ (by kernel_rfl) ?_ _
   revert hE4 hg4 hgood4 hhead4
   generalize World.drew _=W4
   generalize (c'.setIfInBounds (3+k) (Value.int .u8 x)).setIfInBounds (3+(k+255)) (.int .u8 x)=c4
   intro hE4 hg4 hgood4 hhead4
   obtain⟨n5,h50,h51,h5⟩:=hgood4.log x (by omega)
   have m5:W4.cell? ⟨f,513+x,none⟩=some (.int .i64 n5):=by rw [cell_of_row W4 f _ _ _ _ hg4];exact h5
   have hp4:=hE4.cell hpc (by simpa using hpb')
   have hfz4: ∀j,W4.frozen? ⟨f,j,none⟩=false:=fun j=> frozen_of_row _ _ _ _ _ hg4
   have hE5:Ext [f] w (W4.setCell ⟨f,513+x,none⟩ (.int .i64 k)):=(hE.trans hE4).setCell (.inl (by simp)) _
   have hg5:(W4.setCell ⟨f,513+x,none⟩ (.int .i64 k)).heap[f]? =some (.cells (c4.setIfInBounds (513+x) (.int .i64 k)) 337 (0,0)):=heap_setCell_same _ f _ _ _ _ hg4
   have hgood5:FGood (c4.setIfInBounds (513+x) (.int .i64 k)):=hgood4.setLog (by omega) (by omega) (by omega)
   have hhead5: ∀i,i < 3->(c4.setIfInBounds (513+x) (Value.int .i64 k))[i]? =c[i]? :=fun i hi=> by
    rw [Array.getElem?_setIfInBounds_ne (by omega)];exact hhead4 i hi
   have HG5:=hi_ hg5
   have HC5:=hi_ (And.intro hgood5 hhead5)
   have HE5:=hi_ hE5
   clear hg4 hgood4 hhead4 h5 hg5 hgood5 hhead5 hE5 hE4
   by_cases hbig:128<=x
   ·have hxo:=xor_ok x (by omega) hbig
    obtain⟨y,hy⟩: ∃y:Nat,(y:Int)=bits .xor .i64 ((x:Int)*2) 285:=⟨(bits .xor .i64 ((x:Int)*2) 285).toNat,by omega⟩
    have hy1:y<=255:=by omega
    have hb1:(255:Int) < (x:Int)*2:=by omega
    have hy':=hy.symm
    clear hxo hy
    go_wp2_with fail
    go_roundw
    case rel=> exact⟨k+1,y,_,by omega,hy1,rfl,by go_num,HE5.out,HG5,HC5⟩
    case measure=> simp [intOf];omega
   ·have hb1: ¬((255:Int) < (x:Int)*2):=by omega
    go_wp2_with fail
    go_roundw
    case rel=> exact⟨k+1,x*2,_,by omega,by omega,by go_num,by go_num,HE5.out,HG5,HC5⟩
    case measure=> simp [intOf];omega
  ·have z1: ¬((k:Int) < 255):=by omega
   go_wp2
   go_end0
   exact⟨rfl,c',HG.out,HGC.out.1,HGC.out.2,hE⟩
def FldR (w:World) (f:Nat):Prop:= ∃(c:Array Value) (d:Int),w.heap[f]? =some (.cells c 337 (0,0))/\FGood c/\c[0]? =some (.int .u32 d)/\c[1]? =some (.int .i32 0)
theorem slow_c (pb f:Nat) (c:Array Value) (w:World) (hpb:pb≠f) (hp:w.cell? ⟨pb,0,none⟩=some (.pointer (some ⟨f,0,none⟩))) (hf:w.heap[f]? =some (.cells c 337 (0,0))) (hc:FGood c)
  (h0:c[0]? =some (.int .u32 0)) (h1:c[1]? =some (.int .i32 0)):
  Calls Tryz.prog 248 #[.pointer (some ⟨f,0,none⟩),.func (.func 246) #[] #[.pointer (some ⟨pb,0,none⟩)]] w fun e w'=> e= .returned (.tuple #[])/\FldR w' f/\Ext [f] w w':=by
 have hnot: ∀(x:Bool) (w:World),(Op.unary .not (.bool x)).run Tryz.prog w= .ok (.bool (!x)) w:=fun _ _=> rfl
 obtain⟨HF,HC⟩:=h_2 hf hc
 have f1:w.frozen? ⟨f,1,none⟩=false:=frozen_of_row _ _ _ _ _ hf
 have q1:w.cell? ⟨f,1,none⟩=some (.int .i32 0):=by rw [cell_of_row w f 1 _ _ _ hf];exact h1
 go_enter_defers Tryz.func248,Tryz.ntmps248
 go_wp2_with fail
 refine(lock_c ⟨f,1,none⟩ _ q1 f1).mono ?_
 rintro e W1 ⟨rfl,rfl⟩
 have hg1:=heap_setCell_same w f 1 _ _ (.int .i32 1) HF.out
 have hE1:Ext [f] w (w.setCell ⟨f,1,none⟩ (.int .i32 1)):=(Ext.refl [f] w).setCell (.inl (by simp)) _
 have hgood1:FGood (c.setIfInBounds 1 (.int .i32 1)):=HC.out.setHead (by omega) _
 have e10:(c.setIfInBounds 1 (Value.int .i32 1))[0]? =some (.int .u32 0):=by rw [Array.getElem?_setIfInBounds_ne (by omega)];exact h0
 have e11:(c.setIfInBounds 1 (Value.int .i32 1))[1]? =some (.int .i32 1):=by rw [Array.getElem?_setIfInBounds_self_of_lt (by rw [HC.out.size];omega)]
 revert hg1 hE1 hgood1 e10 e11
 generalize World.setCell _ _ _=W1
 generalize c.setIfInBounds 1 (Value.int .i32 1)=c1
 intro hg1 hE1 hgood1 e10 e11
 have hp1:=hE1.cell hp (by simpa using hpb)
 have q10:W1.cell? ⟨f,0,none⟩=some (.int .u32 0):=by rw [cell_of_row W1 f 0 _ _ _ hg1];exact e10
 have HG1:=hi_ hg1
 clear hg1 h0 h1 q1 f1
 go_wp2_with fail
 refine(gU_ ⟨f,0,none⟩ 0 _ q10).mono ?_
 rintro e W2 ⟨rfl,rfl⟩
 go_wp2_with fail
 refine(tables1_c ⟨pb,0,none⟩ f c1 _ hpb hp1 HG1.out hgood1).mono ?_
 rintro e W3 ⟨rfl,c3,hg3,hgood3,hhead3,hE3⟩
 have d0:W3.cell? ⟨f,0,none⟩=some (.int .u32 0):=by rw [cell_of_row W3 f 0 _ _ _ hg3,hhead3 0 (by omega)];exact e10
 have fz3: ∀j,W3.frozen? ⟨f,j,none⟩=false:=fun j=> frozen_of_row _ _ _ _ _ hg3
 have hE03:Ext [f] w W3:=hE1.trans hE3
 obtain⟨HG3,HH3⟩:=h_2 hg3 hhead3
 clear hg3 hhead3
 go_wp2
 refine leaves_cons (f:=252) (args:=#[.pointer (some ⟨f,0,none⟩),.bool true]) (by simp) (by simp [go_sem]) ?_
 refine(dH_ ⟨f,0,none⟩ (.int .u32 0) .returning _ d0 (fz3 0)).mono ?_
 rintro e u' w'' ⟨rfl,rfl,rfl⟩
 have hg4:(W3.drew.setCell ⟨f,0,none⟩ (.int .u32 1)).heap[f]? =some (.cells (c3.setIfInBounds 0 (.int .u32 1)) 337 (0,0)):=heap_setCell_same W3.drew f 0 _ _ _ HG3.out
 have hE4:Ext [f] w (W3.drew.setCell ⟨f,0,none⟩ (.int .u32 1)):=(hE03.drew).setCell (.inl (by simp)) _
 have e40:(c3.setIfInBounds 0 (Value.int .u32 1))[0]? =some (.int .u32 1):=by rw [Array.getElem?_setIfInBounds_self_of_lt (by rw [hgood3.size];omega)]
 have e41:(c3.setIfInBounds 0 (Value.int .u32 1))[1]? =some (.int .i32 1):=by rw [Array.getElem?_setIfInBounds_ne (by omega),HH3.out 1 (by omega)];exact e11
 have hgood4:FGood (c3.setIfInBounds 0 (.int .u32 1)):=hgood3.setHead (by omega) _
 refine leaves_cons (f:=251) (args:=#[.pointer (some ⟨f,1,none⟩)]) (by simp [settle]) (by simp [go_sem]) ?_
 refine(dj_ ⟨f,1,none⟩ _ _ (by rw [cell_of_row _ f 1 _ _ _ hg4];exact e41) (frozen_of_row _ _ _ _ _ hg4)).mono ?_
 rintro e u' w'' ⟨rfl,rfl,rfl⟩
 have hg5:=heap_setCell_same _ f 1 _ _ (.int .i32 0) hg4
 have hE5:Ext [f] w ((W3.drew.setCell ⟨f,0,none⟩ (.int .u32 1)).setCell ⟨f,1,none⟩ (.int .i32 0)):=hE4.setCell (.inl (by simp)) _
 have hgood5:FGood ((c3.setIfInBounds 0 (.int .u32 1)).setIfInBounds 1 (.int .i32 0)):=hgood4.setHead (by omega) _
 have e50:((c3.setIfInBounds 0 (Value.int .u32 1)).setIfInBounds 1 (.int .i32 0))[0]? =some (.int .u32 1):=by rw [Array.getElem?_setIfInBounds_ne (by omega)];exact e40
 have e51:((c3.setIfInBounds 0 (Value.int .u32 1)).setIfInBounds 1 (.int .i32 0))[1]? =some (.int .i32 0):=by rw [Array.getElem?_setIfInBounds_self_of_lt (by rw [hgood4.size];omega)]
 have hfin:FldR ((W3.drew.setCell ⟨f,0,none⟩ (.int .u32 1)).setCell ⟨f,1,none⟩ (.int .i32 0)) f:=⟨_,1,hg5,hgood5,e50,e51⟩
 simp [Leaves,settle,results,Tryz.results248]
 exact⟨hfin,hE5⟩
theorem do_c (pb f:Nat) (w:World) (hpb:pb≠f) (hp:w.cell? ⟨pb,0,none⟩=some (.pointer (some ⟨f,0,none⟩))) (hf:FldR w f):
  Calls Tryz.prog 245 #[.pointer (some ⟨f,0,none⟩),.func (.func 246) #[] #[.pointer (some ⟨pb,0,none⟩)]] w fun e w'=> e= .returned (.tuple #[])/\FldR w' f/\Ext [f] w w':=by
 have hnot: ∀(x:Bool) (w:World),(Op.unary .not (.bool x)).run Tryz.prog w= .ok (.bool (!x)) w:=fun _ _=> rfl
 have HF:=hi_ hf
 obtain⟨c,d,hg,hc,h0,h1⟩:=hf
 have q0:w.cell? ⟨f,0,none⟩=some (.int .u32 d):=by rw [cell_of_row w f 0 _ _ _ hg];exact h0
 by_cases hd:d=0
 ·subst hd
  obtain⟨HG,HC,H0,H1⟩:=h_4 hg hc h0 h1
  clear hg hc h0 h1
  go_enter Tryz.func245,Tryz.ntmps245
  go_wp2_with fail
  refine(gU_ ⟨f,0,none⟩ 0 _ q0).mono ?_
  rintro e W2 ⟨rfl,rfl⟩
  go_wp2_with fail
  refine(slow_c pb f c _ hpb hp HG.out HC.out H0.out H1.out).mono ?_
  rintro e W3 ⟨rfl,hr3,hE3⟩
  go_wp2
  go_end0
  exact⟨rfl,hr3,hE3⟩
 ·have hd':(d !=0)=true:=by simp [hd]
  clear hg hc h0 h1
  go_enter Tryz.func245,Tryz.ntmps245
  go_wp2_with fail
  refine(gU_ ⟨f,0,none⟩ d _ q0).mono ?_
  rintro e W2 ⟨rfl,rfl⟩
  rw [hd']
  go_wp2
  go_end0
  exact⟨rfl,HF.out,Ext.refl _ _⟩
theorem FldR.lt {f:Nat} (h:FldR w f):f < w.heap.size:=by obtain⟨c,d,hg,_⟩:=h;exact g_ hg
theorem FldR.ext0 {f:Nat} (h:FldR w f) (he:Ext [] w w'):FldR w' f:=by
 obtain⟨c,d,hg,h⟩:=h
 exact⟨c,d,he.blk hg (by simp),h⟩
theorem ready_c (f:Nat) (w:World) (hf:FldR w f):
  Calls Tryz.prog 239 #[.pointer (some ⟨f,0,none⟩)] w fun e w'=> e= .returned (.pointer (some ⟨f,0,none⟩))/\FldR w' f/\Ext [f] w w':=by
 have hmf: ∀(fn:Fn) (first cap:Array Value) (w:World),(Instr.makeFunc fn first cap).run Tryz.prog w= .ok (.func fn first cap) w:=fun _ _ _ _=> rfl
 have HF:=hi_ hf
 have hfl:=hf.lt
 clear hf
 have ht:Calls Tryz.prog 244 #[.pointer (some ⟨f,0,none⟩)] w fun e w'=> e= .returned (.tuple #[])/\FldR w' f/\Ext [f] w w':=by
  go_enter Tryz.func244,Tryz.ntmps244
  go_wp2_with fail
  refine(do_c w.heap.size f _ (by omega) (by go_simp) (HF.out.ext0 ((Ext.refl [] w).alloc _))).mono ?_
  rintro e W3 ⟨rfl,hr3,hE3⟩
  go_wp2
  go_end0
  exact⟨rfl,hr3,(((Ext.refl [] w).alloc _).nil).trans hE3⟩
 have HT:=hi_ ht
 clear ht
 go_enter Tryz.func239,Tryz.ntmps239
 go_wp2_with fail
 refine HT.out.mono ?_
 rintro e W3 ⟨rfl,hr3,hE3⟩
 go_wp2
 go_ret
 exact⟨rfl,hr3,hE3⟩
theorem FldR.logs {f:Nat} (h:FldR w f) (a:UInt8): ∃n:Nat,n<=254/\w.cell? ⟨f,513+a.toNat,none⟩=some (.int .i64 n):=by
 obtain⟨c,d,hg,hc,_⟩:=h
 obtain⟨n,h0,h1,h2⟩:=hc.log a.toNat (UInt8.toNat_lt a)
 obtain⟨m,rfl⟩: ∃m:Nat,n=m:=⟨n.toNat,by omega⟩
 exact⟨m,by omega,by rw [cell_of_row w f _ _ _ _ hg];exact h2⟩
theorem FldR.exps {f:Nat} (h:FldR w f) (hi:i < 510): ∃b:UInt8,w.cell? ⟨f,3+i,none⟩=some (.int .u8 b.toNat):=by
 obtain⟨c,d,hg,hc,_⟩:=h
 obtain⟨b,hb⟩:=hc.exp i hi
 exact⟨b,by rw [cell_of_row w f _ _ _ _ hg];exact hb⟩
theorem mul_c (f:Nat) (a b:UInt8) (w:World) (hf:FldR w f):
  Calls Tryz.prog 235 #[.pointer (some ⟨f,0,none⟩),.int .u8 a.toNat,.int .u8 b.toNat] w fun e w'=> ∃z:UInt8,e= .returned (.int .u8 z.toNat)/\FldR w' f/\Ext [f] w w':=by
 have HF:=hi_ hf
 have ha:=UInt8.toNat_lt a
 have hb:=UInt8.toNat_lt b
 clear hf
 obtain⟨x,hx⟩: ∃x,x=a.toNat:=⟨_,rfl⟩
 obtain⟨y,hy⟩: ∃y,y=b.toNat:=⟨_,rfl⟩
 obtain⟨HX,HY⟩:=h_2 hx hy
 rw [<-hx] at ha
 rw [<-hy] at hb
 rw [<-hx,<-hy]
 clear hx hy
 by_cases ha0:x=0
 ·subst ha0
  go_enter Tryz.func235,Tryz.ntmps235
  go_wp2
  go_ret
  exact⟨0,rfl,HF.out,Ext.refl _ _⟩
 ·have a1: ¬((x:Int)=0):=by omega
  have a2:((x:Int)==0)=false:=by simpa using a1
  by_cases hb0:y=0
  ·subst hb0
   go_enter Tryz.func235,Tryz.ntmps235
   go_wp2
   go_ret
   exact⟨0,rfl,HF.out,Ext.refl _ _⟩
  ·have b1: ¬((y:Int)=0):=by omega
   have b2:((y:Int)==0)=false:=by simpa using b1
   go_enter Tryz.func235,Tryz.ntmps235
   go_wp2_with fail
   refine(ready_c f _ HF.out).mono ?_
   rintro e W1 ⟨rfl,hr1,hE1⟩
   obtain⟨n,hn,hl1⟩:=hr1.logs a
   obtain⟨m,hm,hl2⟩:=hr1.logs b
   obtain⟨z,hz⟩:=hr1.exps (i:=n+m) (by omega)
   rw [<-HX.out] at hl1
   rw [<-HY.out] at hl2
   have HR1:=hi_ hr1
   have w1:IntKind.i64.wrap ((n:Int)+(m:Int))=(n:Int)+(m:Int):=IntWalk.i64_in _ (by omega)
   have w2:((n:Int)+(m:Int)).toNat=n+m:=by omega
   have w3:(n:Int)+(m:Int) < 510:=by omega
   have w4:(0:Int)<=(n:Int)+(m:Int):=by omega
   have w5:(x:Int) < 256:=by omega
   have w6:(y:Int) < 256:=by omega
   clear hr1
   go_wp2_with fail
   go_big_quiet (fail)
   go_wp2
   go_ret
   exact⟨z,rfl,HR1.out.ext0 ((Ext.refl [] _).drewN _),hE1.drewN _⟩
theorem pow2_c (f:Nat) (k:Nat) (hk:k<=1000) (w:World) (hf:FldR w f):
  Calls Tryz.prog 237 #[.pointer (some ⟨f,0,none⟩),.int .u8 2,.int .i64 k] w fun e w'=> ∃z:UInt8,e= .returned (.tuple #[.int .u8 z.toNat,.int .i64 0])/\FldR w' f/\Ext [f] w w':=by
 have HF:=hi_ hf
 clear hf
 by_cases h0:k=0
 ·subst h0
  go_enter Tryz.func237,Tryz.ntmps237
  go_wp2
  go_ret2
  exact⟨1,rfl,HF.out,Ext.refl _ _⟩
 ·have a0: ¬((k:Int) < 0):=by omega
  have a1: ¬((k:Int)=0):=by omega
  have a2:((k:Int)==0)=false:=by simpa using a1
  go_enter Tryz.func237,Tryz.ntmps237
  go_wp2_with fail
  refine(ready_c f _ HF.out).mono ?_
  rintro e W1 ⟨rfl,hr1,hE1⟩
  obtain⟨n,hn,hl1⟩:=hr1.logs 2
  have e2:(2:UInt8).toNat=2:=rfl
  rw [e2] at hl1
  have t1:((k:Nat):Int).tmod 255=((k % 255:Nat):Int):=by rw [Int.tmod_eq_emod_of_nonneg (by omega)];omega
  obtain⟨r,hr⟩: ∃r,r=k % 255:=⟨_,rfl⟩
  have hr2:r<=254:=by omega
  rw [<-hr] at t1
  have hnr:n*r<=254*254:=Nat.mul_le_mul hn hr2
  have w1:IntKind.i64.wrap ((n:Int)*(r:Int))=((n*r:Nat):Int):=by rw [<-Int.natCast_mul];exact IntWalk.i64_in _ (by omega)
  obtain⟨p,hp⟩: ∃p,p=n*r:=⟨_,rfl⟩
  rw [<-hp] at w1 hnr
  have t2:((p:Nat):Int).tmod 255=((p % 255:Nat):Int):=by rw [Int.tmod_eq_emod_of_nonneg (by omega)];omega
  obtain⟨s,hs⟩: ∃s,s=p % 255:=⟨_,rfl⟩
  have hs2:s<=254:=by omega
  rw [<-hs] at t2
  obtain⟨z,hz⟩:=hr1.exps (i:=s) (by omega)
  have w3:(s:Int) < 510:=by omega
  have HR1:=hi_ hr1
  clear hr1 hr hp hs
  go_wp2_with fail
  go_big_quiet (fail)
  go_wp2
  go_ret2
  exact⟨z,rfl,HR1.out.ext0 ((Ext.refl [] _).drewN _),hE1.drewN _⟩
def ES:Enc (Option Addr×Nat×Nat) where
 k:=1
 hk:=by decide
 enc x:= [.slice x.1 x.2.1 x.2.2]
 len _:=rfl
 one _ v hv:=by simp at hv;subst hv;rfl
theorem tiS:Ti Tryz.prog ES 158 24 (none,0,0):=Ti.mk' (z:= .slice none 0 0) (by kernel_rfl) rfl
def U8 (w:World) (g n:Nat):Prop:= ∃bs:List UInt8,bs.length=n/\w.heap[g]? =some (.cells (EB.flat bs).toArray 5 (0,0))
theorem U8.lt (h:U8 w g n):g < w.heap.size:=by obtain⟨_,_,h⟩:=h;exact g_ h
theorem U8.ext (h:U8 w g n) (he:Ext S w w') (hn:g∉S):U8 w' g n:=by
 obtain⟨bs,h1,h2⟩:=h
 exact⟨bs,h1,he.blk h2 hn⟩
theorem U8.ne {c:Array Value} {x:Nat×Nat} (h:U8 w g n) (hb:w.heap[b]? =some (.cells c T x)) (hT:5≠T):g≠b:=by
 rintro rfl
 obtain⟨bs,_,h2⟩:=h
 rw [hb] at h2
 simp only [Option.some.injEq,Obj.cells.injEq] at h2
 exact hT h2.2.1.symm
theorem U8.cell (h:U8 w g n) (hi:i < n): ∃b:UInt8,w.cell? ⟨g,i,none⟩=some (.int .u8 b.toNat):=by
 obtain⟨bs,h1,h2⟩:=h
 refine⟨bs.getD i 0, ?_⟩
 have hr:EB.Rd w (.slice (some ⟨g,0,none⟩) bs.length bs.length) bs:= .inr ⟨g,0,bs.length,rfl,Nat.le_refl _,g_ h2,fun j u hj=> by rw [cell_of_row _ g _ _ _ _ h2];simp at hj ⊢;exact hj⟩
 have:=bA_ hr i (by omega)
 simpa using this
theorem U8.set (h:U8 w g n) (i:Nat) (b:UInt8):U8 (w.setCell ⟨g,i,none⟩ (.int .u8 b.toNat)) g n:=by
 obtain⟨bs,h1,h2⟩:=h
 refine⟨bs.set i b,by simp [h1], ?_⟩
 rw [heap_setCell_same w g i _ _ _ h2]
 congr 2
 apply Array.ext'
 rw [flatB',flatB']
 simp [List.map_set]
where
 flatB' (l:List UInt8):EB.flat l=l.map (fun b=> Value.int .u8 b.toNat):=by
  induction l with
  | nil=> rfl
  | cons a l ih=> simp [ih];rfl
theorem U8.frozen (h:U8 w g n) (j:Nat):w.frozen? ⟨g,j,none⟩=false:=by obtain⟨_,_,h⟩:=h;exact frozen_of_row _ _ _ _ _ h
theorem infoP:(Tryz.prog.info? 354).map (·.size)=some 3:=by kernel_rfl
theorem weights_c (f k:Nat) (hk:k<=1000) (w:World) (hf:FldR w f):
  Calls Tryz.prog 233 #[.pointer (some ⟨f,0,none⟩),.int .i64 k] w fun e w'=> ∃q z:UInt8,e= .returned (.agg #[.int .u8 1,.int .u8 q.toNat,.int .u8 z.toNat])/\FldR w' f/\Ext [f] w w':=by
 have HF:=hi_ hf
 have lf:=hf.lt
 clear hf
 go_enter Tryz.func233,Tryz.ntmps233
 go_wp2_with fail
 have hg:=heap_alloc_new w (.cells #[.int .u8 0,.int .u8 0,.int .u8 0] 354)
 have hE:Ext [f] w (w.alloc (.cells #[.int .u8 0,.int .u8 0,.int .u8 0] 354)):=(Ext.refl [f] w).alloc _
 have hf1:=HF.out.ext0 ((Ext.refl [] w).alloc (.cells #[.int .u8 0,.int .u8 0,.int .u8 0] 354))
 obtain⟨g,hge⟩: ∃g,g=w.heap.size:=⟨_,rfl⟩
 simp only [<-hge] at hg ⊢
 have lg:w.heap.size<=g:=by omega
 have hgf:g≠f:=by omega
 obtain⟨HF1,HG1⟩:=h_2 hf1 hg
 clear hge hf1 hg HF
 revert HF1 HG1 hE
 generalize World.alloc _ _=W1
 intro hE HF1 HG1
 refine(pow2_c f k hk _ HF1.out).mono ?_
 rintro e W2 ⟨q,rfl,hf2,hE2⟩
 have HF2:=hi_ hf2
 have HG2:=hi_ (hE2.blk HG1.out (by simpa using hgf))
 clear hf2 HF1 HG1
 go_wp2_with fail
 refine(mul_c f q q _ HF2.out).mono ?_
 rintro e W3 ⟨z,rfl,hf3,hE3⟩
 have HF3:=hi_ hf3
 have HG3:=hi_ (hE3.blk HG2.out (by simpa using hgf))
 have hE03:=(hE.trans hE2).trans hE3
 clear hf3 HF2 HG2 hE hE2 hE3
 go_wp2_with (with_reducible refine f_ (d:=18) ?_)
 unfold Hold
 refine wpList_build rfl 354 _ rfl (by kernel_rfl) ?_
 refine wpList_store_row rfl 354 (.tmp 4) (.tmp 18) rfl g #[.int .u8 1,.int .u8 q.toNat,.int .u8 z.toNat] rfl (by kernel_rfl) 354 _ HG3.out infoP rfl (by kernel_rfl) ?_
 go_wp2_with fail
 refine bodyPost_ret (results_cell_row rfl _ _ g 354 _ (0,0) _ rfl (setRow_heap _ g _ _ 354 _ HG3.out) Tryz.underlying354 rfl infoP) rfl ?_
 refine⟨q,z,rfl, ?_,hE03.setRow (.inr lg) _⟩
 obtain⟨c,d,hc,h⟩:=HF3.out
 exact⟨c,d,(Ext.setRow (g:=g) (Ext.refl [g] W3) (.inl (by simp)) _).blk hc (by simpa using hgf.symm),h⟩
theorem dM_ {g o n cap:Nat} {s:List (Option Addr×Nat×Nat)} (h:ES.Rd w (.slice (some ⟨g,o,none⟩) n cap) s) (i:Nat) (x:Option Addr×Nat×Nat) (hi:s[i]? =some x):w.cell? ⟨g,o+i,none⟩=some (.slice x.1 x.2.1 x.2.2):=by
 obtain⟨h0,h1⟩:=List.getElem?_eq_some_iff.1 hi
 have h1':=h.cells i 0 h0 (by decide)
 rw [h1] at h1'
 simpa [ES] using h1'
theorem xor_u8 (a b:UInt8): ∃c:UInt8,bits .xor .u8 (a.toNat:Int) (b.toNat:Int)=c.toNat:=by
 refine⟨a ^^^ b, ?_⟩
 rw [u8_xor_nat _ _ (UInt8.toNat_lt a) (UInt8.toNat_lt b),UInt8.toNat_xor]
theorem three_of (gs:List Nat) (h:gs.length=3): ∃a b c,gs= [a,b,c]:=by
 match gs,h with
 | [a,b,c],_=> exact⟨a,b,c,rfl⟩
def bg_ (n g:Nat):Option Addr×Nat×Nat:=(some ⟨g,0,none⟩,n,n)
theorem padd_c (f i n:Nat) (vt col:Value) (gs:List Nat) (bs:List UInt8) (w:World) (hi:i<=1000) (hf:FldR w f) (hto:ES.Rd w vt (gs.map (bg_ n))) (hg3:gs.length=3) (hgs: ∀g∈gs,U8 w g n)
  (hcol:EB.Rd w col bs) (hbl:bs.length=n) (hnc: ∀y∈blkL col,y∉f::gs) (hnt: ∀y∈blkL vt,y∉f::gs) (hn:n<=100000):
  Calls Tryz.prog 229 #[.pointer (some ⟨f,0,none⟩),vt,.int .i64 i,col] w fun e w'=> e= .returned (.tuple #[])/\FldR w' f/\(∀g∈gs,U8 w' g n)/\Ext (f::gs) w w':=by
 obtain⟨HF,HTO,HGS,HC,HNC,HNT⟩:=h_6 hf hto hgs hcol hnc hnt
 have lf:=hf.lt
 have lgs: ∀g∈gs,g < w.heap.size:=fun g hg=> (hgs g hg).lt
 have hfg:f∉gs:=fun h=> by
  obtain⟨_,_,h1,_⟩:=hf
  exact(hgs f h).ne h1 (by decide) rfl
 obtain⟨pt,ct,rfl,_⟩:=hto.len_eq
 obtain⟨pc,cc,rfl,_⟩:=hcol.len_eq
 obtain⟨gt,ot,rfl⟩: ∃g o,pt=some ⟨g,o,none⟩:=by
  rcases hto with ⟨_,h⟩ | ⟨g,o,c,h,_⟩
  ·have:=congrArg List.length h;simp [hg3] at this
  ·simp only [Value.slice.injEq] at h;exact⟨g,o,h.1⟩
 obtain⟨HFG,LGS⟩:=h_2 hfg lgs
 simp only [List.length_map,hg3]
 rw [hbl]
 clear hf hto hgs hcol hnc hnt hfg lgs
 go_enter Tryz.func229,Tryz.ntmps229
 go_wp2_with fail
 refine(weights_c f i hi _ HF.out).mono ?_
 rintro e W1 ⟨q,z,rfl,hf1,hE1⟩
 have hE1':Ext (f::gs) w W1:=hE1.mono (by simp)
 have hgs1: ∀g∈gs,U8 W1 g n:=fun g hg=> (HGS.out g hg).ext hE1 (by simp;rintro rfl;exact HFG.out hg)
 obtain⟨HGS1,HF1⟩:=h_2 hgs1 hf1
 clear hf1 hE1 hgs1
 go_wp2_with fail
 have hgw:=heap_alloc_new W1 (.cells #[.int .u8 1,.int .u8 q.toNat,.int .u8 z.toNat] 354)
 have hE2:=hE1'.alloc (.cells #[.int .u8 1,.int .u8 q.toNat,.int .u8 z.toNat] 354)
 have hE12:=(Ext.refl [] W1).alloc (.cells #[.int .u8 1,.int .u8 q.toNat,.int .u8 z.toNat] 354)
 have hf2:=HF1.out.ext0 hE12
 have hgs2: ∀g∈gs,U8 _ g n:=fun g hg=> (HGS1.out g hg).ext hE12 (by simp)
 have lw:=hE1'.size
 obtain⟨gw,hge⟩: ∃g,g=W1.heap.size:=⟨_,rfl⟩
 simp only [<-hge] at hgw ⊢
 have lgw:w.heap.size<=gw:=by omega
 have hwn:gw∉f::gs:=fun h=> by
  rcases List.mem_cons.1 h with h | h
  ·omega
  ·have:=LGS.out _ h;omega
 obtain⟨HWN,HGW,HF2,HGS2⟩:=h_4 hwn hgw hf2 hgs2
 clear hge hgw hf2 hgs2 hE1' hE12 HF1 HGS1 lw hwn
 revert HF2 HGS2 HGW hE2
 generalize World.alloc _ _=W2
 intro hE2 HGW HF2 HGS2
 go_loopw [9,10,11,12,18] (fun _ _ _ _ c wr=> ∃r:Nat,r<=3/\c= .int .i64 r/\Ext (f::gs) W2 wr/\Hid (FldR wr f)/\Hid (∀g∈gs,U8 wr g n)) (fun _ _ _ _ c _=> 3 - (intOf c).toNat)
 case atStart=> exact⟨0,by omega,rfl,Ext.refl _ _,HF2,HGS2⟩
 case round=>
  obtain⟨r,hr,rfl,hE3,HF3,HGS3⟩:=hrel
  by_cases hlt:r < 3
  ·have z1:(r:Int) < 3:=by omega
   have hE03:=hE2.trans hE3
   obtain⟨g,hg⟩: ∃g,gs[r]? =some g:=⟨gs[r]'(by omega),List.getElem?_eq_getElem _⟩
   have hmem:g∈gs:=List.mem_of_getElem? hg
   have hcell:=dM_ (HTO.out.ext hE03 HNT.out) r (bg_ n g) (by simp [hg])
   simp only [bg_] at hcell
   obtain⟨HMEM,HE03⟩:=h_2 hmem hE03
   clear hg hmem hE03
   go_wp2_with fail
   go_loopw [11,12,25] (fun _ _ c w2=> ∃k:Nat,k<=n/\c= .int .i64 k/\Ext (f::gs) W2 w2/\Hid (FldR w2 f)/\Hid (∀g∈gs,U8 w2 g n)) (fun _ _ c _=> n - (intOf c).toNat)
   case atStart=> exact⟨0,by omega,rfl,hE3,HF3,HGS3⟩
   case round=>
    obtain⟨k,hk,rfl,hE4,HF4,HGS4⟩:=hrel
    clear hcell
    by_cases hlk:k < n
    ·have z2:(k:Int) < (n:Int):=by omega
     have z3:(0:Int)<=(k:Int):=by omega
     have hE04:=hE2.trans hE4
     have hcr:=HC.out.ext hE04 HNC.out
     obtain⟨gc,oc,rfl⟩: ∃g o,pc=some ⟨g,o,none⟩:=by
      rcases hcr with ⟨_,h⟩ | ⟨g,o,c,h,_⟩
      ·rw [h] at hbl;simp at hbl;omega
      ·simp only [Value.slice.injEq] at h;exact⟨g,o,h.1⟩
     have hc1:=bA_ hcr k (by omega)
     obtain⟨b,hb⟩: ∃b,b=bs.getD k 0:=⟨_,rfl⟩
     rw [<-hb] at hc1
     clear hcr hb
     go_wp2_with fail
     obtain⟨x,hc2⟩:=(HGS4.out g HMEM.out).cell hlk
     have hc3: ∃y:UInt8,wr.cell? ⟨gw,r,none⟩=some (.int .u8 y.toNat):=by
      have h:=hE4.blk HGW.out HWN.out
      rcases(show r=0\/r=1\/r=2 by omega) with rfl | rfl | rfl
      ·exact⟨1,by rw [cell_of_row _ gw _ _ _ _ h];rfl⟩
      ·exact⟨q,by rw [cell_of_row _ gw _ _ _ _ h];rfl⟩
      ·exact⟨z,by rw [cell_of_row _ gw _ _ _ _ h];rfl⟩
     obtain⟨y,hc3⟩:=hc3
     have hD:Ext [] wr wr.drew:=(Ext.refl [] _).drew
     have hd2:=hD.cell hc2 (by simp)
     have hd3:=hD.cell hc3 (by simp)
     have hwg:gw≠g:=fun h=> HWN.out (by rw [h];exact List.mem_cons_of_mem _ HMEM.out)
     have hff:g≠f:=fun h=> HFG.out (by rw [<-h];exact HMEM.out)
     have hwf:gw≠f:=fun h=> HWN.out (by rw [h];exact List.mem_cons_self)
     have HWG:=hi_ (And.intro hwg (And.intro hff hwf))
     have z4:(0:Int)<=(r:Int):=by omega
     clear hc1 hc2 hc3 hD hwg hff hwf
     refine e_ (fun W=> W.cell? ⟨g,k,none⟩=some (.int .u8 x.toNat)/\W.cell? ⟨gw,r,none⟩=some (.int .u8 y.toNat)) (fun i=> decide (i < 12)) (by kernel_rfl) ⟨hd2,hd3⟩ (fun hS=> ?_)
     refine ta 0 ?_;(try go_frame)
     refine ta 1 ?_;(try go_frame)
     refine ta 2 ?_;(try go_frame)
     refine ta 3 ?_;(try go_frame)
     refine ta 4 ?_;(try go_frame)
     refine ta 5 ?_;(try go_frame)
     refine ta 6 ?_;(try go_frame)
     refine ta 7 ?_;(try go_frame)
     refine ta 8 ?_;(try go_frame)
     refine a_ (i:=9) (by kernel_rfl) rfl (fun K hK=> ?_)
     (try simp only [Act.put,zA,zB,zC,List.setIfInBounds_toArray,zD,zE]);refine iw rfl ?_
     go_simp
     refine(mul_c f y b _ (HF4.out.ext0 (Ext.refl [] _).drew)).mono ?_
     rintro e W5 ⟨t,rfl,hf5,hE5⟩
     have s5:=hE5.cell hS.1 (by simpa using HWG.out.2.1)
     have s6:=hE5.cell hS.2 (by simpa using HWG.out.2.2)
     refine hK _ _ (fun _=> ⟨s5,s6⟩) (fun hS5=> ?_)
     have hS6:=hS5 rfl
     obtain⟨xy,hxy⟩:=xor_u8 x t
     have hg5:=(HGS4.out g HMEM.out).ext ((Ext.refl [] wr).drew.nil.trans hE5) (by simpa using HWG.out.2.1)
     have fz5: ∀j,W5.frozen? ⟨g,j,none⟩=false:=hg5.frozen
     have hE05:Ext (f::gs) W2 W5:=hE4.drew.trans (hE5.mono (by simp))
     obtain⟨HG5,HF5⟩:=h_2 hg5 hf5
     have HGS5:Hid (∀g∈gs,U8 W5 g n):=hi_ (fun g' hg'=> (HGS4.out g' hg').ext ((Ext.refl [] wr).drew.nil.trans hE5) (by simp;rintro rfl;exact HFG.out hg'))
     clear hS hg5 hf5 hE5 hS5 s5 s6
     refine ta 10 ?_;(try go_frame)
     simp only [zA,zB,zC,zD,zE]
     refine ta 11 ?_;(try go_frame)
     simp only [zA,zB,zC,zD,zE]
     refine a_ (i:=12) (by kernel_rfl) rfl (fun K hK=> ?_)
     refine iw rfl ?_
     go_simp
     refine hK _ _ (fun h=> by cases h) (fun _=> ?_)
     refine c_ (by kernel_rfl) ?_ _
     have hg6:=(HG5.out.set k xy)
     have hE6:Ext (f::gs) W2 (W5.setCell ⟨g,k,none⟩ (.int .u8 xy.toNat)):=hE05.setCell (.inl (List.mem_cons_of_mem _ HMEM.out)) _
     have hE56:Ext [g] W5 (W5.setCell ⟨g,k,none⟩ (.int .u8 xy.toNat)):=(Ext.refl [g] W5).setCell (.inl (by simp)) _
     have hf6:FldR (W5.setCell ⟨g,k,none⟩ (.int .u8 xy.toNat)) f:=by
      obtain⟨c,d,h1,h2⟩:=HF5.out
      exact⟨c,d,hE56.blk h1 (by simpa using HWG.out.2.1.symm),h2⟩
     have hgs6: ∀g'∈gs,U8 (W5.setCell ⟨g,k,none⟩ (.int .u8 xy.toNat)) g' n:=fun g' hg'=> by
      by_cases h:g'=g
      ·rw [h];exact hg6
      ·exact(HGS5.out g' hg').ext hE56 (by simpa using h)
     go_wp2_with fail
     go_roundw
     case rel=> exact⟨k+1,by omega,by go_num,hE6,hi_ hf6,hi_ hgs6⟩
     case measure=> simp [intOf];omega
    ·obtain rfl:k=n:=by omega
     have z2: ¬((k:Int) < (k:Int)):=by omega
     go_wp2_with fail
     go_roundw
     case rel=> exact⟨r+1,by omega,by go_num,hE4,HF4,HGS4⟩
     case measure=> simp [intOf];omega
  ·obtain rfl:r=3:=by omega
   have z1: ¬(((3:Nat):Int) < 3):=by omega
   go_wp2
   go_end0
   exact⟨rfl,HF3.out,HGS3.out,hE2.trans hE3⟩
end Go.Proofs.YtkpgjkekmdecbaaGreat
