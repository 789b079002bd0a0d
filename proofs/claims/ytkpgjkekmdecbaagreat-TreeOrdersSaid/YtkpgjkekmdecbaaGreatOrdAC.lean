/- Lemmas for the claim. No conditions beside those that each states. -/
import Derived.Test.YtkpgjkekmdecbaaGreatOrdAB
import Derived.Test.YtkpgjkekmdecbaaGreatRows
import Derived.KernelRfl
import Derived.StillTailTactics
import Derived.BigQuiet
import Derived.Deep.CutBlock
set_option maxRecDepth 100000
set_option maxHeartbeats 8000000
set_option linter.all false

namespace Go.Proofs.YtkpgjkekmdecbaaGreat
open Go.RowKit
variable {w:World} {T:TypeId} {g:Nat}
def EPr:Enc Pr where
 k:=2
 hk:=by decide
 enc x:= [.string ⟨x.1.toArray⟩,.string ⟨x.2.toArray⟩]
 len _:=rfl
 one _ v hv:=by simp at hv;rcases hv with rfl | rfl <;> rfl
def EKy:Enc Ky where
 k:=1
 hk:=by decide
 enc x:= [.string ⟨x.toArray⟩]
 len _:=rfl
 one _ v hv:=by simp at hv;subst hv;rfl
abbrev Rfm:=Ptr4×Option Nat
def ptV (b:Option Nat):Value:= .pointer (b.map (fun b=> ⟨b,0,none⟩))
def ERf:Enc Rfm where
 k:=5
 hk:=by decide
 enc x:= [.int .i64 x.1.1,.int .i64 x.1.2.1,.int .i64 x.1.2.2.1,.string ⟨x.1.2.2.2.toArray⟩,ptV x.2]
 len _:=rfl
 one _ v hv:=by simp at hv;rcases hv with rfl | rfl | rfl | rfl | rfl <;> rfl
abbrev Pcm:=Rfm×Ky
def EPc:Enc Pcm where
 k:=6
 hk:=by decide
 enc x:= [.int .i64 x.1.1.1,.int .i64 x.1.1.2.1,.int .i64 x.1.1.2.2.1,.string ⟨x.1.1.2.2.2.toArray⟩,ptV x.1.2,.string ⟨x.2.toArray⟩]
 len _:=rfl
 one _ v hv:=by simp at hv;rcases hv with rfl | rfl | rfl | rfl | rfl | rfl <;> rfl
abbrev Itm3:=Int×Int×Ky
def EIt:Enc Itm3 where
 k:=3
 hk:=by decide
 enc x:= [.int .i64 x.1,.int .i64 x.2.1,.string ⟨x.2.2.toArray⟩]
 len _:=rfl
 one _ v hv:=by simp at hv;rcases hv with rfl | rfl | rfl <;> rfl
abbrev R0:Rfm:=(P0,none)
abbrev I0:Itm3:=(0,0,[])
theorem tiP:Ti Tryz.prog EP 34 40 (0,0,0,[]):=Ti.mk' (z:= .agg #[.int .i64 0,.int .i64 0,.int .i64 0,.string ⟨#[]⟩]) (by kernel_rfl) rfl
theorem tiPr:Ti Tryz.prog EPr 36 32 ([],[]):=Ti.mk' (z:= .agg #[.string ⟨#[]⟩,.string ⟨#[]⟩]) (by kernel_rfl) rfl
theorem tiKy:Ti Tryz.prog EKy 9 16 []:=Ti.mk' (z:= .string ⟨#[]⟩) (by kernel_rfl) rfl
theorem tiRf:Ti Tryz.prog ERf 89 48 R0:=Ti.mk' (z:= .agg #[.int .i64 0,.int .i64 0,.int .i64 0,.string ⟨#[]⟩,.pointer none]) (by kernel_rfl) rfl
theorem tiPc:Ti Tryz.prog EPc 184 64 (R0,[]):=Ti.mk' (z:= .agg #[.int .i64 0,.int .i64 0,.int .i64 0,.string ⟨#[]⟩,.pointer none,.string ⟨#[]⟩]) (by kernel_rfl) rfl
theorem tiIt:Ti Tryz.prog EIt 215 32 I0:=Ti.mk' (z:= .agg #[.int .i64 0,.int .i64 0,.string ⟨#[]⟩]) (by kernel_rfl) rfl
theorem aJ_ {g o n cap:Nat} {s:List Pr} (h:EPr.Rd w (.slice (some ⟨g,o,none⟩) n cap) s) (i:Nat) (hi:i < s.length):
  w.cell? ⟨g,o+i*2,none⟩=some (.string ⟨(s.getD i ([],[])).1.toArray⟩)/\w.cell? ⟨g,o+i*2+1,none⟩=some (.string ⟨(s.getD i ([],[])).2.toArray⟩):=by
 have e:s.getD i ([],[])=s[i]:=by simp [List.getD,hi]
 rw [e]
 exact⟨h.cells i 0 hi (by decide),h.cells i 1 hi (by decide)⟩
theorem bz_ {g o n cap:Nat} {s:List Ky} (h:EKy.Rd w (.slice (some ⟨g,o,none⟩) n cap) s) (i:Nat) (hi:i < s.length):w.cell? ⟨g,o+i,none⟩=some (.string ⟨(s.getD i []).toArray⟩):=by
 have e:s.getD i []=s[i]:=by simp [List.getD,hi]
 have h1:=h.cells i 0 hi (by decide)
 rw [e]
 simpa [EKy] using h1
theorem ba_ {g o n cap:Nat} {s:List Rfm} (h:ERf.Rd w (.slice (some ⟨g,o,none⟩) n cap) s) (i:Nat) (hi:i < s.length):
  w.cell? ⟨g,o+i*5,none⟩=some (.int .i64 (s.getD i R0).1.1)/\w.cell? ⟨g,o+i*5+1,none⟩=some (.int .i64 (s.getD i R0).1.2.1)/\w.cell? ⟨g,o+i*5+2,none⟩=some (.int .i64 (s.getD i R0).1.2.2.1)/\
  w.cell? ⟨g,o+i*5+3,none⟩=some (.string ⟨(s.getD i R0).1.2.2.2.toArray⟩)/\w.cell? ⟨g,o+i*5+4,none⟩=some (ptV (s.getD i R0).2):=by
 have e:s.getD i R0=s[i]:=by simp [List.getD,hi]
 rw [e]
 exact⟨h.cells i 0 hi (by decide),h.cells i 1 hi (by decide),h.cells i 2 hi (by decide),h.cells i 3 hi (by decide),h.cells i 4 hi (by decide)⟩
theorem gs_ {g o n cap:Nat} {s:List Pcm} (h:EPc.Rd w (.slice (some ⟨g,o,none⟩) n cap) s) (i:Nat) (hi:i < s.length):
  w.cell? ⟨g,o+i*6,none⟩=some (.int .i64 (s.getD i (R0,[])).1.1.1)/\w.cell? ⟨g,o+i*6+1,none⟩=some (.int .i64 (s.getD i (R0,[])).1.1.2.1)/\w.cell? ⟨g,o+i*6+2,none⟩=some (.int .i64 (s.getD i (R0,[])).1.1.2.2.1)/\
  w.cell? ⟨g,o+i*6+3,none⟩=some (.string ⟨(s.getD i (R0,[])).1.1.2.2.2.toArray⟩)/\w.cell? ⟨g,o+i*6+4,none⟩=some (ptV (s.getD i (R0,[])).1.2)/\w.cell? ⟨g,o+i*6+5,none⟩=some (.string ⟨(s.getD i (R0,[])).2.toArray⟩):=by
 have e:s.getD i (R0,[])=s[i]:=by simp [List.getD,hi]
 rw [e]
 exact⟨h.cells i 0 hi (by decide),h.cells i 1 hi (by decide),h.cells i 2 hi (by decide),h.cells i 3 hi (by decide),h.cells i 4 hi (by decide),h.cells i 5 hi (by decide)⟩
theorem aK_ {g o n cap:Nat} {s:List Itm3} (h:EIt.Rd w (.slice (some ⟨g,o,none⟩) n cap) s) (i:Nat) (hi:i < s.length):
  w.cell? ⟨g,o+i*3,none⟩=some (.int .i64 (s.getD i I0).1)/\w.cell? ⟨g,o+i*3+1,none⟩=some (.int .i64 (s.getD i I0).2.1)/\w.cell? ⟨g,o+i*3+2,none⟩=some (.string ⟨(s.getD i I0).2.2.toArray⟩):=by
 have e:s.getD i I0=s[i]:=by simp [List.getD,hi]
 rw [e]
 exact⟨h.cells i 0 hi (by decide),h.cells i 1 hi (by decide),h.cells i 2 hi (by decide)⟩
theorem Enc.Rd.takeS {α:Type} {E:Enc α} {a:Addr} {n cap k:Nat} {s:List α} (h:E.Rd w (.slice (some a) n cap) s) (hk:k<=s.length):E.Rd w (.slice (some a) k cap) (s.take k):=by
 rcases h with ⟨h,_⟩ | ⟨g,o,c,h,h1,h2,h3⟩
 ·cases h
 ·simp only [Value.slice.injEq,Option.some.injEq] at h
  obtain⟨rfl,rfl,rfl⟩:=h
  refine .inr ⟨g,o,cap,by simp [hk],by simp;omega,h2,fun j u hj=> h3 j u ?_⟩
  rw [E.flat_take] at hj
  rw [List.getElem?_take] at hj
  split at hj
  ·exact hj
  ·cases hj
theorem Enc.Rd.dropS {α:Type} {E:Enc α} {g o n cap k:Nat} {s:List α} (h:E.Rd w (.slice (some ⟨g,o,none⟩) n cap) s):E.Rd w (.slice (some ⟨g,o+k*E.k,none⟩) (n - k) (cap - k)) (s.drop k):=by
 rcases h with ⟨h,_⟩ | ⟨g',o',c,h,h1,h2,h3⟩
 ·cases h
 ·simp only [Value.slice.injEq,Option.some.injEq,Addr.mk.injEq] at h
  obtain⟨⟨rfl,rfl,_⟩,rfl,rfl⟩:=h
  refine .inr ⟨g,o+k*E.k,cap - k,by simp,by simp;omega,h2,fun j u hj=> ?_⟩
  rw [E.flat_drop,List.getElem?_drop] at hj
  rw [<-h3 (k*E.k+j) u hj]
  congr 2
  omega
theorem Enc.Rd.dropS2 {α:Type} {E:Enc α} {g o n cap k:Nat} {s:List α} (h:E.Rd w (.slice (some ⟨g,o,none⟩) n cap) s):E.Rd w (.slice (if cap=k then some ⟨g,o,none⟩ else some ⟨g,o+k*E.k,none⟩) (n - k) (cap - k)) (s.drop k):=by
 by_cases hc:cap=k
 ·rw [if_pos hc]
  rcases h with ⟨h,_⟩ | ⟨g',o',c,h,h1,h2,h3⟩
  ·cases h
  ·simp only [Value.slice.injEq,Option.some.injEq,Addr.mk.injEq] at h
   obtain⟨⟨rfl,rfl,_⟩,rfl,rfl⟩:=h
   have e:s.drop k= []:=List.drop_eq_nil_of_le (by omega)
   rw [e]
   exact .inr ⟨g,o,cap - k,by simp;omega,by simp,h2,fun j u hj=> by simp [Enc.flat] at hj⟩
 ·rw [if_neg hc]
  exact h.dropS
theorem tiEPr:Ti Tryz.prog EPr 36 32 ([],[]):=tiPr
theorem tiEKy:Ti Tryz.prog EKy 9 16 []:=tiKy
theorem tiERf:Ti Tryz.prog ERf 89 48 R0:=tiRf
theorem tiEPc:Ti Tryz.prog EPc 184 64 (R0,[]):=tiPc
theorem tiEP:Ti Tryz.prog EP 34 40 (0,0,0,[]):=tiP
theorem aZ_ (v:Value) (s:List _) (w:World) (hl:s.length<=1000000) (hv:EPr.Rd w v s):
  Calls Tryz.prog 45 #[v] w (aL_ EPr 36 v s w):=by
 rcases hv with ⟨rfl,rfl⟩ | ⟨g,o,cap,rfl,h1,hg,hc⟩
 ·have hn:=fun w=> Lib.run_eql_slice_nil (P:=Tryz.prog) w 22 36 none 0 0 0 0 Tryz.underlying22
  go_enter Tryz.func45,Tryz.ntmps45
  go_wp2
  go_ret
  exact⟨_,rfl,.inl ⟨rfl,rfl⟩,Ext.refl _ _,by simp [blkL],by simp⟩
 ·have hn:=fun w=> Lib.run_eql_slice_nil (P:=Tryz.prog) w 22 36 (some ⟨g,o,none⟩) s.length cap 0 0 Tryz.underlying22
  have hv0:EPr.Rd w (.slice (some ⟨g,o,none⟩) s.length cap) s:= .inr ⟨g,o,cap,rfl,h1,hg,hc⟩
  have HV:=hi_ hv0
  clear hv0 hc
  go_enter Tryz.func45,Tryz.ntmps45
  go_wp2_with (with_reducible refine f_ (d:=7) ?_)
  refine k_ rfl fun K hK=> b_ (E:=EPr) (T:=36) (zero:=([],[])) (bytes:=32) (v:= .slice (some ⟨w.heap.size,0,none⟩) 0 0) (xs:= []) (ys:=s) tiEPr Tryz.underlying22 Tryz.underlying22 rfl rfl rfl ?_ (HV.out.ext0 ((Ext.refl _ _).alloc _)) (by simp;omega) (by simp;omega) ?_
  ·exact .inr ⟨w.heap.size,0,0,[],rfl,heap_alloc_new w _,by simp,by simp,by simp⟩
  ·intro v' w' how hext hnear hnn
   refine hK _ _ ?_
   clear hK
   go_wp2
   go_ret
   refine⟨v',rfl,how,((Ext.refl [] w).alloc _).trans' hext (by simp) (by simp [blkL]), ?_, ?_⟩
   ·intro x hx
    rcases hnear x hx with h | h
    ·simp [blkL] at h;omega
    ·simp at h;omega
   ·exact⟨(fun h=> by cases h),(fun h=> by cases (hnn.2 h).1)⟩
theorem cw_ (v:Value) (s:List _) (w:World) (hl:s.length<=1000000) (hv:EKy.Rd w v s):
  Calls Tryz.prog 132 #[v] w (aL_ EKy 9 v s w):=by
 rcases hv with ⟨rfl,rfl⟩ | ⟨g,o,cap,rfl,h1,hg,hc⟩
 ·have hn:=fun w=> Lib.run_eql_slice_nil (P:=Tryz.prog) w 122 9 none 0 0 0 0 Tryz.underlying122
  go_enter Tryz.func132,Tryz.ntmps132
  go_wp2
  go_ret
  exact⟨_,rfl,.inl ⟨rfl,rfl⟩,Ext.refl _ _,by simp [blkL],by simp⟩
 ·have hn:=fun w=> Lib.run_eql_slice_nil (P:=Tryz.prog) w 122 9 (some ⟨g,o,none⟩) s.length cap 0 0 Tryz.underlying122
  have hv0:EKy.Rd w (.slice (some ⟨g,o,none⟩) s.length cap) s:= .inr ⟨g,o,cap,rfl,h1,hg,hc⟩
  have HV:=hi_ hv0
  clear hv0 hc
  go_enter Tryz.func132,Tryz.ntmps132
  go_wp2_with (with_reducible refine f_ (d:=7) ?_)
  refine k_ rfl fun K hK=> b_ (E:=EKy) (T:=9) (zero:= []) (bytes:=16) (v:= .slice (some ⟨w.heap.size,0,none⟩) 0 0) (xs:= []) (ys:=s) tiEKy Tryz.underlying122 Tryz.underlying122 rfl rfl rfl ?_ (HV.out.ext0 ((Ext.refl _ _).alloc _)) (by simp;omega) (by simp;omega) ?_
  ·exact .inr ⟨w.heap.size,0,0,[],rfl,heap_alloc_new w _,by simp,by simp,by simp⟩
  ·intro v' w' how hext hnear hnn
   refine hK _ _ ?_
   clear hK
   go_wp2
   go_ret
   refine⟨v',rfl,how,((Ext.refl [] w).alloc _).trans' hext (by simp) (by simp [blkL]), ?_, ?_⟩
   ·intro x hx
    rcases hnear x hx with h | h
    ·simp [blkL] at h;omega
    ·simp at h;omega
   ·exact⟨(fun h=> by cases h),(fun h=> by cases (hnn.2 h).1)⟩
theorem bG_ (v:Value) (s:List _) (w:World) (hl:s.length<=1000000) (hv:ERf.Rd w v s):
  Calls Tryz.prog 79 #[v] w (aL_ ERf 89 v s w):=by
 rcases hv with ⟨rfl,rfl⟩ | ⟨g,o,cap,rfl,h1,hg,hc⟩
 ·have hn:=fun w=> Lib.run_eql_slice_nil (P:=Tryz.prog) w 123 89 none 0 0 0 0 Tryz.underlying123
  go_enter Tryz.func79,Tryz.ntmps79
  go_wp2
  go_ret
  exact⟨_,rfl,.inl ⟨rfl,rfl⟩,Ext.refl _ _,by simp [blkL],by simp⟩
 ·have hn:=fun w=> Lib.run_eql_slice_nil (P:=Tryz.prog) w 123 89 (some ⟨g,o,none⟩) s.length cap 0 0 Tryz.underlying123
  have hv0:ERf.Rd w (.slice (some ⟨g,o,none⟩) s.length cap) s:= .inr ⟨g,o,cap,rfl,h1,hg,hc⟩
  have HV:=hi_ hv0
  clear hv0 hc
  go_enter Tryz.func79,Tryz.ntmps79
  go_wp2_with (with_reducible refine f_ (d:=7) ?_)
  refine k_ rfl fun K hK=> b_ (E:=ERf) (T:=89) (zero:=R0) (bytes:=48) (v:= .slice (some ⟨w.heap.size,0,none⟩) 0 0) (xs:= []) (ys:=s) tiERf Tryz.underlying123 Tryz.underlying123 rfl rfl rfl ?_ (HV.out.ext0 ((Ext.refl _ _).alloc _)) (by simp;omega) (by simp;omega) ?_
  ·exact .inr ⟨w.heap.size,0,0,[],rfl,heap_alloc_new w _,by simp,by simp,by simp⟩
  ·intro v' w' how hext hnear hnn
   refine hK _ _ ?_
   clear hK
   go_wp2
   go_ret
   refine⟨v',rfl,how,((Ext.refl [] w).alloc _).trans' hext (by simp) (by simp [blkL]), ?_, ?_⟩
   ·intro x hx
    rcases hnear x hx with h | h
    ·simp [blkL] at h;omega
    ·simp at h;omega
   ·exact⟨(fun h=> by cases h),(fun h=> by cases (hnn.2 h).1)⟩
theorem cv_ (v:Value) (s:List _) (w:World) (hl:s.length<=1000000) (hv:EPc.Rd w v s):
  Calls Tryz.prog 135 #[v] w (aL_ EPc 184 v s w):=by
 rcases hv with ⟨rfl,rfl⟩ | ⟨g,o,cap,rfl,h1,hg,hc⟩
 ·have hn:=fun w=> Lib.run_eql_slice_nil (P:=Tryz.prog) w 147 184 none 0 0 0 0 Tryz.underlying147
  go_enter Tryz.func135,Tryz.ntmps135
  go_wp2
  go_ret
  exact⟨_,rfl,.inl ⟨rfl,rfl⟩,Ext.refl _ _,by simp [blkL],by simp⟩
 ·have hn:=fun w=> Lib.run_eql_slice_nil (P:=Tryz.prog) w 147 184 (some ⟨g,o,none⟩) s.length cap 0 0 Tryz.underlying147
  have hv0:EPc.Rd w (.slice (some ⟨g,o,none⟩) s.length cap) s:= .inr ⟨g,o,cap,rfl,h1,hg,hc⟩
  have HV:=hi_ hv0
  clear hv0 hc
  go_enter Tryz.func135,Tryz.ntmps135
  go_wp2_with (with_reducible refine f_ (d:=7) ?_)
  refine k_ rfl fun K hK=> b_ (E:=EPc) (T:=184) (zero:=(R0,[])) (bytes:=64) (v:= .slice (some ⟨w.heap.size,0,none⟩) 0 0) (xs:= []) (ys:=s) tiEPc Tryz.underlying147 Tryz.underlying147 rfl rfl rfl ?_ (HV.out.ext0 ((Ext.refl _ _).alloc _)) (by simp;omega) (by simp;omega) ?_
  ·exact .inr ⟨w.heap.size,0,0,[],rfl,heap_alloc_new w _,by simp,by simp,by simp⟩
  ·intro v' w' how hext hnear hnn
   refine hK _ _ ?_
   clear hK
   go_wp2
   go_ret
   refine⟨v',rfl,how,((Ext.refl [] w).alloc _).trans' hext (by simp) (by simp [blkL]), ?_, ?_⟩
   ·intro x hx
    rcases hnear x hx with h | h
    ·simp [blkL] at h;omega
    ·simp at h;omega
   ·exact⟨(fun h=> by cases h),(fun h=> by cases (hnn.2 h).1)⟩
theorem hP_ (v:Value) (s:List _) (w:World) (hl:s.length<=1000000) (hv:EP.Rd w v s):
  Calls Tryz.prog 52 #[v] w (aL_ EP 34 v s w):=by
 rcases hv with ⟨rfl,rfl⟩ | ⟨g,o,cap,rfl,h1,hg,hc⟩
 ·have hn:=fun w=> Lib.run_eql_slice_nil (P:=Tryz.prog) w 38 34 none 0 0 0 0 Tryz.underlying38
  go_enter Tryz.func52,Tryz.ntmps52
  go_wp2
  go_ret
  exact⟨_,rfl,.inl ⟨rfl,rfl⟩,Ext.refl _ _,by simp [blkL],by simp⟩
 ·have hn:=fun w=> Lib.run_eql_slice_nil (P:=Tryz.prog) w 38 34 (some ⟨g,o,none⟩) s.length cap 0 0 Tryz.underlying38
  have hv0:EP.Rd w (.slice (some ⟨g,o,none⟩) s.length cap) s:= .inr ⟨g,o,cap,rfl,h1,hg,hc⟩
  have HV:=hi_ hv0
  clear hv0 hc
  go_enter Tryz.func52,Tryz.ntmps52
  go_wp2_with (with_reducible refine f_ (d:=7) ?_)
  refine k_ rfl fun K hK=> b_ (E:=EP) (T:=34) (zero:=(0,0,0,[])) (bytes:=40) (v:= .slice (some ⟨w.heap.size,0,none⟩) 0 0) (xs:= []) (ys:=s) tiEP Tryz.underlying38 Tryz.underlying38 rfl rfl rfl ?_ (HV.out.ext0 ((Ext.refl _ _).alloc _)) (by simp;omega) (by simp;omega) ?_
  ·exact .inr ⟨w.heap.size,0,0,[],rfl,heap_alloc_new w _,by simp,by simp,by simp⟩
  ·intro v' w' how hext hnear hnn
   refine hK _ _ ?_
   clear hK
   go_wp2
   go_ret
   refine⟨v',rfl,how,((Ext.refl [] w).alloc _).trans' hext (by simp) (by simp [blkL]), ?_, ?_⟩
   ·intro x hx
    rcases hnear x hx with h | h
    ·simp [blkL] at h;omega
    ·simp at h;omega
   ·exact⟨(fun h=> by cases h),(fun h=> by cases (hnn.2 h).1)⟩
def rorF (up down:Int) (x:Int):Int:=bits .or .u32 (x*up % 4294967296) (x / down)
theorem ror7_c (x:Int) (w:World):Calls Tryz.prog 193 #[.int .u32 x,.int .i64 7] w fun e w'=> e= .returned (.int .u32 (rorF 33554432 128 x))/\w'=w:=by
 have hb:bits BinOp.and IntKind.u64 (IntKind.u64.wrap (-7)) 31=25:=by kernel_rfl
 go_enter Tryz.func193,Tryz.ntmps193
 go_wp2
 go_ret
 exact⟨rfl,rfl⟩
theorem ror18_c (x:Int) (w:World):Calls Tryz.prog 193 #[.int .u32 x,.int .i64 18] w fun e w'=> e= .returned (.int .u32 (rorF 16384 262144 x))/\w'=w:=by
 have hb:bits BinOp.and IntKind.u64 (IntKind.u64.wrap (-18)) 31=14:=by kernel_rfl
 go_enter Tryz.func193,Tryz.ntmps193
 go_wp2
 go_ret
 exact⟨rfl,rfl⟩
theorem ror17_c (x:Int) (w:World):Calls Tryz.prog 193 #[.int .u32 x,.int .i64 17] w fun e w'=> e= .returned (.int .u32 (rorF 32768 131072 x))/\w'=w:=by
 have hb:bits BinOp.and IntKind.u64 (IntKind.u64.wrap (-17)) 31=15:=by kernel_rfl
 go_enter Tryz.func193,Tryz.ntmps193
 go_wp2
 go_ret
 exact⟨rfl,rfl⟩
theorem ror19_c (x:Int) (w:World):Calls Tryz.prog 193 #[.int .u32 x,.int .i64 19] w fun e w'=> e= .returned (.int .u32 (rorF 8192 524288 x))/\w'=w:=by
 have hb:bits BinOp.and IntKind.u64 (IntKind.u64.wrap (-19)) 31=13:=by kernel_rfl
 go_enter Tryz.func193,Tryz.ntmps193
 go_wp2
 go_ret
 exact⟨rfl,rfl⟩
theorem ror6_c (x:Int) (w:World):Calls Tryz.prog 193 #[.int .u32 x,.int .i64 6] w fun e w'=> e= .returned (.int .u32 (rorF 67108864 64 x))/\w'=w:=by
 have hb:bits BinOp.and IntKind.u64 (IntKind.u64.wrap (-6)) 31=26:=by kernel_rfl
 go_enter Tryz.func193,Tryz.ntmps193
 go_wp2
 go_ret
 exact⟨rfl,rfl⟩
theorem ror11_c (x:Int) (w:World):Calls Tryz.prog 193 #[.int .u32 x,.int .i64 11] w fun e w'=> e= .returned (.int .u32 (rorF 2097152 2048 x))/\w'=w:=by
 have hb:bits BinOp.and IntKind.u64 (IntKind.u64.wrap (-11)) 31=21:=by kernel_rfl
 go_enter Tryz.func193,Tryz.ntmps193
 go_wp2
 go_ret
 exact⟨rfl,rfl⟩
theorem ror25_c (x:Int) (w:World):Calls Tryz.prog 193 #[.int .u32 x,.int .i64 25] w fun e w'=> e= .returned (.int .u32 (rorF 128 33554432 x))/\w'=w:=by
 have hb:bits BinOp.and IntKind.u64 (IntKind.u64.wrap (-25)) 31=7:=by kernel_rfl
 go_enter Tryz.func193,Tryz.ntmps193
 go_wp2
 go_ret
 exact⟨rfl,rfl⟩
theorem ror2_c (x:Int) (w:World):Calls Tryz.prog 193 #[.int .u32 x,.int .i64 2] w fun e w'=> e= .returned (.int .u32 (rorF 1073741824 4 x))/\w'=w:=by
 have hb:bits BinOp.and IntKind.u64 (IntKind.u64.wrap (-2)) 31=30:=by kernel_rfl
 go_enter Tryz.func193,Tryz.ntmps193
 go_wp2
 go_ret
 exact⟨rfl,rfl⟩
theorem ror13_c (x:Int) (w:World):Calls Tryz.prog 193 #[.int .u32 x,.int .i64 13] w fun e w'=> e= .returned (.int .u32 (rorF 524288 8192 x))/\w'=w:=by
 have hb:bits BinOp.and IntKind.u64 (IntKind.u64.wrap (-13)) 31=19:=by kernel_rfl
 go_enter Tryz.func193,Tryz.ntmps193
 go_wp2
 go_ret
 exact⟨rfl,rfl⟩
theorem ror22_c (x:Int) (w:World):Calls Tryz.prog 193 #[.int .u32 x,.int .i64 22] w fun e w'=> e= .returned (.int .u32 (rorF 1024 4194304 x))/\w'=w:=by
 have hb:bits BinOp.and IntKind.u64 (IntKind.u64.wrap (-22)) 31=10:=by kernel_rfl
 go_enter Tryz.func193,Tryz.ntmps193
 go_wp2
 go_ret
 exact⟨rfl,rfl⟩
def EU:Enc Int where
 k:=1
 hk:=by decide
 enc x:= [.int .u32 x]
 len _:=rfl
 one _ v hv:=by simp at hv;subst hv;rfl
theorem iy_ (l:List Int):EU.flat l=l.map (Value.int .u32):=by
 induction l with
 | nil=> rfl
 | cons a l ih=> simp [ih];rfl
theorem R_ {h:List Int} (hg:w.heap[g]? =some (.cells (EU.flat h).toArray T (0,0))) {j:Nat} (hj:j < h.length):w.cell? ⟨g,j,none⟩=some (.int .u32 (h.getD j 9)):=by
 rw [cell_of_row w g j _ _ _ hg,iy_]
 simp [List.getD,hj]
theorem as_ {h:List Int} (hg:w.heap[g]? =some (.cells (EU.flat h).toArray T (0,0))) (j:Nat) (v:Int):(w.setCell ⟨g,j,none⟩ (.int .u32 v)).heap[g]? =some (.cells (EU.flat (h.set j v)).toArray T (0,0)):=by
 rw [heap_setCell_same w g j _ _ _ hg,iy_,iy_]
 simp [List.map_set]
def go_ (bs:List UInt8) (i:Nat):Int:=(bs.getD i 0).toNat
def wordF (bs:List UInt8) (t:Nat):Int:=
 bits .or .u32 (bits .or .u32 (bits .or .u32 (go_ bs (4*t) % 4294967296*16777216 % 4294967296) (go_ bs (4*t+1) % 4294967296*65536 % 4294967296)) (go_ bs (4*t+2) % 4294967296*256 % 4294967296)) (go_ bs (4*t+3) % 4294967296)
def mixF (x y u z:Int):Int:=
 (u+bits .xor .u32 (bits .xor .u32 (rorF 33554432 128 x) (rorF 16384 262144 x)) (x / 8)+z+bits .xor .u32 (bits .xor .u32 (rorF 32768 131072 y) (rorF 8192 524288 y)) (y / 1024)) % 4294967296
def aM_ (bs:List UInt8):Nat->List Int
 | 0=> List.replicate 64 0
 | t+1=> (aM_ bs t).set t (if t < 16 then wordF bs t else mixF ((aM_ bs t).getD (t - 15) 9) ((aM_ bs t).getD (t - 2) 9) ((aM_ bs t).getD (t - 16) 9) ((aM_ bs t).getD (t - 7) 9))
theorem dZ_ (bs:List UInt8): ∀t,(aM_ bs t).length=64
 | 0=> by simp [aM_]
 | t+1=> by rw [aM_,List.length_set];exact dZ_ bs t
theorem et_:(#[.int .u32 0,.int .u32 0,.int .u32 0,.int .u32 0,.int .u32 0,.int .u32 0,.int .u32 0,.int .u32 0,.int .u32 0,.int .u32 0,.int .u32 0,.int .u32 0,.int .u32 0,.int .u32 0,.int .u32 0,.int .u32 0,.int .u32 0,.int .u32 0,.int .u32 0,.int .u32 0,.int .u32 0,.int .u32 0,.int .u32 0,.int .u32 0,.int .u32 0,.int .u32 0,.int .u32 0,.int .u32 0,.int .u32 0,.int .u32 0,.int .u32 0,.int .u32 0,.int .u32 0,.int .u32 0,.int .u32 0,.int .u32 0,.int .u32 0,.int .u32 0,.int .u32 0,.int .u32 0,.int .u32 0,.int .u32 0,.int .u32 0,.int .u32 0,.int .u32 0,.int .u32 0,.int .u32 0,.int .u32 0,.int .u32 0,.int .u32 0,.int .u32 0,.int .u32 0,.int .u32 0,.int .u32 0,.int .u32 0,.int .u32 0,.int .u32 0,.int .u32 0,.int .u32 0,.int .u32 0,.int .u32 0,.int .u32 0,.int .u32 0,.int .u32 0]:Array Value)=(EU.flat (List.replicate 64 0)).toArray:=by kernel_rfl
theorem sched_c (v:Value) (bs:List UInt8) (w:World) (hv:EB.Rd w v bs) (hl:bs.length=64):
  Calls Tryz.prog 192 #[v] w fun e w'=> e= .returned (.agg ((aM_ bs 64).map (Value.int .u32)).toArray)/\Ext [] w w':=by
 obtain⟨p,cap,rfl,hcap⟩:=hv.len_eq
 obtain⟨g,o,rfl⟩: ∃g o,p=some ⟨g,o,none⟩:=by
  rcases hv with ⟨_,h⟩ | ⟨g,o,c,h,_⟩
  ·rw [h] at hl;cases hl
  ·simp only [Value.slice.injEq] at h;exact⟨g,o,h.1⟩
 rw [hl] at hv hcap
 rw [hl]
 have HV:=hi_ hv
 clear hv
 go_enter Tryz.func192,Tryz.ntmps192
 go_wp2_with fail
 rw [et_]
 have hE0:Ext [] w ((w.alloc (.cells (EU.flat (List.replicate 64 0)).toArray 249)).alloc (.cells (EU.flat (List.replicate 64 0)).toArray 249)):=((Ext.refl [] w).alloc _).alloc _
 have hg0:=heap_alloc_new (w.alloc (.cells (EU.flat (List.replicate 64 0)).toArray 249)) (.cells (EU.flat (List.replicate 64 0)).toArray 249)
 have hr0:=((Ext.refl [] (w.alloc (.cells (EU.flat (List.replicate 64 0)).toArray 249))).alloc (.cells (EU.flat (List.replicate 64 0)).toArray 249)).blk (heap_alloc_new w (.cells (EU.flat (List.replicate 64 0)).toArray 249)) (by simp)
 have e1:(w.alloc (.cells (EU.flat (List.replicate 64 0)).toArray 249)).heap.size=w.heap.size+1:=by simp
 rw [e1] at hg0
 obtain⟨g2,hg2⟩: ∃g,g=w.heap.size:=⟨_,rfl⟩
 obtain⟨g3,hg3⟩: ∃g,g=w.heap.size+1:=⟨_,rfl⟩
 simp only [<-hg3] at hg0 ⊢
 simp only [<-hg2] at hr0 ⊢
 obtain⟨HG0,HR0⟩:=h_2 hg0 hr0
 clear hg0 hr0 e1
 revert hE0 HG0 HR0
 generalize World.alloc _ _=W0
 intro hE0 HG0 HR0
 have l2:w.heap.size<=g2:=by omega
 have l3:w.heap.size<=g3:=by omega
 have l23:g2≠g3:=by omega
 clear hg2 hg3
 have hgl:g < w.heap.size:=HV.out.lt g (by simp [blkL])
 go_loopw [4,5,6,7] (fun _ _ _ c wr=> ∃(t:Nat) (L:List Int),t<=64/\c= .int .i64 t/\Ext [g3] W0 wr/\L.length=64/\Hid (L=aM_ bs t)/\Hid (wr.heap[g3]? =some (.cells (EU.flat L).toArray 249 (0,0)))) (fun _ _ _ c _=> 64 - (intOf c).toNat)
 case atStart=> exact⟨0,List.replicate 64 0,by omega,rfl,Ext.refl _ _,by simp,rfl,HG0⟩
 case round=>
  obtain⟨t,L,ht,rfl,hE,hL,HL,HG⟩:=hrel
  have hEw:Ext [] w wr:=hE0.trans' hE (by simp) (fun y hy=> .inr (by simp at hy;omega))
  by_cases hlt:t < 64
  ·have z1:(t:Int) < 64:=by omega
   have hfz: ∀j,wr.frozen? ⟨g3,j,none⟩=false:=fun j=> frozen_of_row _ _ _ _ _ HG.out
   have hct:=R_ HG.out (j:=t) (by omega)
   by_cases h16:t < 16
   ·have z2:(t:Int) < 16:=by omega
    have hm0:=bA_ (HV.out.ext0 hEw) (4*t) (by omega)
    have hm1:=bA_ (HV.out.ext0 hEw) (4*t+1) (by omega)
    have hm2:=bA_ (HV.out.ext0 hEw) (4*t+2) (by omega)
    have hm3:=bA_ (HV.out.ext0 hEw) (4*t+3) (by omega)
    obtain⟨b0,hb0⟩: ∃b:Int,b=(bs.getD (4*t) 0).toNat:=⟨_,rfl⟩
    obtain⟨b1,hb1⟩: ∃b:Int,b=(bs.getD (4*t+1) 0).toNat:=⟨_,rfl⟩
    obtain⟨b2,hb2⟩: ∃b:Int,b=(bs.getD (4*t+2) 0).toNat:=⟨_,rfl⟩
    obtain⟨b3,hb3⟩: ∃b:Int,b=(bs.getD (4*t+3) 0).toNat:=⟨_,rfl⟩
    rw [<-hb0] at hm0
    rw [<-hb1] at hm1
    rw [<-hb2] at hm2
    rw [<-hb3] at hm3
    obtain⟨HB0,HB1,HB2,HB3⟩:=h_4 hb0 hb1 hb2 hb3
    clear hb0 hb1 hb2 hb3
    have e0:IntKind.i64.wrap (4*(t:Int))=4*(t:Int):=IntWalk.i64_in _ (by omega)
    have e1:IntKind.i64.wrap (4*(t:Int)+1)=4*(t:Int)+1:=IntWalk.i64_in _ (by omega)
    have e2:IntKind.i64.wrap (4*(t:Int)+2)=4*(t:Int)+2:=IntWalk.i64_in _ (by omega)
    have e3:IntKind.i64.wrap (4*(t:Int)+3)=4*(t:Int)+3:=IntWalk.i64_in _ (by omega)
    have n0:(4*(t:Int)).toNat=4*t:=by omega
    have n1:(4*(t:Int)+1).toNat=4*t+1:=by omega
    have n2:(4*(t:Int)+2).toNat=4*t+2:=by omega
    have n3:(4*(t:Int)+3).toNat=4*t+3:=by omega
    have p0:4*(t:Int) < 64:=by omega
    have p1:4*(t:Int)+1 < 64:=by omega
    have p2:4*(t:Int)+2 < 64:=by omega
    have p3:4*(t:Int)+3 < 64:=by omega
    have q0:0<=4*(t:Int):=by omega
    have q1:0<=4*(t:Int)+1:=by omega
    have q2:0<=4*(t:Int)+2:=by omega
    have q3:0<=4*(t:Int)+3:=by omega
    go_wp2_with fail
    go_still_tail 35,(by kernel_rfl)
    change wpList _ _ _ _ _ wr.drew
    go_wp2_with fail
    go_roundw
    case rel=>
     refine⟨t+1,_,by omega,by go_num,(hE.setCell (.inl (by simp)) _).drew, ?_, ?_,as_ HG.out t _⟩
     ·rw [List.length_set];exact hL
     ·show L.set t _=aM_ bs (t+1)
      rw [aM_,if_pos h16,<-HL.out,wordF]
      simp only [go_,<-HB0.out,<-HB1.out,<-HB2.out,<-HB3.out]
    case measure=> simp [intOf];omega
   ·have z2: ¬((t:Int) < 16):=by omega
    have hc15:=R_ HG.out (j:=t - 15) (by omega)
    have hc2:=R_ HG.out (j:=t - 2) (by omega)
    have hc16:=R_ HG.out (j:=t - 16) (by omega)
    have hc7:=R_ HG.out (j:=t - 7) (by omega)
    obtain⟨x,hx⟩: ∃x,x=L.getD (t - 15) 9:=⟨_,rfl⟩
    obtain⟨y,hy⟩: ∃x,x=L.getD (t - 2) 9:=⟨_,rfl⟩
    obtain⟨u,hu⟩: ∃x,x=L.getD (t - 16) 9:=⟨_,rfl⟩
    obtain⟨z,hz⟩: ∃x,x=L.getD (t - 7) 9:=⟨_,rfl⟩
    rw [<-hx] at hc15
    rw [<-hy] at hc2
    rw [<-hu] at hc16
    rw [<-hz] at hc7
    obtain⟨HX,HY,HUu,HZ⟩:=h_4 hx hy hu hz
    clear hx hy hu hz
    have e0:IntKind.i64.wrap ((t:Int) - 15)=(t:Int) - 15:=IntWalk.i64_in _ (by omega)
    have e1:IntKind.i64.wrap ((t:Int) - 2)=(t:Int) - 2:=IntWalk.i64_in _ (by omega)
    have e2:IntKind.i64.wrap ((t:Int) - 16)=(t:Int) - 16:=IntWalk.i64_in _ (by omega)
    have e3:IntKind.i64.wrap ((t:Int) - 7)=(t:Int) - 7:=IntWalk.i64_in _ (by omega)
    have n0:((t:Int) - 15).toNat=t - 15:=by omega
    have n1:((t:Int) - 2).toNat=t - 2:=by omega
    have n2:((t:Int) - 16).toNat=t - 16:=by omega
    have n3:((t:Int) - 7).toNat=t - 7:=by omega
    have p0:(t:Int) - 15 < 64:=by omega
    have p1:(t:Int) - 2 < 64:=by omega
    have p2:(t:Int) - 16 < 64:=by omega
    have p3:(t:Int) - 7 < 64:=by omega
    have q0:0<=(t:Int) - 15:=by omega
    have q1:0<=(t:Int) - 2:=by omega
    have q2:0<=(t:Int) - 16:=by omega
    have q3:0<=(t:Int) - 7:=by omega
    have r0:15<=(t:Int):=by omega
    have r1:2<=(t:Int):=by omega
    have r2:16<=(t:Int):=by omega
    have r3:7<=(t:Int):=by omega
    go_wp2_with fail
    go_big_quiet (fail)
    go_wp2_with fail
    have hE2:Ext [] wr (wr.drewN nq):=(Ext.refl [] _).drewN _
    have k16:=hE2.cell hc16 (by simp)
    have k7:=hE2.cell hc7 (by simp)
    have kt:=hE2.cell hct (by simp)
    have hg2:=hE2.blk HG.out (by simp)
    have HG2:=hi_ hg2
    clear hg2
    revert hE2 k16 k7 kt HG2
    generalize wr.drewN nq=W2
    intro hE2 k16 k7 kt HG2
    have hfz2: ∀j,W2.frozen? ⟨g3,j,none⟩=false:=fun j=> frozen_of_row _ _ _ _ _ HG2.out
    clear hc15 hc2 hc16 hc7 hct hfz
    refine wp_region_still_tail 29 (by kernel_rfl) (by kernel_rfl) ?_
    simp only [List.take_succ_cons,List.take_zero,List.drop_succ_cons,List.drop_zero]
    iterate 6 still_step
    still_call (ror7_c _ _)
    still_step
    still_call (ror18_c _ _)
    iterate 11 still_step
    still_call (ror17_c _ _)
    still_step
    still_call (ror19_c _ _)
    iterate 6 still_step
    refine wpStill_nil ?_
    change wpList _ _ _ _ _ W2.drew
    go_wp2_with fail
    go_roundw
    case rel=>
     refine⟨t+1,_,by omega,by go_num,((hE.trans hE2.nil).setCell (.inl (by simp)) _).drew, ?_, ?_,as_ HG2.out t _⟩
     ·rw [List.length_set];exact hL
     ·show L.set t _=aM_ bs (t+1)
      rw [aM_,if_neg h16,<-HL.out,<-HX.out,<-HY.out,<-HUu.out,<-HZ.out,mixF]
    case measure=> simp [intOf];omega
  ·obtain rfl:t=64:=by omega
   have z1: ¬(((64:Nat):Int) < 64):=by omega
   have hsz:(EU.flat L).toArray.size=64:=by rw [List.size_toArray,EU.length_flat,hL];rfl
   have hi:(Tryz.prog.info? 249).map (·.size)=some (EU.flat L).toArray.size:=by rw [hsz];kernel_rfl
   have hsz0:(EU.flat (List.replicate 64 0)).toArray.size=(EU.flat L).toArray.size:=by rw [hsz];rfl
   have hone:(EU.flat L).toArray.all (·.oneCell')=true:=Array.all_eq_true_iff_forall_mem.2 (fun v hv=> EU.one_flat L v (by simpa using hv))
   have hr2:=hE.blk HR0.out (by simpa using l23)
   obtain⟨HR2,HI,HZ0,HON⟩:=h_4 hr2 hi hsz0 hone
   clear hr2 hi hsz0 hone hsz
   go_wp2_with (with_reducible refine f_ (d:=85) ?_)
   unfold Hold
   refine wpList_load_row rfl 249 (.tmp 3) rfl g3 rfl 249 _ (0,0) _ HG.out Tryz.underlying249 rfl HI.out ?_
   refine wpList_store_row rfl 249 (.tmp 2) (.tmp 85) rfl g2 _ rfl rfl 249 _ HR2.out HI.out HZ0.out HON.out ?_
   go_wp2_with fail
   refine bodyPost_ret (results_cell_row rfl _ _ g2 249 _ (0,0) _ rfl (setRow_heap _ g2 _ _ 249 _ HR2.out) Tryz.underlying249 rfl HI.out) rfl ?_
   refine⟨by rw [iy_,HL.out], ?_⟩
   exact hEw.setRow (.inr l2) _
end Go.Proofs.YtkpgjkekmdecbaaGreat
