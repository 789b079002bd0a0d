
import Derived.Test.YtgfajlaibgbdoaaGreatSrB
import Derived.Test.YtgfajlaibgbdoaaGreatSpN
import Derived.Test.YtgfajlaibgbdoaaGreatSpK
import Derived.Test.YtgfajlaibgbdoaaGreatSpL
namespace Go.Proofs.YtgfajlaibgbdoaaGreat
open Go.RowKit

theorem tag_ne {w : World} {x y : Nat} {T T' : TypeId} (h : tagOf w x = some T) (h' : tagOf w y = some T') (hT : T ≠ T') : x ≠ y := by
  rintro rfl
  rw [h] at h'
  cases h'
  exact hT rfl
theorem SpR.extT {w w' : World} {b : Nat} {s : Spc} {bs : List Nat} {Ts : List TypeId} (h : SpR w b s) (he : ExtT bs Ts w w') (hb : b ∉ bs) (ht : ∀ y ∈ bs, tagOf w y ≠ some 104) (h1 : 104 ∉ Ts) (h2 : 114 ∉ Ts) : SpR w' b s := by
  obtain ⟨pf, nf, cf, pu, nu, cu, pl, nl, cl, hb0, a1, a2, a3⟩ := h
  refine ⟨pf, nf, cf, pu, nu, cu, pl, nl, cl, he.blk hb0 hb h2, a1.extT he (fun y hy hy2 => ?_) h1, a2.extT he (fun y hy hy2 => ?_) h1, a3.extT he (fun y hy hy2 => ?_) h1⟩
  · obtain ⟨c, hc⟩ := a1.tag y hy
    exact ht y hy2 (tagOf_of hc)
  · obtain ⟨c, hc⟩ := a2.tag y hy
    exact ht y hy2 (tagOf_of hc)
  · obtain ⟨c, hc⟩ := a3.tag y hy
    exact ht y hy2 (tagOf_of hc)
theorem SpR.tag {w : World} {b : Nat} {s : Spc} (h : SpR w b s) : tagOf w b = some 114 := by obtain ⟨c, hc⟩ := h.blk; exact tagOf_of hc
theorem ArrR.tag {w : World} {a r D F : Nat} (h : ArrR w a r D F) : tagOf w a = some 68 := tagOf_of h

/-- a store with all that it stands on: where the blocks lie; the array's shape. -/
structure Sy where
  b : Nat
  a : Nat
  r : Nat
  gg : Nat
  sp : Nat
  k : Nat
  S : Nat
  F : Nat
structure Sv where
  st : Sto
  ws : List (Nat × Nat × List UInt8)
  spc : Spc
structure SyR (w : World) (y : Sy) (v : Sv) : Prop where
  st : StoR w y.b y.a y.sp v.st
  ar : ArrR w y.a y.r (y.k + 4) y.F
  rk : RackR w y.r y.gg (y.k + 4) y.S v.ws
  sp : SpR w y.sp v.spc
  spi : SpI v.spc
  k1 : 1 ≤ y.k
  k8 : y.k ≤ 8
  S2 : y.S ≤ 2000
  FS : y.F ≤ y.S
  cells : v.spc.cells = (((y.k + 4) * (y.S - y.F) : Nat) : Int)
  mem : v.st.mem.length ≤ 64

abbrev SyT : List TypeId := [218, 87]
def SyF (y : Sy) (w w' : World) : Prop := ExtT [y.b, y.r, y.sp] SyT w w'
theorem SyF.refl (y : Sy) (w : World) : SyF y w w := ExtT.refl _ _ _
theorem SyF.trans {y : Sy} {a b c : World} (h : SyF y a b) (k : SyF y b c) : SyF y a c := ExtT.trans h k
theorem SyF.of0 {y : Sy} {a b : World} (h : Ext [] a b) : SyF y a b := ExtT.of0 h
theorem SyF.st {y : Sy} {a b : World} (h : ExtT [y.b] [87] a b) : SyF y a b := h.mono (by simp) (by simp)
theorem SyF.rk {y : Sy} {a b : World} (h : ExtT [y.r] [218] a b) : SyF y a b := h.mono (by simp) (by simp)
theorem SyF.sp {y : Sy} {a b : World} (h : Ext [y.sp] a b) : SyF y a b := ExtT.of h (by simp)

theorem SyR.ext0 {w w' : World} {y : Sy} {v : Sv} (h : SyR w y v) (he : Ext [] w w') : SyR w' y v :=
  ⟨h.st.ext0 he, h.ar.ext0 he, h.rk.ext0 he, h.sp.ext0 he, h.spi, h.k1, h.k8, h.S2, h.FS, h.cells, h.mem⟩
/-- the store alone is changed. -/
theorem SyR.onSt {w w' : World} {y : Sy} {v : Sv} {s : Sto} (h : SyR w y v) (he : ExtT [y.b] [87] w w') (hs : StoR w' y.b y.a y.sp s) (hm : s.mem.length ≤ 64) : SyR w' y { v with st := s } := by
  have tb := h.st.tag
  refine ⟨hs, h.ar.extT he ?_ (by decide), h.rk.extT he ?_ ?_ ?_ (by decide), h.sp.extT he ?_ ?_ (by decide) (by decide), h.spi, h.k1, h.k8, h.S2, h.FS, h.cells, hm⟩
  · simpa using tag_ne h.ar.tag tb (by decide)
  · simpa using tag_ne h.rk.tag.1 tb (by decide)
  · simpa using tag_ne h.rk.tag.2 tb (by decide)
  · simp only [List.mem_singleton, forall_eq, tb]; decide
  · simpa using tag_ne h.sp.tag tb (by decide)
  · simp only [List.mem_singleton, forall_eq, tb]; decide
/-- the rack alone. -/
theorem SyR.onRk {w w' : World} {y : Sy} {v : Sv} {ws : List (Nat × Nat × List UInt8)} (h : SyR w y v) (he : ExtT [y.r] [218] w w') (hs : RackR w' y.r y.gg (y.k + 4) y.S ws) : SyR w' y { v with ws := ws } := by
  have tb := h.rk.tag.1
  refine ⟨h.st.extT he ?_ ?_ (by decide) (by decide) (by decide), h.ar.extT he ?_ (by decide), hs, h.sp.extT he ?_ ?_ (by decide) (by decide), h.spi, h.k1, h.k8, h.S2, h.FS, h.cells, h.mem⟩
  · simpa using tag_ne h.st.tag tb (by decide)
  · simp only [List.mem_singleton, forall_eq, tb]; decide
  · simpa using tag_ne h.ar.tag tb (by decide)
  · simpa using tag_ne h.sp.tag tb (by decide)
  · simp only [List.mem_singleton, forall_eq, tb]; decide
/-- the space alone. -/
theorem SyR.onSp {w w' : World} {y : Sy} {v : Sv} {s : Spc} (h : SyR w y v) (he : Ext [y.sp] w w') (hs : SpR w' y.sp s) (hi : SpI s) (hc : s.cells = v.spc.cells) : SyR w' y { v with spc := s } := by
  have tb := h.sp.tag
  have he' : ExtT [y.sp] [] w w' := ExtT.of he (by simp)
  refine ⟨h.st.extT he' ?_ ?_ (by decide) (by decide) (by decide), h.ar.extT he' ?_ (by decide), h.rk.extT he' ?_ ?_ ?_ (by decide), hs, hi, h.k1, h.k8, h.S2, h.FS, hc.trans h.cells, h.mem⟩
  · simpa using tag_ne h.st.tag tb (by decide)
  · simp only [List.mem_singleton, forall_eq, tb]; decide
  · simpa using tag_ne h.ar.tag tb (by decide)
  · simpa using tag_ne h.rk.tag.1 tb (by decide)
  · simpa using tag_ne h.rk.tag.2 tb (by decide)
  · simp only [List.mem_singleton, forall_eq, tb]; decide
theorem SyR.lt {w : World} {y : Sy} {v : Sv} (h : SyR w y v) : y.b < w.heap.size ∧ y.r < w.heap.size ∧ y.sp < w.heap.size := ⟨h.st.lt, h.rk.lt.1, h.sp.lt⟩
/-- a block of another type, that the store has nothing to do with. -/
theorem SyF.blk {y : Sy} {v : Sv} {w w' : World} (hy : SyR w y v) (h : SyF y w w') {g : Nat} {c : Array Value} {T : TypeId} {x : Nat × Nat} (hg : w.heap[g]? = some (.cells c T x)) (hT : T ∉ [79, 66, 114, 218, 87]) : w'.heap[g]? = some (.cells c T x) := by
  have ht := tagOf_of hg
  simp only [List.mem_cons, List.not_mem_nil, or_false, not_or] at hT
  refine ExtT.blk h hg ?_ (by simp [hT])
  simp only [List.mem_cons, List.not_mem_nil, or_false, not_or]
  exact ⟨tag_ne ht hy.st.tag hT.1, tag_ne ht hy.rk.tag.1 hT.2.1, tag_ne ht hy.sp.tag hT.2.2.1⟩

/-- the cells of the store's block. -/
theorem StoR.cells {w : World} {b a sp : Nat} {s : Sto} (h : StoR w b a sp s) : w.cell? ⟨b, 0, none⟩ = some (.pointer (some ⟨a, 0, none⟩)) ∧ w.cell? ⟨b, 1, none⟩ = some (.pointer (some ⟨sp, 0, none⟩)) ∧ w.cell? ⟨b, 2, none⟩ = some (.int .i64 s.txg) ∧
    w.cell? ⟨b, 4, none⟩ = some (.int .i64 s.gets) ∧ w.cell? ⟨b, 5, none⟩ = some (.int .i64 s.hits) ∧ w.cell? ⟨b, 6, none⟩ = some (.int .i64 s.reads) ∧ w.cell? ⟨b, 7, none⟩ = some (.int .i64 s.heals) ∧ w.cell? ⟨b, 8, none⟩ = some (.int .i64 s.puts) ∧ ∀ j, w.frozen? ⟨b, j, none⟩ = false := by
  obtain ⟨mv, h1, _⟩ := h
  refine ⟨?_, ?_, ?_, ?_, ?_, ?_, ?_, ?_, fun j => frozen_of_row _ _ _ _ _ h1⟩ <;> (rw [cell_of_row w b _ _ _ _ h1]; rfl)

theorem StoR.setAt {w : World} {b a sp : Nat} {s s' : Sto} (h : StoR w b a sp s) (j : Nat) (u : Value) (hm : s'.mem = s.mem) (hr : ∀ mv, (stoRow a sp mv s).setIfInBounds j u = stoRow a sp mv s') : StoR (w.setCell ⟨b, j, none⟩ u) b a sp s' ∧ ExtT [b] [87] w (w.setCell ⟨b, j, none⟩ u) := by
  obtain ⟨mv, h1, h2, h3⟩ := h
  have hb := heap_setCell_same w b j _ _ u h1
  have hE : Ext [b] w (w.setCell ⟨b, j, none⟩ u) := (Ext.refl [b] w).setCell (.inl (by simp)) _
  rw [hr] at hb
  have hE' : ExtT [b] [87] w (w.setCell ⟨b, j, none⟩ u) := ExtT.of hE (by simp)
  refine ⟨⟨mv, hb, ?_, h3⟩, hE'⟩
  rw [hm]
  have hE2 : ExtT [b] [] w (w.setCell ⟨b, j, none⟩ u) := ExtT.of hE (by simp)
  refine h2.extT hE2 ?_ (by decide) (by decide)
  simp only [List.mem_singleton, forall_eq, tagOf_of h1]
  decide

set_option maxRecDepth 100000 in
theorem sttxg_c (y : Sy) (v : Sv) (w : World) (h : SyR w y v) : Calls Tryz.prog 15 #[.pointer (some ⟨y.b, 0, none⟩)] w fun e w' => e = .returned (.int .i64 v.st.txg) ∧ w' = w := by
  obtain ⟨c0, c1, c2, _⟩ := h.st.cells
  clear h c0 c1
  go_enter Tryz.func15, Tryz.ntmps15
  go_wp2
  go_ret
  exact ⟨rfl, rfl⟩

def BeginPost (y : Sy) (v : Sv) (n : Int) (w : World) (e : Ending) (w' : World) : Prop :=
  (n < v.st.txg ∧ e = .returned (.int .i64 1) ∧ SyR w' y v ∧ SyF y w w') ∨ (v.st.txg ≤ n ∧ e = .returned (.int .i64 0) ∧ SyR w' y { v with st := { v.st with txg := n } } ∧ SyF y w w')
set_option maxRecDepth 100000 in
theorem stbegin_c (y : Sy) (v : Sv) (n : Int) (w : World) (h : SyR w y v) : Calls Tryz.prog 14 #[.pointer (some ⟨y.b, 0, none⟩), .int .i64 n] w (BeginPost y v n w) := by
  obtain ⟨c0, c1, c2, _, _, _, _, _, hfz⟩ := h.st.cells
  have HS := Lib.hid h
  clear h c0 c1
  by_cases hn : n < v.st.txg
  · go_enter Tryz.func14, Tryz.ntmps14
    go_wp2
    go_ret
    exact .inl ⟨hn, rfl, HS.out, SyF.refl _ _⟩
  · have hs := HS.out.st.setAt (s' := { v.st with txg := n }) 2 (.int .i64 n) rfl (fun mv => rfl)
    have HH := Lib.hid hs
    clear hs
    go_enter Tryz.func14, Tryz.ntmps14
    go_wp2
    go_ret
    exact .inr ⟨by omega, rfl, HS.out.onSt HH.out.2 HH.out.1 HS.out.mem, SyF.st HH.out.2⟩

set_option maxRecDepth 100000 in
theorem stfree_c (y : Sy) (v : Sv) (w : World) (h : SyR w y v) : Calls Tryz.prog 20 #[.pointer (some ⟨y.b, 0, none⟩)] w fun e w' => e = .returned (.int .i64 (cntL v.spc.free - v.spc.back)) ∧ Ext [] w w' := by
  obtain ⟨c0, c1, c2, _⟩ := h.st.cells
  have HS := Lib.hid h
  clear h c0 c2
  go_enter Tryz.func20, Tryz.ntmps20
  go_wp2_with fail
  refine (free_c y.sp v.spc _ HS.out.sp HS.out.spi).mono ?_
  rintro e W1 ⟨rfl, hE⟩
  go_wp2
  go_ret
  exact ⟨rfl, hE⟩
set_option maxRecDepth 100000 in
theorem stused_c (y : Sy) (v : Sv) (w : World) (h : SyR w y v) : Calls Tryz.prog 21 #[.pointer (some ⟨y.b, 0, none⟩)] w fun e w' => ∃ u, e = .returned u ∧ ER.Ow 104 w' u v.spc.used ∧ Ext [] w w' := by
  obtain ⟨c0, c1, c2, _⟩ := h.st.cells
  have HS := Lib.hid h
  clear h c0 c2
  go_enter Tryz.func21, Tryz.ntmps21
  go_wp2_with fail
  refine (used_c y.sp v.spc _ HS.out.sp HS.out.spi).mono ?_
  rintro e W1 ⟨u, rfl, how, hE, _⟩
  go_wp2
  go_ret
  exact ⟨_, rfl, how, hE⟩
set_option maxRecDepth 100000 in
theorem stsettle_c (y : Sy) (v : Sv) (w : World) (h : SyR w y v) : Calls Tryz.prog 19 #[.pointer (some ⟨y.b, 0, none⟩)] w fun e w' => ∃ s', e = .returned (.int .i64 (cntL v.spc.leaving)) ∧ SyR w' y { v with spc := s' } ∧ Settled v.spc s' ∧ SyF y w w' := by
  obtain ⟨c0, c1, c2, _⟩ := h.st.cells
  have HS := Lib.hid h
  clear h c0 c2
  go_enter Tryz.func19, Tryz.ntmps19
  go_wp2_with fail
  refine (settle_c y.sp v.spc _ HS.out.sp HS.out.spi).mono ?_
  rintro e W1 ⟨s', rfl, hr, hi, hE, hs⟩
  go_wp2
  go_ret
  exact ⟨s', rfl, HS.out.onSp hE hr hi hs.cells, hs, SyF.sp hE⟩

set_option maxRecDepth 100000 in
set_option maxHeartbeats 1000000 in
theorem stcounts_c (y : Sy) (v : Sv) (w : World) (h : SyR w y v) : Calls Tryz.prog 11 #[.pointer (some ⟨y.b, 0, none⟩)] w fun e w' => e = .returned (.agg #[.int .i64 v.st.gets, .int .i64 v.st.hits, .int .i64 v.st.reads, .int .i64 v.st.heals, .int .i64 v.st.puts]) ∧ Ext [] w w' := by
  have hEa : Ext [] w (w.alloc (.cells #[.int .i64 0, .int .i64 0, .int .i64 0, .int .i64 0, .int .i64 0] 42)) := (Ext.refl [] w).alloc _
  obtain ⟨_, _, _, c4, c5, c6, c7, c8, _⟩ := (h.st.ext0 hEa).cells
  have lb := h.lt.1
  have hb := heap_alloc_new w (.cells #[.int .i64 0, .int .i64 0, .int .i64 0, .int .i64 0, .int .i64 0] 42)
  have HB := Lib.hid hb
  clear h hb
  go_enter Tryz.func11, Tryz.ntmps11
  go_wp2_with fail
  revert hEa c4 c5 c6 c7 c8 HB
  generalize World.alloc _ _ = W1
  intro hEa c4 c5 c6 c7 c8 HB
  have hfz : ∀ j, W1.frozen? ⟨w.heap.size, j, none⟩ = false := fun j => frozen_of_row _ _ _ _ _ HB.out
  have v0 : W1.cell? ⟨w.heap.size, 0, none⟩ = some (.int .i64 0) := by rw [cell_of_row _ _ 0 _ _ _ HB.out]; rfl
  have v1 : W1.cell? ⟨w.heap.size, 1, none⟩ = some (.int .i64 0) := by rw [cell_of_row _ _ 1 _ _ _ HB.out]; rfl
  have v2 : W1.cell? ⟨w.heap.size, 2, none⟩ = some (.int .i64 0) := by rw [cell_of_row _ _ 2 _ _ _ HB.out]; rfl
  have v3 : W1.cell? ⟨w.heap.size, 3, none⟩ = some (.int .i64 0) := by rw [cell_of_row _ _ 3 _ _ _ HB.out]; rfl
  have v4 : W1.cell? ⟨w.heap.size, 4, none⟩ = some (.int .i64 0) := by rw [cell_of_row _ _ 4 _ _ _ HB.out]; rfl
  refine wp_region_still_tail 21 (by kernel_rfl) (by kernel_rfl) ?_
  simp only [List.take_succ_cons, List.take_zero, List.drop_succ_cons, List.drop_zero]
  iterate 3 still_step
  still_call (i64load_c _ _ _ c4)
  iterate 3 still_step
  still_call (i64load_c _ _ _ c5)
  iterate 3 still_step
  still_call (i64load_c _ _ _ c6)
  iterate 3 still_step
  still_call (i64load_c _ _ _ c7)
  iterate 3 still_step
  still_call (i64load_c _ _ _ c8)
  still_step
  refine wpStill_nil ?_
  change wpList _ _ _ _ _ W1.drew
  go_wp2_with fail
  have hs : (((((W1.setCell ⟨w.heap.size, 0, none⟩ (.int .i64 v.st.gets)).setCell ⟨w.heap.size, 1, none⟩ (.int .i64 v.st.hits)).setCell ⟨w.heap.size, 2, none⟩ (.int .i64 v.st.reads)).setCell ⟨w.heap.size, 3, none⟩ (.int .i64 v.st.heals)).setCell ⟨w.heap.size, 4, none⟩ (.int .i64 v.st.puts)).heap[w.heap.size]? = some (.cells #[.int .i64 v.st.gets, .int .i64 v.st.hits, .int .i64 v.st.reads, .int .i64 v.st.heals, .int .i64 v.st.puts] 42 (0, 0)) :=
    heap_setCell_same _ _ 4 _ _ _ (heap_setCell_same _ _ 3 _ _ _ (heap_setCell_same _ _ 2 _ _ _ (heap_setCell_same _ _ 1 _ _ _ (heap_setCell_same W1 w.heap.size 0 _ _ _ HB.out))))
  have hE := ((((hEa.setCell (p := ⟨w.heap.size, 0, none⟩) (.inr (Nat.le_refl _)) (.int .i64 v.st.gets)).setCell (p := ⟨w.heap.size, 1, none⟩) (.inr (Nat.le_refl _)) (.int .i64 v.st.hits)).setCell (p := ⟨w.heap.size, 2, none⟩) (.inr (Nat.le_refl _)) (.int .i64 v.st.reads)).setCell (p := ⟨w.heap.size, 3, none⟩) (.inr (Nat.le_refl _)) (.int .i64 v.st.heals)).setCell (p := ⟨w.heap.size, 4, none⟩) (.inr (Nat.le_refl _)) (.int .i64 v.st.puts)
  have r0 := cell_of_row _ _ 0 _ _ _ hs
  have r1 := cell_of_row _ _ 1 _ _ _ hs
  have r2 := cell_of_row _ _ 2 _ _ _ hs
  have r3 := cell_of_row _ _ 3 _ _ _ hs
  have r4 := cell_of_row _ _ 4 _ _ _ hs
  refine bodyPost_ret (v := .agg #[.int .i64 v.st.gets, .int .i64 v.st.hits, .int .i64 v.st.reads, .int .i64 v.st.heals, .int .i64 v.st.puts]) (by simp [results, Tryz.results11, go_sem, r0, r1, r2, r3, r4]) rfl ?_
  exact ⟨rfl, hE.drew⟩

end Go.Proofs.YtgfajlaibgbdoaaGreat

namespace Go.Proofs.YtgfajlaibgbdoaaGreat
open Go.RowKit

def pagg (a size birth : Int) (sum : List UInt8) : Value := .agg #[.int .i64 a, .int .i64 size, .int .i64 birth, .string ⟨sum.toArray⟩]

/-- a block put at an address: the store behind it. -/
structure PutRel (y : Sy) (v v' : Sv) (bs : List UInt8) (a : Nat) : Prop where
  take : TakeRel v.spc (costF y.k bs.length) v'.spc a 0
  ws : ∃ zs, LayOf y.k (padB bs) ((bs.length + 127) / 128) zs ∧ v'.ws = v.ws ++ wsOf (y.k + 4) y.F a zs
  st : v'.st = { v.st with puts := v.st.puts + 1, mem := remL v.st.mem (a, shaF bs, bs) }
  sec : ∃ zs, LayOf y.k (padB bs) ((bs.length + 127) / 128) zs ∧ (∀ z ∈ zs, z.length = 128) ∧ v'.ws = v.ws ++ wsOf (y.k + 4) y.F a zs

def PutPost (y : Sy) (v : Sv) (bs : List UInt8) (w : World) (e : Ending) (w' : World) : Prop :=
  (e = .returned (.tuple #[pagg 0 0 0 [], .int .i64 5]) ∧ SyR w' y v ∧ SyF y w w' ∧ (cntL v.spc.free - v.spc.back < costF y.k bs.length ∨ v.spc.free.find? (fitsB (costF y.k bs.length)) = none)) ∨
  ∃ (a : Nat) (v' : Sv), e = .returned (.tuple #[pagg a bs.length v.st.txg (shaF bs), .int .i64 0]) ∧ SyR w' y v' ∧ SyF y w w' ∧ PutRel y v v' bs a

theorem Took.bound {s s' : Spc} {a n : Int} (h : SpI s) (t : Took s s' a n) (hn : 1 ≤ n) : a + n ≤ s.cells := by
  have h1 := t.at1 (a + n - 1) (by omega)
  have h2 := (h.all (a + n - 1)).2 (.inl h1)
  omega

theorem Enc.Rd.tagExt {α : Type} {E : Enc α} {w w' : World} {v : Value} {xs : List α} {bs : List Nat} {Ts : List TypeId} {T : TypeId} (h : E.Rd w v xs) (ht : ∀ g ∈ blkL v, tagOf w g = some T) (he : ExtT bs Ts w w') (hb : ∀ y ∈ bs, tagOf w y ≠ some T) (hT : T ∉ Ts) : E.Rd w' v xs ∧ ∀ g ∈ blkL v, tagOf w' g = some T := by
  obtain ⟨S, hS, hs⟩ := he
  have hn : ∀ g ∈ blkL v, g ∉ S := fun g hg hg2 => by
    rcases hs g hg2 with h1 | ⟨T', h1, h2, _⟩
    · exact hb g h1 (ht g hg)
    · rw [ht g hg] at h2
      cases h2
      exact hT h1
  exact ⟨h.ext hS hn, fun g hg => tagOf_ext (ht g hg) hS (hn g hg)⟩

theorem SyR.other {w w' : World} {y : Sy} {v : Sv} (h : SyR w y v) {g : Nat} {c : Array Value} {T : TypeId} {x : Nat × Nat} (hg : w.heap[g]? = some (.cells c T x)) (he : Ext [g] w w') (hT : T ∉ [79, 68, 66, 4, 218, 5, 87, 114, 104]) : SyR w' y v := by
  have tg := tagOf_of hg
  simp only [List.mem_cons, List.not_mem_nil, or_false, not_or] at hT
  obtain ⟨t1, t2, t3, t4, t5, t6, t7, t8, t9⟩ := hT
  have he' : ExtT [g] [] w w' := ExtT.of he (by simp)
  refine ⟨h.st.extT he' ?_ ?_ (by decide) (by decide) (by decide), h.ar.extT he' ?_ (by decide), h.rk.extT he' ?_ ?_ ?_ (by decide), h.sp.extT he' ?_ ?_ (by decide) (by decide), h.spi, h.k1, h.k8, h.S2, h.FS, h.cells, h.mem⟩
  · simpa using tag_ne h.st.tag tg (Ne.symm t1)
  · simp only [List.mem_singleton, forall_eq, tg, ne_eq, Option.some.injEq]; exact ⟨t7, t6⟩
  · simpa using tag_ne h.ar.tag tg (Ne.symm t2)
  · simpa using tag_ne h.rk.tag.1 tg (Ne.symm t3)
  · simpa using tag_ne h.rk.tag.2 tg (Ne.symm t4)
  · simp only [List.mem_singleton, forall_eq, tg, ne_eq, Option.some.injEq]; exact ⟨t5, t6⟩
  · simpa using tag_ne h.sp.tag tg (Ne.symm t8)
  · simp only [List.mem_singleton, forall_eq, tg, ne_eq, Option.some.injEq]; exact t9
theorem SyF.new {y : Sy} {a b c : World} {g : Nat} (h : SyF y a b) (he : Ext [g] b c) (hg : a.heap.size ≤ g) : SyF y a c :=
  ExtT.trans' h (ExtT.of he (by simp) : ExtT [g] [] b c) (fun _ h => .inl h) (fun x hx => .inr (by simp at hx; omega)) (fun _ h => h) (by simp)

theorem set4 {W : World} {g : Nat} {T : TypeId} {a0 a1 a2 a3 : Value} (h : W.heap[g]? = some (.cells #[a0, a1, a2, a3] T (0, 0))) (b0 b1 b2 b3 : Value) :
    ((((W.setCell ⟨g, 0, none⟩ b0).setCell ⟨g, 1, none⟩ b1).setCell ⟨g, 2, none⟩ b2).setCell ⟨g, 3, none⟩ b3).heap[g]? = some (.cells #[b0, b1, b2, b3] T (0, 0)) ∧ Ext [g] W ((((W.setCell ⟨g, 0, none⟩ b0).setCell ⟨g, 1, none⟩ b1).setCell ⟨g, 2, none⟩ b2).setCell ⟨g, 3, none⟩ b3) :=
  ⟨heap_setCell_same _ _ 3 _ _ _ (heap_setCell_same _ _ 2 _ _ _ (heap_setCell_same _ _ 1 _ _ _ (heap_setCell_same W g 0 _ _ _ h))),
    ((((Ext.refl [g] W).setCell (.inl (by simp)) _).setCell (.inl (by simp)) _).setCell (.inl (by simp)) _).setCell (.inl (by simp)) _⟩
theorem cells4 {W : World} {g : Nat} {T : TypeId} {a0 a1 a2 a3 : Value} (h : W.heap[g]? = some (.cells #[a0, a1, a2, a3] T (0, 0))) : W.cell? ⟨g, 0, none⟩ = some a0 ∧ W.cell? ⟨g, 1, none⟩ = some a1 ∧ W.cell? ⟨g, 2, none⟩ = some a2 ∧ W.cell? ⟨g, 3, none⟩ = some a3 ∧ ∀ j, W.frozen? ⟨g, j, none⟩ = false :=
  ⟨by rw [cell_of_row _ _ 0 _ _ _ h]; rfl, by rw [cell_of_row _ _ 1 _ _ _ h]; rfl, by rw [cell_of_row _ _ 2 _ _ _ h]; rfl, by rw [cell_of_row _ _ 3 _ _ _ h]; rfl, fun j => frozen_of_row _ _ _ _ _ h⟩

/-- two operations may come up. -/
theorem wpAnyU_two {P : Program} {ops : Array Oper} {Q : Exit → Act → World → Prop} {md : Region.Mode} {S : World → Prop} {nd : Nat → Bool} {i j : Nat} {oi oj : Oper} {n : Nat} {listed : Array Bool} {a : Act} {w : World} (hr : Region.ready md ops listed = [i, j]) (ho : ops[i]? = some oi) (hj : ops[j]? = some oj)
    (h : ∀ K : Act → World → Prop, Hid (∀ a' w', (nd i = true → S w') → ((nd i = true → S w') → wpAnyU P md ops Q S nd n (listed.setIfInBounds i true) a' w') → K a' w') → if Region.wanted oi (yielded ops a.tmps) = true then Oper.wp P oi a w K Q else K (a.put oi.dst undef) w)
    (h' : ∀ K : Act → World → Prop, Hid (∀ a' w', (nd j = true → S w') → ((nd j = true → S w') → wpAnyU P md ops Q S nd n (listed.setIfInBounds j true) a' w') → K a' w') → if Region.wanted oj (yielded ops a.tmps) = true then Oper.wp P oj a w K Q else K (a.put oj.dst undef) w) :
    wpAnyU P md ops Q S nd (n + 1) listed a w := by
  refine ⟨(fun h0 => by rw [hr] at h0; cases h0), fun k hk => ?_⟩
  rw [hr] at hk
  rcases List.mem_cons.1 hk with rfl | hk
  · exact wpOp_step ho (fun K hK => h K (fun a w hS hW => hK a w ⟨hS, hW hS⟩))
  · obtain rfl : k = j := by simpa using hk
    exact wpOp_step hj (fun K hK => h' K (fun a w hS hW => hK a w ⟨hS, hW hS⟩))

set_option maxRecDepth 100000 in
set_option maxHeartbeats 1600000 in
theorem stput_c (y : Sy) (v : Sv) (val : Value) (bs : List UInt8) (w : World) (h : SyR w y v) (hv : EB.Rd w val bs) (hvt : ∀ g ∈ blkL val, tagOf w g = some 5) (h1 : 1 ≤ bs.length) (h2 : bs.length ≤ 1024) (hp0 : 0 ≤ v.st.puts) (hp1 : v.st.puts ≤ 1000000) (hwl : v.ws.length ≤ 900000) :
    Calls Tryz.prog 10 #[.pointer (some ⟨y.b, 0, none⟩), val] w (PutPost y v bs w) := by
  obtain ⟨p, c, rfl, _⟩ := hv.len_eq
  have hEa : Ext [] w (w.alloc (.cells #[.int .i64 0, .int .i64 0, .int .i64 0, .string ⟨#[]⟩] 37)) := (Ext.refl [] w).alloc _
  have hb4 := heap_alloc_new w (.cells #[.int .i64 0, .int .i64 0, .int .i64 0, .string ⟨#[]⟩] 37)
  obtain ⟨c0, c1, _⟩ := (h.st.ext0 hEa).cells
  have HS := Lib.hid (h.ext0 hEa)
  have HV := Lib.hid (hv.ext0 hEa)
  have HVT := Lib.hid (fun g hg => tagOf_ext (hvt g hg) hEa (by simp) : ∀ g ∈ blkL (.slice p bs.length c), tagOf (w.alloc (.cells #[.int .i64 0, .int .i64 0, .int .i64 0, .string ⟨#[]⟩] 37)) g = some 5)
  have HB4 := Lib.hid hb4
  have hcb := costF_bd y.k bs.length h1 h2
  have hsz : w.heap.size + 1 ≤ (w.alloc (.cells #[.int .i64 0, .int .i64 0, .int .i64 0, .string ⟨#[]⟩] 37)).heap.size := by simp
  obtain ⟨size, hsz'⟩ : ∃ n, n = bs.length := ⟨_, rfl⟩
  have HSZ := Lib.hid hsz'
  rw [← hsz'] at HV HVT hcb h1 h2 ⊢
  clear h hv hvt hb4 hsz'
  go_enter Tryz.func10, Tryz.ntmps10
  go_wp2_with fail
  revert hEa c0 c1 HS HB4 hsz HVT HV
  generalize World.alloc _ _ = W0
  intro hEa c0 c1 HS HB4 hsz HVT HV
  refine (arcost_c y.a y.r y.k y.F size _ HS.out.ar (by have := HS.out.k8; omega) h1 h2).mono ?_
  rintro e W1 ⟨rfl, hE1⟩
  have HS1 := Lib.hid (HS.out.ext0 hE1)
  have HV1 := Lib.hid (HV.out.ext0 hE1)
  have HVT1 := Lib.hid (fun g hg => tagOf_ext (HVT.out g hg) hE1 (by simp) : ∀ g ∈ blkL (.slice p size c), tagOf W1 g = some 5)
  have HB41 := Lib.hid (hE1.blk HB4.out (by simp))
  have c11 := hE1.cell c1 (by simp)
  have c01 := hE1.cell c0 (by simp)
  have hE01 := hEa.trans hE1
  clear HS HV HVT HB4 c0 c1 hEa hE1
  obtain ⟨C, hC⟩ : ∃ C, C = costF y.k size := ⟨_, rfl⟩
  rw [← hC] at hcb ⊢
  have HC := Lib.hid hC
  clear hC
  go_wp2_with fail
  refine (take_c y.sp v.spc (C : Int) _ HS1.out.sp HS1.out.spi (by omega) (by omega)).mono ?_
  rintro e W2 ⟨s', a, err, rfl, hr2, hi2, hE2, hrel⟩
  rcases hrel with ⟨h, _⟩ | ⟨_, hno, rfl, rfl, rfl⟩ | ⟨_, hle, hfi, rfl, htk⟩
  · omega
  · have hs2 := HS1.out.onSp hE2 hr2 hi2 rfl
    have hF2 : SyF y w W2 := (SyF.of0 hE01).trans (SyF.sp hE2)
    have hb42 := SyF.blk HS1.out (SyF.sp hE2) HB41.out (by decide)
    have HS2 := Lib.hid hs2
    have HF2 := Lib.hid hF2
    have HB42 := Lib.hid hb42
    have HNO := Lib.hid hno
    obtain ⟨v0, v1, v2, v3, hfz⟩ := cells4 hb42
    clear hs2 hF2 hb42 hno hr2 hi2 hE2 hE01 c01 c11
    go_wp2
    obtain ⟨hs, hE9⟩ := set4 HB42.out (.int .i64 0) (.int .i64 0) (.int .i64 0) (.string ⟨#[]⟩)
    obtain ⟨r0, r1, r2, r3, _⟩ := cells4 hs
    refine bodyPost_ret (v := .tuple #[pagg 0 0 0 [], .int .i64 5]) (by simp [results, Tryz.results10, go_sem, r0, r1, r2, r3, pagg]) rfl ?_
    refine .inl ⟨rfl, HS2.out.other HB42.out hE9 (by decide), HF2.out.new hE9 (Nat.le_refl _), ?_⟩
    rw [← HSZ.out, ← HC.out]
    exact HNO.out
  · have ha0 := htk.at0
    have hab := htk.bound HS1.out.spi (by omega)
    obtain ⟨A, rfl⟩ : ∃ A : Nat, a = A := ⟨a.toNat, by omega⟩
    have hcl := HS1.out.cells
    have had : A + costF y.k bs.length ≤ (y.k + 4) * (y.S - y.F) := by rw [← HSZ.out, ← HC.out]; omega
    have hs2 := HS1.out.onSp hE2 hr2 hi2 htk.cells
    have hF2 : SyF y w W2 := (SyF.of0 hE01).trans (SyF.sp hE2)
    have hb42 := SyF.blk HS1.out (SyF.sp hE2) HB41.out (by decide)
    have hv2 := HV1.out.tagExt HVT1.out (ExtT.of hE2 (by simp) : ExtT [y.sp] [] W1 W2) (by simp only [List.mem_singleton, forall_eq, HS1.out.sp.tag]; decide) (by simp)
    have hTR : TakeRel v.spc (costF y.k size) s' A 0 := .inr (.inr ⟨by rw [← HC.out]; omega, by rw [← HC.out]; exact hle, by rw [← HC.out]; exact hfi, rfl, by rw [← HC.out]; exact htk⟩)
    obtain ⟨c02, c12, c22, _⟩ := hs2.st.cells
    simp only at c02 c12 c22
    have HS2 := Lib.hid hs2
    have HF2 := Lib.hid hF2
    have HB42 := Lib.hid hb42
    have HV2 := Lib.hid hv2
    have HTR := Lib.hid hTR
    have HAD := Lib.hid had
    clear hs2 hF2 hb42 hv2 hTR had hr2 hi2 hE2 hE01 c01 c11 hle hfi htk ha0 hab hcl
    go_wp2_with fail
    have hw := arwrite_c y.a y.r y.gg y.k y.S y.F A v.ws (.slice p size c) bs W2 HS2.out.rk HS2.out.ar HS2.out.k1 HS2.out.k8 HS2.out.S2 HS2.out.FS HV2.out.1 (by rw [← HSZ.out]; exact h1) (by rw [← HSZ.out]; exact h2) HAD.out hwl
    refine hw.mono ?_
    clear hw
    rintro e W3 ⟨rfl, zs, hlay, hz128, hr3, hE3⟩
    have HZ128 := Lib.hid hz128
    clear hz128
    have hs3 := HS2.out.onRk hE3 hr3
    have hF3 := HF2.out.trans (SyF.rk hE3)
    have hb43 := SyF.blk HS2.out (SyF.rk hE3) HB42.out (by decide)
    have hv3 := HV2.out.1.tagExt HV2.out.2 hE3 (by simp only [List.mem_singleton, forall_eq, HS2.out.rk.tag.1]; decide) (by decide)
    obtain ⟨_, _, _, _, _, _, _, c83, hfz3⟩ := hs3.st.cells
    simp only at c83
    have hst4 := hs3.st.setAt (s' := { v.st with puts := v.st.puts + 1 }) 8 (.int .i64 (v.st.puts + 1)) rfl (fun mv => rfl)
    have HS3 := Lib.hid hs3
    have HF3 := Lib.hid hF3
    have HB43 := Lib.hid hb43
    have HV3 := Lib.hid hv3
    have HST4 := Lib.hid hst4
    have HLAY := Lib.hid hlay
    clear hs3 hF3 hb43 hv3 hst4 hlay hr3 hE3 c02 c12 c22
    go_wp2_with fail
    refine (i64add_c ⟨y.b, 8, none⟩ v.st.puts _ c83 (hfz3 8) hp0 (by omega)).mono ?_
    rintro e W4 ⟨rfl, rfl⟩
    have hst4 := HST4.out
    have hb44 := SyF.blk HS3.out (SyF.st hst4.2) HB43.out (by decide)
    have hv4 := HV3.out.1.tagExt HV3.out.2 hst4.2 (by simp only [List.mem_singleton, forall_eq, HS3.out.st.tag]; decide) (by decide)
    have hs4 := HS3.out.onSt hst4.2 hst4.1 HS3.out.mem
    have hF4 := HF3.out.trans (SyF.st hst4.2)
    have HS4 := Lib.hid hs4
    have HF4 := Lib.hid hF4
    have HB44 := Lib.hid hb44
    have HV4 := Lib.hid hv4
    clear hst4 hb44 hv4 hs4 hF4 HST4 hfz3 c83 HV3 HF3 HS3 HB43 HV2 HF2 HS2 HB42 HV1 HVT1 HS1 HB41
    revert HS4 HF4 HB44 HV4
    generalize World.setCell _ _ _ = W4
    intro HS4 HF4 HB44 HV4
    obtain ⟨_, _, c2, _⟩ := HS4.out.st.cells
    simp only at c2
    go_upto_region 14 with fail
    go_cut [10] (fun pv W => ∃ g : Nat, pv = .pointer (some ⟨g, 0, none⟩) ∧ Ext [] W4 W ∧ W4.heap.size ≤ g ∧ W.heap[g]? = some (.cells #[.int .i64 A, .int .i64 size, .int .i64 v.st.txg, .string ⟨(shaF bs).toArray⟩] 37 (0, 0)))
    case first =>
      have hD := (Ext.refl [] W4).drew
      refine wp_region_u (fun W => W.cell? ⟨y.b, 2, none⟩ = some (.int .i64 v.st.txg)) (fun i => i == 6 || i == 8 || i == 10) (by kernel_rfl) (hD.cell c2 (by simp)) (fun hS => ?_)
      (refine wpAnyU_pure (i := 0) rfl (by kernel_rfl) (by kernel_rfl) (by kernel_rfl) (by rfl) (by exact fun _ _ _ h => h) (Or.inl ⟨by rfl, fun W => by (go_simp; try rfl)⟩) ?_); (try go_frame)
      (refine wpAnyU_pure (i := 1) rfl (by kernel_rfl) (by kernel_rfl) (by kernel_rfl) (by rfl) (by exact fun _ _ _ h => h) (Or.inl ⟨by rfl, fun W => by (go_simp; try rfl)⟩) ?_); (try go_frame)
      (refine wpAnyU_pure (i := 2) rfl (by kernel_rfl) (by kernel_rfl) (by kernel_rfl) (by rfl) (by exact fun _ _ _ h => h) (Or.inl ⟨by rfl, fun W => by (go_simp; try rfl)⟩) ?_); (try go_frame)
      (refine wpAnyU_pure (i := 3) rfl (by kernel_rfl) (by kernel_rfl) (by kernel_rfl) (by rfl) (by exact fun _ _ _ h => h) (Or.inl ⟨by rfl, fun W => by (go_simp; try rfl)⟩) ?_); (try go_frame)
      (refine wpAnyU_pure (i := 4) rfl (by kernel_rfl) (by kernel_rfl) (by kernel_rfl) (by rfl) (by exact fun _ _ _ h => h) (Or.inl ⟨by rfl, fun W => by (go_simp; try rfl)⟩) ?_); (try go_frame)
      (refine wpAnyU_pure (i := 5) rfl (by kernel_rfl) (by kernel_rfl) (by kernel_rfl) (by rfl) (by exact fun _ _ _ h => h) (Or.inl ⟨by rfl, fun W => by (go_simp; try rfl)⟩) ?_); (try go_frame)
      (refine wpAnyU_pure (i := 7) rfl (by kernel_rfl) (by kernel_rfl) (by kernel_rfl) (by rfl) (by exact fun _ _ _ h => h) (Or.inl ⟨by rfl, fun W => by (go_simp; try rfl)⟩) ?_); (try go_frame)
      (refine wpAnyU_take (i := 6) rfl (by kernel_rfl) (by kernel_rfl) (by kernel_rfl) (by kernel_rfl) (by exact fun _ _ _ h => h) (by assumption) (Or.inl ⟨by rfl, fun W hW => by (have hWW := hW; clear hW; go_split_ands; go_simp; try rfl)⟩) ?_); (try go_frame)
      refine wpAnyU_two (i := 8) (j := 10) (by kernel_rfl) rfl rfl (fun K hK => ?_) (fun K hK => ?_)
      · (try simp only [Act.put, List.getElem_toArray, List.getElem_cons_zero, List.getElem_cons_succ, List.setIfInBounds_toArray, List.set_cons_zero, List.set_cons_succ]); rw [if_pos (show Region.wanted _ _ = true from rfl)]
        go_simp
        have hv4 : EB.Rd W4.drew (.slice p size c) bs := HV4.out.1.ext0 hD
        refine (sum_c _ bs _ hv4 (by rw [← HSZ.out]; omega)).mono ?_
        rintro e W5 ⟨rfl, hE5⟩
        have s5 := hE5.cell hS (by simp)
        have hE05 := hD.trans hE5
        refine hK.out _ _ (fun _ => s5) (fun _ => ?_)
        clear hK hv4 hS
        (refine wpAnyU_pure (i := 9) rfl (by kernel_rfl) (by kernel_rfl) (by kernel_rfl) (by rfl) (by exact fun _ _ _ h => h) (Or.inl ⟨by rfl, fun W => by (go_simp; try rfl)⟩) ?_); (try go_frame)
        refine wpAnyU_one (i := 10) (by kernel_rfl) rfl (fun K hK => ?_)
        rw [if_pos (show Region.wanted _ _ = true from rfl)]
        go_simp
        refine hK.out _ _ (fun _ => ((Ext.refl [] W5).alloc _).cell s5 (by simp)) (fun _ => ?_)
        clear hK
        refine wpAnyU_one (i := 11) (by kernel_rfl) rfl (fun K hK => ?_)
        rw [if_pos (show Region.wanted _ _ = true from rfl)]
        go_simp
        refine hK.out _ _ (fun h => by cases h) (fun _ => ?_)
        refine wpAnyU_done (by kernel_rfl) ?_ _
        go_wp2_with fail
        go_meet
        case rel => exact ⟨W5.heap.size, rfl, hE05.alloc _, hE05.size, heap_alloc_new W5 _⟩
      · (try simp only [Act.put, List.getElem_toArray, List.getElem_cons_zero, List.getElem_cons_succ, List.setIfInBounds_toArray, List.set_cons_zero, List.set_cons_succ]); rw [if_pos (show Region.wanted _ _ = true from rfl)]
        go_simp
        have hEb := hD.alloc (.cells #[.int .i64 0, .int .i64 0, .int .i64 0, .string ⟨#[]⟩] 37)
        have hbb : (W4.drew.alloc (.cells #[.int .i64 0, .int .i64 0, .int .i64 0, .string ⟨#[]⟩] 37)).heap[W4.heap.size]? = _ := heap_alloc_new W4.drew (.cells #[.int .i64 0, .int .i64 0, .int .i64 0, .string ⟨#[]⟩] 37)
        have s4 := hEb.cell c2 (by simp)
        refine hK.out _ _ (fun _ => s4) (fun _ => ?_)
        clear hK
        refine wpAnyU_one (i := 8) (by kernel_rfl) rfl (fun K hK => ?_)
        (try simp only [Act.put, List.getElem_toArray, List.getElem_cons_zero, List.getElem_cons_succ, List.setIfInBounds_toArray, List.set_cons_zero, List.set_cons_succ]); rw [if_pos (show Region.wanted _ _ = true from rfl)]
        go_simp
        have hv4 := HV4.out.1.ext0 hEb
        refine (sum_c _ bs _ hv4 (by rw [← HSZ.out]; omega)).mono ?_
        rintro e W5 ⟨rfl, hE5⟩
        have s5 := hE5.cell s4 (by simp)
        have hE05 := hEb.trans hE5
        have hb5 := hE5.blk hbb (by simp)
        have HB5 := Lib.hid hb5
        obtain ⟨v0, v1, v2, v3, hfz⟩ := cells4 HB5.out
        refine hK.out _ _ (fun _ => s5) (fun _ => ?_)
        clear hK hv4 hb5 hbb s4
        (refine wpAnyU_pure (i := 9) rfl (by kernel_rfl) (by kernel_rfl) (by kernel_rfl) (by rfl) (by exact fun _ _ _ h => h) (Or.inl ⟨by rfl, fun W => by (go_simp; try rfl)⟩) ?_); (try go_frame)
        refine wpAnyU_one (i := 11) (by kernel_rfl) rfl (fun K hK => ?_)
        rw [if_pos (show Region.wanted _ _ = true from rfl)]
        go_simp
        refine hK.out _ _ (fun h => by cases h) (fun _ => ?_)
        refine wpAnyU_done (by kernel_rfl) ?_ _
        go_wp2_with fail
        go_meet
        case rel =>
          obtain ⟨hs, hE9⟩ := set4 HB5.out (.int .i64 A) (.int .i64 size) (.int .i64 v.st.txg) (.string ⟨(shaF bs).toArray⟩)
          exact ⟨W4.heap.size, rfl, hE05.trans' hE9 (by simp) (by simp), Nat.le_refl _, hs⟩
    case rest =>
      obtain ⟨g, rfl, hE5, hg5, hb5⟩ := hcut
      have hs5 := HS4.out.ext0 hE5
      have hv5 := HV4.out.1.ext0 hE5
      have hF5 := HF4.out.trans (SyF.of0 hE5)
      have hb45 := hE5.blk HB44.out (by simp)
      have HS5 := Lib.hid hs5
      have HV5 := Lib.hid hv5
      have HF5 := Lib.hid hF5
      have HB45 := Lib.hid hb45
      have HB5 := Lib.hid hb5
      have hgw : w.heap.size < g := by have := lt_of_blk HB44.out; omega
      obtain ⟨_, _, _, q3, _⟩ := cells4 HB5.out
      clear hs5 hv5 hF5 hb45 hb5 hE5 HS4 HV4 HF4 HB44 c2 hg5
      go_wp2_with fail
      have hD := (Ext.refl [] wc).drew
      refine wp_region_u (fun W => W.cell? ⟨g, 3, none⟩ = some (.string ⟨(shaF bs).toArray⟩)) (fun i => i == 3 || i == 5) (by kernel_rfl) (hD.cell q3 (by simp)) (fun hS => ?_)
      (refine wpAnyU_pure (i := 0) rfl (by kernel_rfl) (by kernel_rfl) (by kernel_rfl) (by rfl) (by exact fun _ _ _ h => h) (Or.inl ⟨by rfl, fun W => by (go_simp; try rfl)⟩) ?_); (try go_frame)
      (refine wpAnyU_pure (i := 1) rfl (by kernel_rfl) (by kernel_rfl) (by kernel_rfl) (by rfl) (by exact fun _ _ _ h => h) (Or.inl ⟨by rfl, fun W => by (go_simp; try rfl)⟩) ?_); (try go_frame)
      (refine wpAnyU_pure (i := 2) rfl (by kernel_rfl) (by kernel_rfl) (by kernel_rfl) (by rfl) (by exact fun _ _ _ h => h) (Or.inl ⟨by rfl, fun W => by (go_simp; try rfl)⟩) ?_); (try go_frame)
      (refine wpAnyU_pure (i := 4) rfl (by kernel_rfl) (by kernel_rfl) (by kernel_rfl) (by rfl) (by exact fun _ _ _ h => h) (Or.inl ⟨by rfl, fun W => by (go_simp; try rfl)⟩) ?_); (try go_frame)
      (refine wpAnyU_take (i := 3) rfl (by kernel_rfl) (by kernel_rfl) (by kernel_rfl) (by kernel_rfl) (by exact fun _ _ _ h => h) (by assumption) (Or.inl ⟨by rfl, fun W hW => by (have hWW := hW; clear hW; go_split_ands; go_simp; try rfl)⟩) ?_); (try go_frame)
      refine wpAnyU_one (i := 5) (by kernel_rfl) rfl (fun K hK => ?_)
      (try simp only [Act.put, List.getElem_toArray, List.getElem_cons_zero, List.getElem_cons_succ, List.setIfInBounds_toArray, List.set_cons_zero, List.set_cons_succ]); rw [if_pos (show Region.wanted _ _ = true from rfl)]
      go_simp
      refine (cloneB_c _ bs _ (by rw [← HSZ.out]; omega) (HV5.out.ext0 hD)).mono ?_
      rintro e W6 ⟨v6, rfl, how6, hE6, hnew6, -⟩
      have s6 := hE6.cell hS (by simp)
      have hE06 := hD.trans hE6
      obtain ⟨p6, c6, rfl, _⟩ := how6.rd.len_eq
      rw [← HSZ.out] at how6
      simp only [← HSZ.out]
      refine hK.out _ _ (fun _ => s6) (fun _ => ?_)
      clear hK hS
      (refine wpAnyU_pure (i := 6) rfl (by kernel_rfl) (by kernel_rfl) (by kernel_rfl) (by rfl) (by exact fun _ _ _ h => h) (Or.inl ⟨by rfl, fun W => by (go_simp; try rfl)⟩) ?_); (try go_frame)
      refine wpAnyU_one (i := 7) (by kernel_rfl) rfl (fun K hK => ?_)
      (try simp only [Act.put, List.getElem_toArray, List.getElem_cons_zero, List.getElem_cons_succ, List.setIfInBounds_toArray, List.set_cons_zero, List.set_cons_succ]); rw [if_pos (show Region.wanted _ _ = true from rfl)]
      go_simp
      have hs6 := HS5.out.ext0 hE06
      have hF6 := HF5.out.trans (SyF.of0 hE06)
      have hb46 := hE06.blk HB45.out (by simp)
      have hb6 := hE06.blk HB5.out (by simp)
      have HS6 := Lib.hid hs6
      have HF6 := Lib.hid hF6
      have HB46 := Lib.hid hb46
      have HB6 := Lib.hid hb6
      clear hs6 hF6 hb46 hb6 hE06 hE6 hnew6 s6
      refine (remember_c y.b y.a y.sp { v.st with puts := v.st.puts + 1 } (A, shaF bs, p6, size, c6) bs W6 HS6.out.st HS6.out.mem how6).mono ?_
      rintro e W7 ⟨rfl, hst7, hE7⟩
      have hs7 := HS6.out.onSt hE7 hst7 (remL_len _ _)
      have hF7 := HF6.out.trans (SyF.st hE7)
      have hb47 := SyF.blk HS6.out (SyF.st hE7) HB46.out (by decide)
      have hb7 := SyF.blk HS6.out (SyF.st hE7) HB6.out (by decide)
      have HS7 := Lib.hid hs7
      have HF7 := Lib.hid hF7
      have HB47 := Lib.hid hb47
      have HB7 := Lib.hid hb7
      refine hK.out _ _ (fun h => by cases h) (fun _ => ?_)
      refine wpAnyU_done (by kernel_rfl) ?_ _
      clear hK hst7 hE7 hs7 hF7 hb47 hb7 how6 hD q3
      obtain ⟨v0, v1, v2, v3, hfz⟩ := cells4 HB47.out
      obtain ⟨q0, q1, q2, q3, _⟩ := cells4 HB7.out
      go_wp2_with fail
      obtain ⟨hs, hE9⟩ := set4 HB47.out (.int .i64 A) (.int .i64 size) (.int .i64 v.st.txg) (.string ⟨(shaF bs).toArray⟩)
      obtain ⟨r0, r1, r2, r3, _⟩ := cells4 hs
      refine bodyPost_ret (v := .tuple #[pagg A size v.st.txg (shaF bs), .int .i64 0]) (by simp [results, Tryz.results10, go_sem, r0, r1, r2, r3, pagg]) rfl ?_
      refine .inr ⟨A, ⟨{ { v.st with puts := v.st.puts + 1 } with mem := remL v.st.mem (A, shaF bs, bs) }, v.ws ++ wsOf (y.k + 4) y.F A zs, s'⟩, by rw [← HSZ.out], HS7.out.other HB47.out hE9 (by decide), HF7.out.new hE9 (Nat.le_refl _), ?_⟩
      exact ⟨by rw [← HSZ.out]; exact HTR.out, ⟨zs, by rw [← HSZ.out]; rw [← HSZ.out] at HLAY; exact HLAY.out, rfl⟩, rfl, ⟨zs, by rw [← HSZ.out]; rw [← HSZ.out] at HLAY; exact HLAY.out, HZ128.out, rfl⟩⟩

end Go.Proofs.YtgfajlaibgbdoaaGreat

