
import Derived.Test.YtgfajlaibgbdoaaGreatLa1
namespace Go.Proofs.YtgfajlaibgbdoaaGreat
open Go.RowKit

def EP : Enc Ptr4 where
  k := 4
  hk := by decide
  enc x := [.int .i64 x.1, .int .i64 x.2.1, .int .i64 x.2.2.1, .string ⟨x.2.2.2.toArray⟩]
  len _ := rfl
  one _ v hv := by simp at hv; rcases hv with rfl | rfl | rfl | rfl <;> rfl
theorem tiP : Ti Tryz.prog EP 37 40 (0, 0, 0, []) := Ti.mk' (z := .agg #[.int .i64 0, .int .i64 0, .int .i64 0, .string ⟨#[]⟩]) (by kernel_rfl) rfl
abbrev P0 : Ptr4 := (0, 0, 0, [])
theorem EP_cells {w : World} {g o n cap : Nat} {s : List Ptr4} (h : EP.Rd w (.slice (some ⟨g, o, none⟩) n cap) s) (i : Nat) (hi : i < s.length) :
    w.cell? ⟨g, o + i * 4, none⟩ = some (.int .i64 (s.getD i P0).1) ∧ w.cell? ⟨g, o + i * 4 + 1, none⟩ = some (.int .i64 (s.getD i P0).2.1) ∧ w.cell? ⟨g, o + i * 4 + 2, none⟩ = some (.int .i64 (s.getD i P0).2.2.1) ∧ w.cell? ⟨g, o + i * 4 + 3, none⟩ = some (.string ⟨(s.getD i P0).2.2.2.toArray⟩) := by
  have e : s.getD i P0 = s[i] := by simp [List.getD, hi]
  rw [e]
  exact ⟨h.cells i 0 hi (by decide), h.cells i 1 hi (by decide), h.cells i 2 hi (by decide), h.cells i 3 hi (by decide)⟩
theorem one_rdP {T : TypeId} (W0 : World) (x : Ptr4) : EP.Rd (W0.alloc (.cells #[.int .i64 x.1, .int .i64 x.2.1, .int .i64 x.2.2.1, .string ⟨x.2.2.2.toArray⟩] T)) (.slice (some ⟨W0.heap.size, 0, none⟩) 1 1) [x] := by
  refine .inr ⟨W0.heap.size, 0, 1, rfl, Nat.le_refl _, by simp, fun j u hj => ?_⟩
  rw [cell_of_row _ W0.heap.size _ _ _ _ (heap_alloc_new _ _)]
  match j, hj with
  | 0, hj => exact hj
  | 1, hj => exact hj
  | 2, hj => exact hj
  | 3, hj => exact hj
  | j + 4, hj => simp [EP, Enc.flat] at hj
/-- a list without its last element. -/
theorem Enc.Ow.dropLast {α : Type} {E : Enc α} {T : TypeId} {w : World} {p : Option Addr} {n c : Nat} {xs : List α} {x : α} (h : E.Ow T w (.slice p n c) (xs ++ [x])) : n = xs.length + 1 ∧ E.Ow T w (.slice p (n - 1) c) xs := by
  rcases h with ⟨_, h⟩ | ⟨g, i, cap, l, h, hg, h1, h2, h3⟩
  · simp at h
  · simp only [Value.slice.injEq, List.length_append, List.length_singleton] at h
    obtain ⟨rfl, rfl, rfl⟩ := h
    refine ⟨rfl, .inr ⟨g, i, c, l, by simp, hg, by simp at h1; omega, h2, ?_⟩⟩
    have h4 := congrArg (List.take xs.length) h3
    rw [List.take_take, List.take_left, Nat.min_eq_left (by simp)] at h4
    exact h4
theorem EBo_cell {w : World} {g o n cap : Nat} {s : List Bool} (h : EBo.Rd w (.slice (some ⟨g, o, none⟩) n cap) s) (i : Nat) (hi : i < s.length) : w.cell? ⟨g, o + i, none⟩ = some (.bool (s.getD i false)) := by
  have e : s.getD i false = s[i] := by simp [List.getD, hi]
  have h1 := h.cells i 0 hi (by decide)
  rw [e]
  simpa [EBo] using h1
theorem rowB_cell {w : World} {g : Nat} {T : TypeId} {f : Nat × Nat} {H : List Bool} (hg : w.heap[g]? = some (.cells (EBo.flat H).toArray T f)) (i : Nat) (hi : i < H.length) : w.cell? ⟨g, i, none⟩ = some (.bool (H.getD i false)) := by
  rw [cell_of_row w g i _ _ _ hg]; simp [flatBo, List.getD, hi]
theorem rowB_set {w : World} {g : Nat} {T : TypeId} {H : List Bool} (hg : w.heap[g]? = some (.cells (EBo.flat H).toArray T (0, 0))) (i : Nat) (b : Bool) : (w.setCell ⟨g, i, none⟩ (.bool b)).heap[g]? = some (.cells (EBo.flat (H.set i b)).toArray T (0, 0)) := by
  rw [heap_setCell_same w g i _ _ (.bool b) hg]
  congr 2
  apply Array.ext'
  simp [flatBo, List.map_set]

/-- the state of the law's great loop behind q steps. -/
structure ApW (w0 w : World) (y : Sy) (gh : Nat) (lv : Value) (v : Sv) (H : List Bool) (ps : List Ptr4) (q : Nat) : Prop where
  ext : Ext [] w0 w
  sy : SyR w y v
  ap : ApR y.k 77 v.spc H ps
  hb : w.heap[gh]? = some (.cells (EBo.flat H).toArray 4 (0, 0))
  hl : w0.heap.size ≤ gh
  ne : gh ≠ y.gg
  lo : EP.Ow 37 w lv ps
  ll : ∀ g ∈ blkL lv, w0.heap.size ≤ g
  p0 : 0 ≤ v.st.puts
  p1 : v.st.puts ≤ q
  ws : v.ws.length ≤ 32 * q
  pl : ps.length ≤ q

theorem ApW.move {w0 w w' : World} {y : Sy} {gh : Nat} {lv : Value} {v v' : Sv} {H : List Bool} {ps ps' : List Ptr4} {q : Nat} (q' : Nat) (h : ApW w0 w y gh lv v H ps q) (hy : ∀ z ∈ [y.b, y.r, y.sp], w0.heap.size ≤ z) (hs : SyR w' y v') (hf : SyF y w w') (ha : ApR y.k 77 v'.spc H ps') (h0 : 0 ≤ v'.st.puts) (h1 : v'.st.puts ≤ q') (h2 : v'.ws.length ≤ 32 * q') {lv' : Value} (hlo : EP.Ow 37 w' lv' ps') (hll : ∀ g ∈ blkL lv', w0.heap.size ≤ g) (hpl : ps'.length ≤ q') : ApW w0 w' y gh lv' v' H ps' q' :=
  ⟨hf.above h.ext hy, hs, ha, hf.blk h.sy h.hb (by decide), h.hl, h.ne, hlo, hll, h0, h1, h2, hpl⟩
theorem ApW.loF {w0 w w' : World} {y : Sy} {gh : Nat} {lv : Value} {v : Sv} {H : List Bool} {ps : List Ptr4} {q : Nat} (h : ApW w0 w y gh lv v H ps q) (hf : SyF y w w') : EP.Ow 37 w' lv ps := by
  refine h.lo.extT hf (fun g hg hg2 => ?_) (by decide)
  obtain ⟨c, hc⟩ := h.lo.tag g hg
  have ht := tagOf_of hc
  simp only [List.mem_cons, List.not_mem_nil, or_false] at hg2
  rcases hg2 with h1 | h1 | h1
  · exact tag_ne ht h.sy.st.tag (by decide) h1
  · exact tag_ne ht h.sy.rk.tag.1 (by decide) h1
  · exact tag_ne ht h.sy.sp.tag (by decide) h1
theorem ApW.ext0 {w0 w w' : World} {y : Sy} {gh : Nat} {lv : Value} {v : Sv} {H : List Bool} {ps : List Ptr4} {q : Nat} (h : ApW w0 w y gh lv v H ps q) (he : Ext [] w w') : ApW w0 w' y gh lv v H ps q :=
  ⟨h.ext.trans he, h.sy.ext0 he, h.ap, he.blk h.hb (by simp), h.hl, h.ne, h.lo.ext0 he, h.ll, h.p0, h.p1, h.ws, h.pl⟩

/-- a row of truth values beside the rack's is changed. -/
theorem SyR.otherB {w w' : World} {y : Sy} {v : Sv} (h : SyR w y v) {g : Nat} {c : Array Value} {x : Nat × Nat} (hg : w.heap[g]? = some (.cells c 4 x)) (he : Ext [g] w w') (hne : g ≠ y.gg) : SyR w' y v := by
  have tg := tagOf_of hg
  have he' : ExtT [g] [] w w' := ExtT.of he (by simp)
  refine ⟨h.st.extT he' ?_ ?_ (by decide) (by decide) (by decide), h.ar.extT he' ?_ (by decide), h.rk.extT he' ?_ ?_ ?_ (by decide), h.sp.extT he' ?_ ?_ (by decide) (by decide), h.spi, h.k1, h.k8, h.S2, h.FS, h.cells, h.mem⟩
  · simpa using tag_ne h.st.tag tg (by decide)
  · simp only [List.mem_singleton, forall_eq, tg]; decide
  · simpa using tag_ne h.ar.tag tg (by decide)
  · simpa using tag_ne h.rk.tag.1 tg (by decide)
  · simpa using Ne.symm hne
  · simp only [List.mem_singleton, forall_eq, tg]; decide
  · simpa using tag_ne h.sp.tag tg (by decide)
  · simp only [List.mem_singleton, forall_eq, tg]; decide

/-- blocks of pointers are changed. -/
theorem SyR.otherL {w w' : World} {y : Sy} {v : Sv} (h : SyR w y v) {S : List Nat} (he : Ext S w w') (hS : ∀ g ∈ S, tagOf w g = some 37) : SyR w' y v := by
  have he' : ExtT S [] w w' := ExtT.of he (fun z hz => .inl hz)
  refine ⟨h.st.extT he' (fun hm => ?_) (fun z hz => ?_) (by decide) (by decide) (by decide), h.ar.extT he' (fun hm => ?_) (by decide), h.rk.extT he' (fun hm => ?_) (fun hm => ?_) (fun z hz => ?_) (by decide), h.sp.extT he' (fun hm => ?_) (fun z hz => ?_) (by decide) (by decide), h.spi, h.k1, h.k8, h.S2, h.FS, h.cells, h.mem⟩
  · exact tag_ne h.st.tag (hS _ hm) (by decide) rfl
  · rw [hS z hz]; decide
  · exact tag_ne h.ar.tag (hS _ hm) (by decide) rfl
  · exact tag_ne h.rk.tag.1 (hS _ hm) (by decide) rfl
  · exact tag_ne h.rk.tag.2 (hS _ hm) (by decide) rfl
  · rw [hS z hz]; decide
  · exact tag_ne h.sp.tag (hS _ hm) (by decide) rfl
  · rw [hS z hz]; decide

/-- behind k of the blocks given back. -/
structure ApE (w0 w : World) (y : Sy) (lv : Value) (v : Sv) (H : List Bool) (ps : List Ptr4) (k : Nat) : Prop where
  ext : Ext [] w0 w
  sy : SyR w y v
  ap : ApR y.k 77 v.spc H (ps.drop k)
  lo : EP.Ow 37 w lv ps
theorem ApW.all {w0 w : World} {y : Sy} {gh : Nat} {lv : Value} {v : Sv} {H : List Bool} {ps : List Ptr4} {q : Nat} (h : ApW w0 w y gh lv v H ps q) : ApE w0 w y lv v H ps 0 := ⟨h.ext, h.sy, h.ap, h.lo⟩
theorem ApE.loF {w0 w w' : World} {y : Sy} {lv : Value} {v : Sv} {H : List Bool} {ps : List Ptr4} {q : Nat} (h : ApE w0 w y lv v H ps q) (hf : SyF y w w') : EP.Ow 37 w' lv ps := by
  refine h.lo.extT hf (fun g hg hg2 => ?_) (by decide)
  obtain ⟨c, hc⟩ := h.lo.tag g hg
  have ht := tagOf_of hc
  simp only [List.mem_cons, List.not_mem_nil, or_false] at hg2
  rcases hg2 with h1 | h1 | h1
  · exact tag_ne ht h.sy.st.tag (by decide) h1
  · exact tag_ne ht h.sy.rk.tag.1 (by decide) h1
  · exact tag_ne ht h.sy.sp.tag (by decide) h1


set_option maxRecDepth 100000 in
set_option maxHeartbeats 8000000 in
theorem apart_c (v0 : Value) (xs : List Int) (v1 : Value) (bs : List Bool) (w : World) (hv : AR EI w v0 xs) (hb : AR EBo w v1 bs) : Calls Tryz.prog 5 #[v0, v1] w fun e w' => e = .returned (.bool true) ∧ Ext [] w w' := by
  obtain ⟨p, cap, rfl, hrd⟩ := hv
  obtain ⟨pb, capb, rfl, hrdb⟩ := hb
  have HV := Lib.hid hrd
  have HVB := Lib.hid hrdb
  obtain ⟨n, hn⟩ : ∃ n, n = xs.length := ⟨_, rfl⟩
  obtain ⟨nb, hnb⟩ : ∃ n, n = bs.length := ⟨_, rfl⟩
  have HN := Lib.hid hn
  have HNB := Lib.hid hnb
  rw [← hn] at HV ⊢
  rw [← hnb] at HVB ⊢
  clear hrd hrdb hn hnb
  go_enter Tryz.func5, Tryz.ntmps5
  go_wp2_with fail
  refine (known_c _).mono ?_
  rintro e W0 ⟨rfl, hE0⟩
  go_wp2_with fail
  refine (rknew_c 7 12 _ (by omega) (by omega) (by omega) (by omega)).mono ?_
  rintro e W1 ⟨r, gg, rfl, hr, lr, -, hE1⟩
  have HR1 := Lib.hid hr
  have hE01 := hE0.trans hE1
  have lr0 := hE0.size
  clear hr hE0 hE1
  go_wp2_with fail
  refine (arnew_c r gg 7 12 1 [] _ HR1.out (by omega) (by omega)).mono ?_
  rintro e W2 ⟨a, rfl, ha, -, hE2⟩
  have HR2 := Lib.hid (HR1.out.ext0 hE2)
  have HA2 := Lib.hid ha
  have hE02 := hE01.trans hE2
  clear ha hE01 hE2 HR1
  go_wp2_with fail
  refine (stnew_c a r gg 3 12 1 [] _ HR2.out HA2.out (by omega) (by omega) (by omega) (by omega)).mono ?_
  rintro e W3 ⟨b, sp, v, rfl, hsy, hws, hnew, lb, lsp, hE3⟩
  have hs02 := hE02.size
  have hlow : ∀ z ∈ [b, r, sp], w.heap.size ≤ z := fun z hz => by
    simp at hz
    rcases hz with rfl | rfl | rfl <;> omega
  have HLOW := Lib.hid hlow
  have HSY := Lib.hid hsy
  have HNEW := Lib.hid hnew
  have HWS := Lib.hid hws
  have hE03 := hE02.trans hE3
  clear hsy hnew hws hE02 hE3 HR2 HA2 hlow lb lsp hs02 lr0 lr
  go_wp2_with fail
  have hac := arcells_c a r gg 7 12 1 v.ws W3 HSY.out.rk HSY.out.ar (by omega) (by omega) (by omega)
  refine hac.mono ?_
  clear hac
  rintro e W4 ⟨rfl, hE4⟩
  have HSY4 := Lib.hid (HSY.out.ext0 hE4)
  have hE04 := hE03.trans hE4
  clear hE03 hE4 HSY
  go_wp2_with (with_reducible refine hold_at (d := 48) ?_)
  refine wpl_of rfl fun K hK => ?_
  go_simp
  have hmk : (Instr.makeSlice 56 (.int .i64 77) (.int .i64 77)).run Tryz.prog W4 = .ok (.slice (some ⟨W4.heap.size, 0, none⟩) 77 77) (W4.alloc (.cells (EBo.flat (List.replicate 77 false)).toArray 4)) := make_of (P := Tryz.prog) tiBo rfl rfl Tryz.underlying56 77 77 (by omega) (by omega) (by omega) W4
  rw [hmk]
  clear hmk
  refine hK _ _ ?_
  clear hK
  have hgb := heap_alloc_new W4 (.cells (EBo.flat (List.replicate 77 false)).toArray 4)
  have hEb := (Ext.refl [] W4).alloc (.cells (EBo.flat (List.replicate 77 false)).toArray 4)
  obtain ⟨gh, hgh⟩ : ∃ g, g = W4.heap.size := ⟨_, rfl⟩
  simp only [← hgh] at hgb ⊢
  have lgh : w.heap.size ≤ gh := by have := hE04.size; omega
  have ngg : gh ≠ gg := by have := HSY4.out.rk.lt.2; simp only at this; omega
  have HGB := Lib.hid hgb
  have HSY5 := Lib.hid (HSY4.out.ext0 hEb)
  have hE05 := hE04.trans hEb
  clear hgb hgh hEb hE04 HSY4
  revert HGB HSY5 hE05
  generalize World.alloc _ _ = W5
  intro HGB HSY5 hE05
  have hap : ApW w W5 ⟨b, a, r, gg, sp, 3, 12, 1⟩ gh (.slice none 0 0) v (List.replicate 77 false) [] 0 := by
    have hc : v.spc.cells = ((77 : Nat) : Int) := HSY5.out.cells
    exact ⟨hE05, HSY5.out, ApR.start hc (by rw [HNEW.out.free]) HNEW.out.used HNEW.out.back, HGB.out, lgh, ngg, .inl ⟨rfl, rfl⟩, by simp [blkL], by rw [HNEW.out.st]; simp [sto0], by rw [HNEW.out.st]; simp [sto0], by rw [HWS.out]; simp, by simp⟩
  have HAP := Lib.hid hap
  obtain ⟨y, hy⟩ : ∃ y : Sy, y = ⟨b, a, r, gg, sp, 3, 12, 1⟩ := ⟨_, rfl⟩
  rw [← hy] at HAP
  have yb : b = y.b := by rw [hy]
  have ya : a = y.a := by rw [hy]
  have yk : y.k = 3 := by rw [hy]
  have hyl : ∀ z ∈ [y.b, y.r, y.sp], w.heap.size ≤ z := by rw [hy]; exact HLOW.out
  rw [yb, ya]
  have HYK := Lib.hid yk
  have HYL := Lib.hid hyl
  clear hap yb ya yk hyl hy HLOW HSY5 HNEW HWS HGB hE05 lgh
  go_wp2_with fail
  go_loopw [12, 13, 14, 15, 16, 17, 18] (fun lv iv _ _ _ _ _ wr => ∃ (q : Nat) (v' : Sv) (H : List Bool) (ps : List Ptr4), q ≤ n ∧ q ≤ 30 ∧ iv = .int .i64 q ∧ (∃ p1 c1, lv = .slice p1 ps.length c1) ∧ Hid (ApW w wr y gh lv v' H ps q)) (fun _ iv _ _ _ _ _ _ => 30 - (intOf iv).toNat)
  case atStart => exact ⟨0, v, _, [], by omega, by omega, rfl, ⟨none, 0, rfl⟩, HAP⟩
  case round =>
    obtain ⟨q, v', H, ps, hq, hq30, rfl, ⟨p1, c1, rfl⟩, HW⟩ := hrel
    by_cases hlt : q < n
    · by_cases h30 : q < 30
      · have z1 : (q : Int) < (n : Int) := by omega
        have z2 : (q : Int) < 30 := by omega
        have hr := HV.out (by intro h; have := HN.out; rw [h] at this; simp at this; omega)
        obtain ⟨g, o, rfl⟩ : ∃ g o, p = some ⟨g, o, none⟩ := by
          rcases hr with ⟨_, h⟩ | ⟨g, o, c, h, _⟩
          · have := HN.out; rw [h] at this; simp at this; omega
          · simp only [Value.slice.injEq] at h; exact ⟨g, o, h.1⟩
        have hcell := EI_cell (hr.ext0 HW.out.ext) q (by rw [← HN.out]; exact hlt)
        obtain ⟨x, hx⟩ : ∃ a, a = xs.getD q 0 := ⟨_, rfl⟩
        rw [← hx] at hcell
        obtain ⟨m1, m2⟩ := modw9 x 1024 (by omega)
        obtain ⟨Z, hZ⟩ : ∃ Z : Nat, (Z : Int) = 1 + (IntKind.u64.wrap x).tmod 1024 := ⟨(1 + (IntKind.u64.wrap x).tmod 1024).toNat, by omega⟩
        have hZ1 : 1 ≤ Z ∧ Z ≤ 1024 := by omega
        have HZ := Lib.hid hZ
        clear hr hx hZ
        go_wp2_with (with_reducible refine hold_at (d := 69) ?_)
        refine wpl_of rfl fun K hK => ?_
        go_simp
        rw [← HZ.out, make_bytes Z Z (Nat.le_refl _) (by omega)]
        refine hK _ _ ?_
        clear hK hcell m1 m2
        obtain ⟨BS, hBS⟩ : ∃ B : List UInt8, B = List.replicate Z 0 := ⟨_, rfl⟩
        have hBl : BS.length = Z := by rw [hBS]; simp
        rw [← hBS]
        have hEb := (Ext.refl [] wr).alloc (.cells (EB.flat BS).toArray 5)
        have hbv : EB.Rd (wr.alloc (.cells (EB.flat BS).toArray 5)) (.slice (some ⟨wr.heap.size, 0, none⟩) Z Z) BS := .inr ⟨wr.heap.size, 0, Z, by rw [hBl], by omega, by simp, fun j u hj => by rw [cell_of_row _ _ _ _ _ _ (heap_alloc_new wr _)]; simp at hj ⊢; exact hj⟩
        have hbt : ∀ g ∈ blkL (.slice (some ⟨wr.heap.size, 0, none⟩) Z Z), tagOf (wr.alloc (.cells (EB.flat BS).toArray 5)) g = some 5 := fun g hg => by simp [blkL] at hg; subst hg; exact tagOf_of (heap_alloc_new wr _)
        have HW1 := Lib.hid (HW.out.ext0 hEb)
        have HBV := Lib.hid hbv
        have HBT := Lib.hid hbt
        have HBL := Lib.hid hBl
        obtain ⟨gz, hgz⟩ : ∃ g, g = wr.heap.size := ⟨_, rfl⟩
        rw [← hgz] at HBV HBT
        simp only [← hgz]
        clear hBS hbv hbt hBl hEb hgz HW
        revert HW1 HBT HBV
        generalize World.alloc _ _ = W1
        intro HW1 HBT HBV
        go_wp2_with fail
        refine (stput_c y v' _ BS W1 HW1.out.sy HBV.out HBT.out (by rw [HBL.out]; omega) (by rw [HBL.out]; omega) HW1.out.p0 (by have := HW1.out.p1; omega) (by have := HW1.out.ws; omega)).mono ?_
        rintro e W2 hpost
        rcases hpost with ⟨rfl, hs2, hF2, -⟩ | ⟨A, v2, rfl, hs2, hF2, hput⟩
        · have hw2 := HW1.out.move (q + 1) HYL.out hs2 hF2 HW1.out.ap HW1.out.p0 (by have := HW1.out.p1; omega) (by have := HW1.out.ws; omega) (HW1.out.loF hF2) HW1.out.ll (by have := HW1.out.pl; omega)
          have HW2 := Lib.hid (hw2.ext0 ((Ext.refl [] W2).alloc (.cells #[.int .i64 0, .int .i64 0, .int .i64 0, .string ⟨#[]⟩] 37)))
          clear hs2 hF2 hw2
          rw [pagg]
          go_wp2_with fail
          go_roundw
          case rel => exact ⟨q + 1, v', H, ps, by omega, by omega, by go_num, ⟨p1, c1, rfl⟩, HW2⟩
          case measure => simp [intOf]; omega
        · have hcb := costF_bd y.k BS.length (by rw [HBL.out]; omega) (by rw [HBL.out]; omega)
          obtain ⟨-, htk⟩ : True ∧ Took v'.spc v2.spc (A : Int) (costF y.k BS.length) := by
            rcases hput.take with ⟨h, _⟩ | ⟨_, _, _, _, h⟩ | ⟨_, _, _, _, h⟩
            · omega
            · cases h
            · exact ⟨trivial, h⟩
          have hab := htk.bound HW1.out.sy.spi (by omega)
          rw [HW1.out.ap.cells] at hab
          rw [HBL.out] at hcb htk hab
          have hpst := hput.st
          have hws : v2.ws.length ≤ 32 * (q + 1) := by
            obtain ⟨zs, hlay, hws⟩ := hput.ws
            have hzl := hlay.len 0
            rw [← costF_eq, HBL.out] at hzl
            rw [hws, List.length_append, wsOf_len]
            have := HW1.out.ws
            omega
          obtain ⟨SH, hSH⟩ : ∃ S, S = shaF BS := ⟨_, rfl⟩
          rw [← hSH, HBL.out]
          obtain ⟨N, hN⟩ : ∃ N, N = costF y.k Z := ⟨_, rfl⟩
          rw [← hN] at hcb htk hab
          have HNN := Lib.hid hN
          obtain ⟨tx, htx⟩ : ∃ t, t = v'.st.txg := ⟨_, rfl⟩
          rw [← htx]
          rw [pagg]
          have HTK := Lib.hid htk
          have HPST := Lib.hid hpst
          have HSH := Lib.hid hSH
          have HTX := Lib.hid htx
          clear htk hpst hSH htx hN
          go_wp2_with fail
          have hEc := (Ext.refl [] W2).alloc (.cells #[.int .i64 A, .int .i64 Z, .int .i64 tx, .string ⟨SH.toArray⟩] 37)
          have hs3 := hs2.ext0 hEc
          have hb3 := heap_alloc_new W2 (.cells #[.int .i64 A, .int .i64 Z, .int .i64 tx, .string ⟨SH.toArray⟩] 37)
          have hgh3 := hEc.blk (hF2.blk HW1.out.sy HW1.out.hb (by decide)) (by simp)
          have hlo3 := (HW1.out.loF hF2).ext0 hEc
          have hE3 : Ext [] w (W2.alloc (.cells #[.int .i64 A, .int .i64 Z, .int .i64 tx, .string ⟨SH.toArray⟩] 37)) := (hF2.above HW1.out.ext HYL.out).trans hEc
          have llo := (HW1.out.loF hF2).lt
          have HS3 := Lib.hid hs3
          have HAP := Lib.hid HW1.out.ap
          have HLB := Lib.hid (And.intro HW1.out.hl (And.intro HW1.out.ne (And.intro HW1.out.ll (And.intro HW1.out.p0 (And.intro HW1.out.p1 HW1.out.pl)))))
          have HSP1 := Lib.hid HW1.out.sy.spi
          have HLLO := Lib.hid llo
          obtain ⟨bp, hbp⟩ : ∃ b, b = W2.heap.size := ⟨_, rfl⟩
          rw [← hbp] at hb3 HLLO
          simp only [← hbp]
          have HB3 := Lib.hid hb3
          have HGH3 := Lib.hid hgh3
          have HLO3 := Lib.hid hlo3
          have HE3 := Lib.hid hE3
          clear hs2 hF2 hput hEc hs3 hb3 hgh3 hlo3 hE3 llo hbp HW1 HBT HBV
          revert HS3 HB3 HGH3 HLO3 HE3
          generalize World.alloc _ _ = W3
          intro HS3 HB3 HGH3 HLO3 HE3
          refine (arcost_c y.a y.r y.k y.F Z _ HS3.out.ar (by have := HS3.out.k8; omega) (by omega) (by omega)).mono ?_
          rintro e W4 ⟨rfl, hE4⟩
          rw [← HNN.out]
          have HS4 := Lib.hid (HS3.out.ext0 hE4)
          have HB4 := Lib.hid (hE4.blk HB3.out (by simp))
          have HGH4 := Lib.hid (hE4.blk HGH3.out (by simp))
          have HLO4 := Lib.hid (HLO3.out.ext0 hE4)
          have HE4 := Lib.hid (HE3.out.trans hE4)
          clear hE4 HS3 HB3 HGH3 HLO3 HE3
          obtain ⟨r0, r1, r2, r3, _⟩ := cells4 HB4.out
          have hEB4 : gh ≠ bp := by
            rintro rfl
            have h1 := HGH4.out
            rw [HB4.out] at h1
            simp only [Option.some.injEq, Obj.cells.injEq] at h1
            exact absurd h1.2.1 (by decide)
          go_wp2_with fail
          have hab2 : A + N ≤ 77 := by omega
          clear hab
          go_loopw [18] (fun cv wr2 => ∃ (j : Nat) (H' : List Bool), j ≤ N ∧ cv = .int .i64 ((A + j : Nat) : Int) ∧ Ext [gh] W4 wr2 ∧ Hid (wr2.heap[gh]? = some (.cells (EBo.flat H').toArray 4 (0, 0))) ∧ Hid (SetB H H' A j)) (fun cv _ => A + N - (intOf cv).toNat)
          case atStart => exact ⟨0, H, by omega, rfl, Ext.refl _ _, HGH4, Lib.hid (SetB.zero H A)⟩
          case round =>
            obtain ⟨j, H', hj, rfl, hE5, HH, HSB⟩ := hrel
            have k0 := hE5.cell r0 (by simpa using fun h => hEB4 h.symm)
            by_cases hlj : j < N
            · have hcell : wr.cell? ⟨gh, A + j, none⟩ = some (.bool false) := by
                have hl : A + j < H.length := by rw [HAP.out.len]; omega
                rw [rowB_cell HH.out (A + j) (by rw [HSB.out.1]; exact hl), HSB.out.2 _ hl]
                have hm := HTK.out.at1 ((A + j : Nat) : Int) ⟨by omega, by omega⟩
                have hh := HAP.out.held (A + j) (by omega)
                have hf : H.getD (A + j) false = false := by
                  cases hq : H.getD (A + j) false with
                  | false => rfl
                  | true => exact (hh.1 hq hm).elim
                rw [hf, decide_eq_false (by omega)]
                rfl
              have hfz : ∀ j, wr.frozen? ⟨gh, j, none⟩ = false := fun j => frozen_of_row _ _ _ _ _ HH.out
              have hset := rowB_set HH.out (A + j) true
              have HSET := Lib.hid hset
              have HSB2 := Lib.hid HSB.out.step
              obtain ⟨m, hm⟩ : ∃ m, m = A + j := ⟨_, rfl⟩
              rw [← hm] at hcell HSET
              rw [← hm]
              have z1 : (m : Int) < (A : Int) + (N : Int) := by omega
              have z2 : ¬ ((77 : Int) ≤ (m : Int)) := by omega
              have z3 : (m : Int) < 77 := by omega
              have z4 : (0 : Int) ≤ (m : Int) := by omega
              have z5 : m < 77 := by omega
              have HM := Lib.hid hm
              clear hset hm
              go_wp2_with fail
              go_roundw
              case rel => exact ⟨j + 1, _, by omega, by have := HM.out; rw [show A + (j + 1) = m + 1 by omega]; go_num, hE5.setCell (.inl (by simp)) _, HSET, by have h := HSB2.out; rw [← HM.out] at h; exact Lib.hid h⟩
              case measure => have := HM.out; simp [intOf]; omega
            · obtain rfl : j = N := by omega
              have z1 : ¬ (((A + j : Nat) : Int) < (A : Int) + (j : Int)) := by omega
              have k1 := hE5.cell r1 (by simpa using fun h => hEB4 h.symm)
              have k2 := hE5.cell r2 (by simpa using fun h => hEB4 h.symm)
              have k3 := hE5.cell r3 (by simpa using fun h => hEB4 h.symm)
              go_wp2_with (with_reducible refine hold_at (d := 116) ?_)
              have hE6 : Ext [] wr (wr.alloc (.cells #[.int .i64 A, .int .i64 Z, .int .i64 tx, .string ⟨SH.toArray⟩] 37)) := (Ext.refl [] wr).alloc _
              have hlo5 := HLO4.out.ext hE5 (fun g hg => by simpa using HLO4.out.ne HGH4.out (by decide) g hg)
              have hlo6 := hlo5.ext0 hE6
              have hrd6 := one_rdP (T := 37) wr (A, Z, tx, SH)
              have hs6 := (HS4.out.otherB HGH4.out hE5 HLB.out.2.1).ext0 hE6
              have hb6 := hE6.blk (hE5.blk HB4.out (by simpa using fun h => hEB4 h.symm)) (by simp)
              have hgh6 := hE6.blk HH.out (by simp)
              have hE06 := (HE4.out.trans' hE5 (by simp) (fun z hz => .inr (by simp at hz; subst hz; exact HLB.out.1))).trans hE6
              have HLO6 := Lib.hid hlo6
              have HRD6 := Lib.hid hrd6
              have HS6 := Lib.hid hs6
              have HB6 := Lib.hid hb6
              have HGH6 := Lib.hid hgh6
              have HE06 := Lib.hid hE06
              clear k0 k1 k2 k3 hE6 hlo5 hlo6 hrd6 hs6 hb6 hgh6 hE06 hE5 HH r0 r1 r2 r3
              refine wpl_of rfl fun K hK => opw_append (s := .tmp 113) (x := .tmp 115) (E := EP) (T := 37) (zero := P0) (bytes := 40) (v := .slice p1 ps.length c1) (xs := ps) (ys := [(A, Z, tx, SH)]) tiP Tryz.underlying35 Tryz.underlying35 rfl rfl rfl HLO6.out HRD6.out (by have := HLB.out.2.2.2.2.2; simp; omega) (by have := HLB.out.2.2.2.2.2; simp; omega) ?_
              intro v7 W7 how7 hE7 hnear7 _
              refine hK _ _ ?_
              clear hK
              have htl : ∀ g ∈ blkL (.slice p1 ps.length c1), tagOf (wr.alloc (.cells #[.int .i64 A, .int .i64 Z, .int .i64 tx, .string ⟨SH.toArray⟩] 37)) g = some 37 := fun g hg => by
                obtain ⟨c, hc⟩ := HLO6.out.tag g hg
                exact tagOf_of hc
              have hs7 := HS6.out.otherL hE7 htl
              have hbn : bp ∉ blkL (.slice p1 ps.length c1) := fun h => by have := HLLO.out bp h; omega
              have hgn : gh ∉ blkL (.slice p1 ps.length c1) := fun h => by
                have h1 := htl gh h
                rw [tagOf_of HGH6.out] at h1
                exact absurd h1 (by decide)
              have hb7 := hE7.blk HB6.out hbn
              have hgh7 := hE7.blk HGH6.out hgn
              have hE07 : Ext [] w W7 := HE06.out.trans' hE7 (by simp) (fun z hz => .inr (HLB.out.2.2.1 z hz))
              have hll7 : ∀ g ∈ blkL v7, w.heap.size ≤ g := fun g hg => by
                rcases hnear7 g hg with h | h
                · exact HLB.out.2.2.1 g h
                · have := HE06.out.size; omega
              have hap7 : ApR y.k 77 v2.spc H' (ps ++ [(A, Z, tx, SH)]) := HAP.out.took (p := (A, Z, tx, SH)) HSP1.out (by show Took _ _ (A : Int) ((costF y.k Z : Nat) : Int); rw [← HNN.out]; exact HTK.out) (by show SetB H H' A (costF y.k Z); rw [← HNN.out]; exact HSB.out) hZ1.1 hZ1.2 (by show A + costF y.k Z ≤ 77; rw [← HNN.out]; exact hab2)
              have hp7 : v2.st.puts = v'.st.puts + 1 := by rw [HPST.out]
              have hw7 : ApW w W7 y gh v7 v2 H' (ps ++ [(A, Z, tx, SH)]) (q + 1) := ⟨hE07, hs7, hap7, hgh7, HLB.out.1, HLB.out.2.1, how7, hll7, by rw [hp7]; have := HLB.out.2.2.2.1; omega, by rw [hp7]; have := HLB.out.2.2.2.2.1; omega, hws, by have := HLB.out.2.2.2.2.2; simp; omega⟩
              obtain ⟨p7, c7, rfl, hc7⟩ := how7.rd.len_eq
              have hl7 : (ps ++ [(A, Z, tx, SH)]).length = ps.length + 1 := by simp
              rw [hl7] at hc7 hw7
              have HW7 := Lib.hid hw7
              have HB7 := Lib.hid hb7
              clear htl hs7 hbn hgn hb7 hgh7 hE07 hll7 hap7 hp7 hw7 how7 hE7 hnear7 HLO6 HRD6 HS6 HB6 HGH6 HE06 HLO4 HGH4 HS4 HB4 HE4 hl7
              by_cases hgv : q < nb
              · have z6 : (q : Int) < (nb : Int) := by omega
                have hrb := HVB.out (by intro h; have := HNB.out; rw [h] at this; simp at this; omega)
                obtain ⟨gb, ob, rfl⟩ : ∃ g o, pb = some ⟨g, o, none⟩ := by
                  rcases hrb with ⟨_, h⟩ | ⟨g, o, c, h, _⟩
                  · have := HNB.out; rw [h] at this; simp at this; omega
                  · simp only [Value.slice.injEq] at h; exact ⟨g, o, h.1⟩
                have hcb' := EBo_cell (hrb.ext0 HW7.out.ext) q (by rw [← HNB.out]; exact hgv)
                clear hrb
                cases hbv : bs.getD q false with
                | false =>
                  rw [hbv] at hcb'
                  have HBV := Lib.hid hbv
                  clear hbv
                  go_wp2_with fail
                  go_roundw
                  case rel => exact ⟨q + 1, v2, H', ps ++ [(A, Z, tx, SH)], by omega, by omega, by go_num, ⟨p7, c7, by rw [List.length_append]; rfl⟩, HW7⟩
                  case measure => simp [intOf]; omega
                | true =>
                  rw [hbv] at hcb'
                  have HBV := Lib.hid hbv
                  clear hbv
                  obtain ⟨k0, k1, k2, k3, _⟩ := cells4 HB7.out
                  go_wp2_with fail
                  refine (stgive_c y v2 A Z tx SH W7 HW7.out.sy hZ1.1 hZ1.2 (by omega)).mono ?_
                  rintro e W8 ⟨err, v8, rfl, hs8, hF8, hws8, hrel8, hst8⟩
                  obtain ⟨rfl, hgn⟩ := HW7.out.ap.gives (p := (A, Z, tx, SH)) HW7.out.sy.spi (by simp) hrel8
                  have hb8 := hF8.blk HW7.out.sy HB7.out (by decide)
                  have hp8 : v8.st.puts = v2.st.puts := by
                    rcases hst8 with ⟨h, _⟩ | ⟨_, h⟩
                    · exact (h rfl).elim
                    · rw [h]
                  have HS8 := Lib.hid hs8
                  have HF8 := Lib.hid hF8
                  have HGN := Lib.hid hgn
                  have HWS8 := Lib.hid hws8
                  have HP8 := Lib.hid hp8
                  have HB8 := Lib.hid hb8
                  clear hs8 hF8 hgn hws8 hp8 hb8 hst8 hrel8 k0 k1 k2 k3
                  obtain ⟨k0, k1, k2, k3, _⟩ := cells4 HB8.out
                  go_wp2_with fail
                  refine (stgive_c y v8 A Z tx SH W8 HS8.out hZ1.1 hZ1.2 (by omega)).mono ?_
                  rintro e W9 ⟨err2, v9, rfl, hs9, hF9, hws9, hrel9, hst9⟩
                  obtain ⟨rfl, hsp9⟩ := Given.twice (p := (A, Z, tx, SH)) HW7.out.ap hZ1.1 hZ1.2 (by show A + costF y.k Z ≤ 77; rw [← HNN.out]; exact hab2) HGN.out hrel9
                  have hp9 : v9.st.puts = v2.st.puts := by
                    rcases hst9 with ⟨_, h⟩ | ⟨h, _⟩
                    · rw [h, HP8.out]
                    · cases h
                  have hap9 : ApR y.k 77 v9.spc H' ps := by
                    have h := HW7.out.ap.given (A := ps) (B := []) (p := (A, Z, tx, SH)) HGN.out
                    rw [List.append_nil] at h
                    rw [hsp9]
                    exact h
                  have hlo9 := (HW7.out.loF (HF8.out.trans hF9)).dropLast.2
                  rw [Nat.add_sub_cancel] at hlo9
                  have hpl : ps.length ≤ 30 := by have := HW7.out.pl; simp at this; omega
                  have hw9 := HW7.out.move (q + 1) HYL.out hs9 (HF8.out.trans hF9) hap9 (by rw [hp9]; exact HW7.out.p0) (by rw [hp9]; exact HW7.out.p1) (by rw [hws9, HWS8.out]; exact HW7.out.ws) hlo9 (fun g hg => HW7.out.ll g (by cases p7 with
                    | none => simp [blkL] at hg
                    | some a => exact hg)) (by have := HW7.out.pl; simp at this; omega)
                  have HW9 := Lib.hid hw9
                  clear hs9 hF9 hws9 hrel9 hst9 hsp9 hp9 hap9 hlo9 hw9 k0 k1 k2 k3
                  have z7 : (ps.length : Int) ≤ (c7 : Int) := by omega
                  have z8 : ps.length ≤ c7 := by omega
                  go_wp2_with fail
                  go_roundw
                  case rel => exact ⟨q + 1, v9, H', ps, by omega, by omega, by go_num, ⟨p7, c7, rfl⟩, HW9⟩
                  case measure => simp [intOf]; omega
              · have z6 : ¬ ((q : Int) < (nb : Int)) := by omega
                go_wp2_with fail
                go_roundw
                case rel => exact ⟨q + 1, v2, H', ps ++ [(A, Z, tx, SH)], by omega, by omega, by go_num, ⟨p7, c7, by rw [List.length_append]; rfl⟩, HW7⟩
                case measure => simp [intOf]; omega
      · obtain rfl : q = 30 := by omega
        have z1 : ((30 : Nat) : Int) < (n : Int) := by omega
        go_wp2_with fail
        have HE0 := Lib.hid HW.out.all
        have hpl : ps.length ≤ 30 := by have := HW.out.pl; omega
        clear HW
        go_loopw [19] (fun iv wr => ∃ (k : Nat) (v2 : Sv), k ≤ ps.length ∧ iv = .int .i64 k ∧ Hid (ApE w wr y (.slice p1 ps.length c1) v2 H ps k)) (fun iv _ => ps.length - (intOf iv).toNat)
        case atStart => exact ⟨0, v', by omega, rfl, HE0⟩
        case round =>
          clear HE0
          obtain ⟨k, v2, hk, rfl, HE⟩ := hrel
          by_cases hkl : k < ps.length
          · have y1 : (k : Int) < (ps.length : Int) := by omega
            obtain ⟨g2, o2, rfl⟩ : ∃ g o, p1 = some ⟨g, o, none⟩ := by
              rcases HE.out.lo.rd with ⟨_, h⟩ | ⟨g, o, c, h, _⟩
              · rw [h] at hkl; simp at hkl
              · simp only [Value.slice.injEq] at h; exact ⟨g, o, h.1⟩
            obtain ⟨k0, k1, k2, k3⟩ := EP_cells HE.out.lo.rd k hkl
            have hd : ps.drop k = ps.getD k P0 :: ps.drop (k + 1) := by
              rw [List.drop_eq_getElem_cons hkl]
              simp [List.getD, hkl]
            obtain ⟨pp, hpp⟩ : ∃ x, x = ps.getD k P0 := ⟨_, rfl⟩
            rw [← hpp] at k0 k1 k2 k3 hd
            have hap := HE.out.ap
            rw [hd] at hap
            obtain ⟨g1, g3, g4⟩ := hap.good pp (by simp)
            have HAPP := Lib.hid hap
            obtain ⟨A, Z, tx, SH⟩ := pp
            simp only at k0 k1 k2 k3 g1 g3 g4
            clear hd hpp hap
            go_wp2_with fail
            refine (stgive_c y v2 A Z tx SH _ HE.out.sy g1 g3 (by omega)).mono ?_
            rintro e W8 ⟨err, v8, rfl, hs8, hF8, hws8, hrel8, hst8⟩
            obtain ⟨rfl, hgn⟩ := HAPP.out.gives (p := (A, Z, tx, SH)) HE.out.sy.spi (by simp) hrel8
            have hn : ApE w W8 y (.slice (some ⟨g2, o2, none⟩) ps.length c1) v8 H ps (k + 1) := ⟨hF8.above HE.out.ext HYL.out, hs8, HAPP.out.given (A := []) (p := (A, Z, tx, SH)) hgn, HE.out.loF hF8⟩
            have HN8 := Lib.hid hn
            clear hs8 hF8 hws8 hrel8 hst8 hgn hn k0 k1 k2 k3
            go_wp2_with fail
            go_roundw
            case rel => exact ⟨k + 1, v8, by omega, by go_num, HN8⟩
            case measure => simp [intOf]; omega
          · obtain rfl : k = ps.length := by omega
            have y1 : ¬ ((ps.length : Int) < (ps.length : Int)) := by omega
            go_wp2_with fail
            refine (stsettle_c y v2 _ HE.out.sy).mono ?_
            rintro e W8 ⟨s', rfl, hs8, hset, hF8⟩
            have hap := HE.out.ap
            rw [List.drop_length] at hap
            obtain ⟨hfr, hus⟩ := hap.all HE.out.sy.spi hs8.spi hset (by omega) (by omega)
            have hc77 : (((y.k + 4) * (y.S - y.F) : Nat) : Int) = ((77 : Nat) : Int) := by
              have h := hs8.cells
              simp only at h
              rw [← h, hset.cells, hap.cells]
            have HC77 := Lib.hid hc77
            have HS8 := Lib.hid hs8
            have HE8 := Lib.hid (hF8.above HE.out.ext HYL.out)
            have HFR := Lib.hid hfr
            have HUS := Lib.hid hus
            clear hs8 hset hF8 hap hfr hus hc77
            go_wp2_with fail
            refine (stfree_c y _ _ HS8.out).mono ?_
            rintro e W9 ⟨rfl, hE9⟩
            have e9 : cntL s'.free - s'.back = ((77 : Nat) : Int) := HFR.out
            simp only [e9]
            have HS9 := Lib.hid (HS8.out.ext0 hE9)
            have HE9 := Lib.hid (HE8.out.trans hE9)
            clear hE9 e9 HS8 HE8
            go_wp2_with fail
            have hac := arcells_c y.a y.r y.gg (y.k + 4) y.S y.F v2.ws W9 HS9.out.rk HS9.out.ar (by have := HS9.out.k8; omega) HS9.out.S2 HS9.out.FS
            refine hac.mono ?_
            clear hac
            rintro e W10 ⟨rfl, hE10⟩
            rw [HC77.out]
            have HS10 := Lib.hid (HS9.out.ext0 hE10)
            have HE10 := Lib.hid (HE9.out.trans hE10)
            clear hE10 HS9 HE9
            go_wp2_with fail
            refine (stused_c y _ _ HS10.out).mono ?_
            rintro e W11 ⟨u, rfl, how, hE11⟩
            have hus2 : s'.used = [] := HUS.out
            rw [hus2] at how
            obtain ⟨pu, cu, rfl, _⟩ := how.rd.len_eq
            have HE11 := Lib.hid (HE10.out.trans hE11)
            clear how hus2 hE11
            go_wp2_with fail
            go_ret
            exact ⟨rfl, HE11.out⟩
    · obtain rfl : q = n := by omega
      have z1 : ¬ ((q : Int) < (q : Int)) := by omega
      go_wp2_with fail
      have HE0 := Lib.hid HW.out.all
      have hpl : ps.length ≤ 30 := by have := HW.out.pl; omega
      clear HW
      go_loopw [19] (fun iv wr => ∃ (k : Nat) (v2 : Sv), k ≤ ps.length ∧ iv = .int .i64 k ∧ Hid (ApE w wr y (.slice p1 ps.length c1) v2 H ps k)) (fun iv _ => ps.length - (intOf iv).toNat)
      case atStart => exact ⟨0, v', by omega, rfl, HE0⟩
      case round =>
        clear HE0
        obtain ⟨k, v2, hk, rfl, HE⟩ := hrel
        by_cases hkl : k < ps.length
        · have y1 : (k : Int) < (ps.length : Int) := by omega
          obtain ⟨g2, o2, rfl⟩ : ∃ g o, p1 = some ⟨g, o, none⟩ := by
            rcases HE.out.lo.rd with ⟨_, h⟩ | ⟨g, o, c, h, _⟩
            · rw [h] at hkl; simp at hkl
            · simp only [Value.slice.injEq] at h; exact ⟨g, o, h.1⟩
          obtain ⟨k0, k1, k2, k3⟩ := EP_cells HE.out.lo.rd k hkl
          have hd : ps.drop k = ps.getD k P0 :: ps.drop (k + 1) := by
            rw [List.drop_eq_getElem_cons hkl]
            simp [List.getD, hkl]
          obtain ⟨pp, hpp⟩ : ∃ x, x = ps.getD k P0 := ⟨_, rfl⟩
          rw [← hpp] at k0 k1 k2 k3 hd
          have hap := HE.out.ap
          rw [hd] at hap
          obtain ⟨g1, g3, g4⟩ := hap.good pp (by simp)
          have HAPP := Lib.hid hap
          obtain ⟨A, Z, tx, SH⟩ := pp
          simp only at k0 k1 k2 k3 g1 g3 g4
          clear hd hpp hap
          go_wp2_with fail
          refine (stgive_c y v2 A Z tx SH _ HE.out.sy g1 g3 (by omega)).mono ?_
          rintro e W8 ⟨err, v8, rfl, hs8, hF8, hws8, hrel8, hst8⟩
          obtain ⟨rfl, hgn⟩ := HAPP.out.gives (p := (A, Z, tx, SH)) HE.out.sy.spi (by simp) hrel8
          have hn : ApE w W8 y (.slice (some ⟨g2, o2, none⟩) ps.length c1) v8 H ps (k + 1) := ⟨hF8.above HE.out.ext HYL.out, hs8, HAPP.out.given (A := []) (p := (A, Z, tx, SH)) hgn, HE.out.loF hF8⟩
          have HN8 := Lib.hid hn
          clear hs8 hF8 hws8 hrel8 hst8 hgn hn k0 k1 k2 k3
          go_wp2_with fail
          go_roundw
          case rel => exact ⟨k + 1, v8, by omega, by go_num, HN8⟩
          case measure => simp [intOf]; omega
        · obtain rfl : k = ps.length := by omega
          have y1 : ¬ ((ps.length : Int) < (ps.length : Int)) := by omega
          go_wp2_with fail
          refine (stsettle_c y v2 _ HE.out.sy).mono ?_
          rintro e W8 ⟨s', rfl, hs8, hset, hF8⟩
          have hap := HE.out.ap
          rw [List.drop_length] at hap
          obtain ⟨hfr, hus⟩ := hap.all HE.out.sy.spi hs8.spi hset (by omega) (by omega)
          have hc77 : (((y.k + 4) * (y.S - y.F) : Nat) : Int) = ((77 : Nat) : Int) := by
            have h := hs8.cells
            simp only at h
            rw [← h, hset.cells, hap.cells]
          have HC77 := Lib.hid hc77
          have HS8 := Lib.hid hs8
          have HE8 := Lib.hid (hF8.above HE.out.ext HYL.out)
          have HFR := Lib.hid hfr
          have HUS := Lib.hid hus
          clear hs8 hset hF8 hap hfr hus hc77
          go_wp2_with fail
          refine (stfree_c y _ _ HS8.out).mono ?_
          rintro e W9 ⟨rfl, hE9⟩
          have e9 : cntL s'.free - s'.back = ((77 : Nat) : Int) := HFR.out
          simp only [e9]
          have HS9 := Lib.hid (HS8.out.ext0 hE9)
          have HE9 := Lib.hid (HE8.out.trans hE9)
          clear hE9 e9 HS8 HE8
          go_wp2_with fail
          have hac := arcells_c y.a y.r y.gg (y.k + 4) y.S y.F v2.ws W9 HS9.out.rk HS9.out.ar (by have := HS9.out.k8; omega) HS9.out.S2 HS9.out.FS
          refine hac.mono ?_
          clear hac
          rintro e W10 ⟨rfl, hE10⟩
          rw [HC77.out]
          have HS10 := Lib.hid (HS9.out.ext0 hE10)
          have HE10 := Lib.hid (HE9.out.trans hE10)
          clear hE10 HS9 HE9
          go_wp2_with fail
          refine (stused_c y _ _ HS10.out).mono ?_
          rintro e W11 ⟨u, rfl, how, hE11⟩
          have hus2 : s'.used = [] := HUS.out
          rw [hus2] at how
          obtain ⟨pu, cu, rfl, _⟩ := how.rd.len_eq
          have HE11 := Lib.hid (HE10.out.trans hE11)
          clear how hus2 hE11
          go_wp2_with fail
          go_ret
          exact ⟨rfl, HE11.out⟩

end Go.Proofs.YtgfajlaibgbdoaaGreat
