
import Derived.Test.YtgfajlaibgbdoaaGreatFi
import Derived.Test.YtgfajlaibgbdoaaGreatBy
import Derived.Laws.BitsAllLaws
namespace Go.Proofs.YtgfajlaibgbdoaaGreat
open Go.RowKit

/-! Slices of slices. -/
def ES : Enc (Option Addr × Nat × Nat) where
  k := 1
  hk := by decide
  enc x := [.slice x.1 x.2.1 x.2.2]
  len _ := rfl
  one _ v hv := by simp at hv; subst hv; rfl
theorem tiS : Ti Tryz.prog ES 40 24 (none, 0, 0) := Ti.mk' (z := .slice none 0 0) (by kernel_rfl) rfl

/-- a block of n bytes. -/
def U8 (w : World) (g n : Nat) : Prop := ∃ bs : List UInt8, bs.length = n ∧ w.heap[g]? = some (.cells (EB.flat bs).toArray 5 (0, 0))
theorem U8.lt {w : World} {g n : Nat} (h : U8 w g n) : g < w.heap.size := by obtain ⟨_, _, h⟩ := h; exact lt_of_blk h
theorem U8.ext {w w' : World} {g n : Nat} {S : List Nat} (h : U8 w g n) (he : Ext S w w') (hn : g ∉ S) : U8 w' g n := by
  obtain ⟨bs, h1, h2⟩ := h
  exact ⟨bs, h1, he.blk h2 hn⟩
theorem U8.ne {w : World} {g n b : Nat} {c : Array Value} {T : TypeId} {x : Nat × Nat} (h : U8 w g n) (hb : w.heap[b]? = some (.cells c T x)) (hT : 5 ≠ T) : g ≠ b := by
  rintro rfl
  obtain ⟨bs, _, h2⟩ := h
  rw [hb] at h2
  simp only [Option.some.injEq, Obj.cells.injEq] at h2
  exact hT h2.2.1.symm
theorem U8.cell {w : World} {g n : Nat} (h : U8 w g n) {i : Nat} (hi : i < n) : ∃ b : UInt8, w.cell? ⟨g, i, none⟩ = some (.int .u8 b.toNat) := by
  obtain ⟨bs, h1, h2⟩ := h
  refine ⟨bs.getD i 0, ?_⟩
  have hr : EB.Rd w (.slice (some ⟨g, 0, none⟩) bs.length bs.length) bs := .inr ⟨g, 0, bs.length, rfl, Nat.le_refl _, lt_of_blk h2, fun j u hj => by rw [cell_of_row _ g _ _ _ _ h2]; simp at hj ⊢; exact hj⟩
  have := EB_cell hr i (by omega)
  simpa using this
theorem U8.set {w : World} {g n : Nat} (h : U8 w g n) (i : Nat) (b : UInt8) : U8 (w.setCell ⟨g, i, none⟩ (.int .u8 b.toNat)) g n := by
  obtain ⟨bs, h1, h2⟩ := h
  refine ⟨bs.set i b, by simp [h1], ?_⟩
  rw [heap_setCell_same w g i _ _ _ h2]
  congr 2
  apply Array.ext'
  rw [flatB', flatB']
  simp [List.map_set]
where
  flatB' (l : List UInt8) : EB.flat l = l.map (fun b => Value.int .u8 b.toNat) := by
    induction l with
    | nil => rfl
    | cons a l ih => simp [ih]; rfl
theorem U8.frozen {w : World} {g n : Nat} (h : U8 w g n) (j : Nat) : w.frozen? ⟨g, j, none⟩ = false := by obtain ⟨_, _, h⟩ := h; exact frozen_of_row _ _ _ _ _ h

theorem FldR.ne {w : World} {f b : Nat} {c : Array Value} {T : TypeId} {x : Nat × Nat} (h : FldR w f) (hb : w.heap[b]? = some (.cells c T x)) (hT : 216 ≠ T) : f ≠ b := by
  rintro rfl
  obtain ⟨bs, _, h2, _⟩ := h
  rw [hb] at h2
  simp only [Option.some.injEq, Obj.cells.injEq] at h2
  exact hT h2.2.1.symm

theorem infoP : (Tryz.prog.info? 240).map (·.size) = some 3 := by kernel_rfl

set_option maxRecDepth 100000 in
theorem weights_c (f k : Nat) (hk : k ≤ 1000) (w : World) (hf : FldR w f) :
    Calls Tryz.prog 133 #[.pointer (some ⟨f, 0, none⟩), .int .i64 k] w fun e w' => ∃ q z : UInt8, e = .returned (.agg #[.int .u8 1, .int .u8 q.toNat, .int .u8 z.toNat]) ∧ FldR w' f ∧ Ext [f] w w' := by
  have HF := Lib.hid hf
  have lf := hf.lt
  clear hf
  go_enter Tryz.func133, Tryz.ntmps133
  go_wp2_with fail
  have hg := heap_alloc_new w (.cells #[.int .u8 0, .int .u8 0, .int .u8 0] 240)
  have hE : Ext [f] w (w.alloc (.cells #[.int .u8 0, .int .u8 0, .int .u8 0] 240)) := (Ext.refl [f] w).alloc _
  have hf1 := HF.out.ext0 ((Ext.refl [] w).alloc (.cells #[.int .u8 0, .int .u8 0, .int .u8 0] 240))
  obtain ⟨g, hge⟩ : ∃ g, g = w.heap.size := ⟨_, rfl⟩
  simp only [← hge] at hg ⊢
  have lg : w.heap.size ≤ g := by omega
  have hgf : g ≠ f := by omega
  have HF1 := Lib.hid hf1
  have HG1 := Lib.hid hg
  clear hge hf1 hg HF
  revert HF1 HG1 hE
  generalize World.alloc _ _ = W1
  intro hE HF1 HG1
  refine (pow2_c f k hk _ HF1.out).mono ?_
  rintro e W2 ⟨q, rfl, hf2, hE2⟩
  have HF2 := Lib.hid hf2
  have HG2 := Lib.hid (hE2.blk HG1.out (by simpa using hgf))
  clear hf2 HF1 HG1
  go_wp2_with fail
  refine (mul_c f q q _ HF2.out).mono ?_
  rintro e W3 ⟨z, rfl, hf3, hE3⟩
  have HF3 := Lib.hid hf3
  have HG3 := Lib.hid (hE3.blk HG2.out (by simpa using hgf))
  have hE03 := (hE.trans hE2).trans hE3
  clear hf3 HF2 HG2 hE hE2 hE3
  go_wp2_with (with_reducible refine hold_at (d := 18) ?_)
  unfold Hold
  refine wpList_build rfl 240 _ rfl (by kernel_rfl) ?_
  refine wpList_store_row rfl 240 (.tmp 4) (.tmp 18) rfl g #[.int .u8 1, .int .u8 q.toNat, .int .u8 z.toNat] rfl (by kernel_rfl) 240 _ HG3.out infoP rfl (by kernel_rfl) ?_
  go_wp2_with fail
  refine bodyPost_ret (results_cell_row rfl _ _ g 240 _ (0, 0) _ rfl (setRow_heap _ g _ _ 240 _ HG3.out) Tryz.underlying240 rfl infoP) rfl ?_
  refine ⟨q, z, rfl, ?_, hE03.setRow (.inr lg) _⟩
  obtain ⟨c, d, hc, h⟩ := HF3.out
  exact ⟨c, d, (Ext.setRow (g := g) (Ext.refl [g] W3) (.inl (by simp)) _).blk hc (by simpa using hgf.symm), h⟩

end Go.Proofs.YtgfajlaibgbdoaaGreat

namespace Go.Proofs.YtgfajlaibgbdoaaGreat
open Go.RowKit

theorem ES_cell {w : World} {g o n cap : Nat} {s : List (Option Addr × Nat × Nat)} (h : ES.Rd w (.slice (some ⟨g, o, none⟩) n cap) s) (i : Nat) (x : Option Addr × Nat × Nat) (hi : s[i]? = some x) : w.cell? ⟨g, o + i, none⟩ = some (.slice x.1 x.2.1 x.2.2) := by
  obtain ⟨h0, h1⟩ := List.getElem?_eq_some_iff.1 hi
  have h1' := h.cells i 0 h0 (by decide)
  rw [h1] at h1'
  simpa [ES] using h1'

theorem xor_u8 (a b : UInt8) : ∃ c : UInt8, bits .xor .u8 (a.toNat : Int) (b.toNat : Int) = c.toNat := by
  refine ⟨a ^^^ b, ?_⟩
  rw [u8_xor_nat _ _ (UInt8.toNat_lt a) (UInt8.toNat_lt b), UInt8.toNat_xor]

theorem three_of (gs : List Nat) (h : gs.length = 3) : ∃ a b c, gs = [a, b, c] := by
  match gs, h with
  | [a, b, c], _ => exact ⟨a, b, c, rfl⟩

/-- a row's slice of n bytes. -/
def rowOf (n g : Nat) : Option Addr × Nat × Nat := (some ⟨g, 0, none⟩, n, n)

set_option maxRecDepth 100000 in
set_option maxHeartbeats 1000000 in
theorem padd_c (f i n : Nat) (vt col : Value) (gs : List Nat) (bs : List UInt8) (w : World) (hi : i ≤ 1000) (hf : FldR w f) (hto : ES.Rd w vt (gs.map (rowOf n))) (hg3 : gs.length = 3) (hgs : ∀ g ∈ gs, U8 w g n)
    (hcol : EB.Rd w col bs) (hbl : bs.length = n) (hnc : ∀ y ∈ blkL col, y ∉ f :: gs) (hnt : ∀ y ∈ blkL vt, y ∉ f :: gs) (hn : n ≤ 100000) :
    Calls Tryz.prog 127 #[.pointer (some ⟨f, 0, none⟩), vt, .int .i64 i, col] w fun e w' => e = .returned (.tuple #[]) ∧ FldR w' f ∧ (∀ g ∈ gs, U8 w' g n) ∧ Ext (f :: gs) w w' := by
  have HF := Lib.hid hf
  have HTO := Lib.hid hto
  have HGS := Lib.hid hgs
  have HC := Lib.hid hcol
  have HNC := Lib.hid hnc
  have HNT := Lib.hid hnt
  have lf := hf.lt
  have lgs : ∀ g ∈ gs, g < w.heap.size := fun g hg => (hgs g hg).lt
  have hfg : f ∉ gs := fun h => by
    obtain ⟨_, _, h1, _⟩ := hf
    exact (hgs f h).ne h1 (by decide) rfl
  obtain ⟨pt, ct, rfl, _⟩ := hto.len_eq
  obtain ⟨pc, cc, rfl, _⟩ := hcol.len_eq
  obtain ⟨gt, ot, rfl⟩ : ∃ g o, pt = some ⟨g, o, none⟩ := by
    rcases hto with ⟨_, h⟩ | ⟨g, o, c, h, _⟩
    · have := congrArg List.length h; simp [hg3] at this
    · simp only [Value.slice.injEq] at h; exact ⟨g, o, h.1⟩
  have HFG := Lib.hid hfg
  have LGS := Lib.hid lgs
  simp only [List.length_map, hg3]
  rw [hbl]
  clear hf hto hgs hcol hnc hnt hfg lgs
  go_enter Tryz.func127, Tryz.ntmps127
  go_wp2_with fail
  refine (weights_c f i hi _ HF.out).mono ?_
  rintro e W1 ⟨q, z, rfl, hf1, hE1⟩
  have hE1' : Ext (f :: gs) w W1 := hE1.mono (by simp)
  have hgs1 : ∀ g ∈ gs, U8 W1 g n := fun g hg => (HGS.out g hg).ext hE1 (by simp; rintro rfl; exact HFG.out hg)
  have HGS1 := Lib.hid hgs1
  have HF1 := Lib.hid hf1
  clear hf1 hE1 hgs1
  go_wp2_with fail
  have hgw := heap_alloc_new W1 (.cells #[.int .u8 1, .int .u8 q.toNat, .int .u8 z.toNat] 240)
  have hE2 := hE1'.alloc (.cells #[.int .u8 1, .int .u8 q.toNat, .int .u8 z.toNat] 240)
  have hE12 := (Ext.refl [] W1).alloc (.cells #[.int .u8 1, .int .u8 q.toNat, .int .u8 z.toNat] 240)
  have hf2 := HF1.out.ext0 hE12
  have hgs2 : ∀ g ∈ gs, U8 _ g n := fun g hg => (HGS1.out g hg).ext hE12 (by simp)
  have lw := hE1'.size
  obtain ⟨gw, hge⟩ : ∃ g, g = W1.heap.size := ⟨_, rfl⟩
  simp only [← hge] at hgw ⊢
  have lgw : w.heap.size ≤ gw := by omega
  have hwn : gw ∉ f :: gs := fun h => by
    rcases List.mem_cons.1 h with h | h
    · omega
    · have := LGS.out _ h; omega
  have HWN := Lib.hid hwn
  have HGW := Lib.hid hgw
  have HF2 := Lib.hid hf2
  have HGS2 := Lib.hid hgs2
  clear hge hgw hf2 hgs2 hE1' hE12 HF1 HGS1 lw hwn
  revert HF2 HGS2 HGW hE2
  generalize World.alloc _ _ = W2
  intro hE2 HGW HF2 HGS2
  go_loopw [9, 10, 11, 12, 18] (fun _ _ _ _ c wr => ∃ r : Nat, r ≤ 3 ∧ c = .int .i64 r ∧ Ext (f :: gs) W2 wr ∧ Hid (FldR wr f) ∧ Hid (∀ g ∈ gs, U8 wr g n)) (fun _ _ _ _ c _ => 3 - (intOf c).toNat)
  case atStart => exact ⟨0, by omega, rfl, Ext.refl _ _, HF2, HGS2⟩
  case round =>
    obtain ⟨r, hr, rfl, hE3, HF3, HGS3⟩ := hrel
    by_cases hlt : r < 3
    · have z1 : (r : Int) < 3 := by omega
      have hE03 := hE2.trans hE3
      obtain ⟨g, hg⟩ : ∃ g, gs[r]? = some g := ⟨gs[r]'(by omega), List.getElem?_eq_getElem _⟩
      have hmem : g ∈ gs := List.mem_of_getElem? hg
      have hcell := ES_cell (HTO.out.ext hE03 HNT.out) r (rowOf n g) (by simp [hg])
      simp only [rowOf] at hcell
      have HMEM := Lib.hid hmem
      have HE03 := Lib.hid hE03
      clear hg hmem hE03
      go_wp2_with fail
      go_loopw [11, 12, 25] (fun _ _ c w2 => ∃ k : Nat, k ≤ n ∧ c = .int .i64 k ∧ Ext (f :: gs) W2 w2 ∧ Hid (FldR w2 f) ∧ Hid (∀ g ∈ gs, U8 w2 g n)) (fun _ _ c _ => n - (intOf c).toNat)
      case atStart => exact ⟨0, by omega, rfl, hE3, HF3, HGS3⟩
      case round =>
        obtain ⟨k, hk, rfl, hE4, HF4, HGS4⟩ := hrel
        clear hcell
        by_cases hlk : k < n
        · have z2 : (k : Int) < (n : Int) := by omega
          have z3 : (0 : Int) ≤ (k : Int) := by omega
          have hE04 := hE2.trans hE4
          have hcr := HC.out.ext hE04 HNC.out
          obtain ⟨gc, oc, rfl⟩ : ∃ g o, pc = some ⟨g, o, none⟩ := by
            rcases hcr with ⟨_, h⟩ | ⟨g, o, c, h, _⟩
            · rw [h] at hbl; simp at hbl; omega
            · simp only [Value.slice.injEq] at h; exact ⟨g, o, h.1⟩
          have hc1 := EB_cell hcr k (by omega)
          obtain ⟨b, hb⟩ : ∃ b, b = bs.getD k 0 := ⟨_, rfl⟩
          rw [← hb] at hc1
          clear hcr hb
          go_wp2_with fail
          obtain ⟨x, hc2⟩ := (HGS4.out g HMEM.out).cell hlk
          have hc3 : ∃ y : UInt8, wr.cell? ⟨gw, r, none⟩ = some (.int .u8 y.toNat) := by
            have h := hE4.blk HGW.out HWN.out
            rcases (show r = 0 ∨ r = 1 ∨ r = 2 by omega) with rfl | rfl | rfl
            · exact ⟨1, by rw [cell_of_row _ gw _ _ _ _ h]; rfl⟩
            · exact ⟨q, by rw [cell_of_row _ gw _ _ _ _ h]; rfl⟩
            · exact ⟨z, by rw [cell_of_row _ gw _ _ _ _ h]; rfl⟩
          obtain ⟨y, hc3⟩ := hc3
          have hD : Ext [] wr wr.drew := (Ext.refl [] _).drew
          have hd2 := hD.cell hc2 (by simp)
          have hd3 := hD.cell hc3 (by simp)
          have hwg : gw ≠ g := fun h => HWN.out (by rw [h]; exact List.mem_cons_of_mem _ HMEM.out)
          have hff : g ≠ f := fun h => HFG.out (by rw [← h]; exact HMEM.out)
          have hwf : gw ≠ f := fun h => HWN.out (by rw [h]; exact List.mem_cons_self)
          have HWG := Lib.hid (And.intro hwg (And.intro hff hwf))
          have z4 : (0 : Int) ≤ (r : Int) := by omega
          clear hc1 hc2 hc3 hD hwg hff hwf
          refine wp_region_u (fun W => W.cell? ⟨g, k, none⟩ = some (.int .u8 x.toNat) ∧ W.cell? ⟨gw, r, none⟩ = some (.int .u8 y.toNat)) (fun i => decide (i < 12)) (by kernel_rfl) ⟨hd2, hd3⟩ (fun hS => ?_)
          (refine wpAnyU_take (i := 0) rfl (by kernel_rfl) (by kernel_rfl) (by kernel_rfl) (by kernel_rfl) (by exact fun _ _ _ h => h) (by assumption) (Or.inl ⟨by rfl, fun W hW => by (have hWW := hW; clear hW; go_split_ands; go_simp; try rfl)⟩) ?_); (try go_frame)
          (refine wpAnyU_take (i := 1) rfl (by kernel_rfl) (by kernel_rfl) (by kernel_rfl) (by kernel_rfl) (by exact fun _ _ _ h => h) (by assumption) (Or.inl ⟨by rfl, fun W hW => by (have hWW := hW; clear hW; go_split_ands; go_simp; try rfl)⟩) ?_); (try go_frame)
          (refine wpAnyU_take (i := 2) rfl (by kernel_rfl) (by kernel_rfl) (by kernel_rfl) (by kernel_rfl) (by exact fun _ _ _ h => h) (by assumption) (Or.inl ⟨by rfl, fun W hW => by (have hWW := hW; clear hW; go_split_ands; go_simp; try rfl)⟩) ?_); (try go_frame)
          (refine wpAnyU_take (i := 3) rfl (by kernel_rfl) (by kernel_rfl) (by kernel_rfl) (by kernel_rfl) (by exact fun _ _ _ h => h) (by assumption) (Or.inl ⟨by rfl, fun W hW => by (have hWW := hW; clear hW; go_split_ands; go_simp; try rfl)⟩) ?_); (try go_frame)
          (refine wpAnyU_take (i := 4) rfl (by kernel_rfl) (by kernel_rfl) (by kernel_rfl) (by kernel_rfl) (by exact fun _ _ _ h => h) (by assumption) (Or.inl ⟨by rfl, fun W hW => by (have hWW := hW; clear hW; go_split_ands; go_simp; try rfl)⟩) ?_); (try go_frame)
          (refine wpAnyU_take (i := 5) rfl (by kernel_rfl) (by kernel_rfl) (by kernel_rfl) (by kernel_rfl) (by exact fun _ _ _ h => h) (by assumption) (Or.inl ⟨by rfl, fun W hW => by (have hWW := hW; clear hW; go_split_ands; go_simp; try rfl)⟩) ?_); (try go_frame)
          (refine wpAnyU_take (i := 6) rfl (by kernel_rfl) (by kernel_rfl) (by kernel_rfl) (by kernel_rfl) (by exact fun _ _ _ h => h) (by assumption) (Or.inl ⟨by rfl, fun W hW => by (have hWW := hW; clear hW; go_split_ands; go_simp; try rfl)⟩) ?_); (try go_frame)
          (refine wpAnyU_take (i := 7) rfl (by kernel_rfl) (by kernel_rfl) (by kernel_rfl) (by kernel_rfl) (by exact fun _ _ _ h => h) (by assumption) (Or.inl ⟨by rfl, fun W hW => by (have hWW := hW; clear hW; go_split_ands; go_simp; try rfl)⟩) ?_); (try go_frame)
          (refine wpAnyU_take (i := 8) rfl (by kernel_rfl) (by kernel_rfl) (by kernel_rfl) (by kernel_rfl) (by exact fun _ _ _ h => h) (by assumption) (Or.inl ⟨by rfl, fun W hW => by (have hWW := hW; clear hW; go_split_ands; go_simp; try rfl)⟩) ?_); (try go_frame)
          refine wpAnyU_one (i := 9) (by kernel_rfl) rfl (fun K hK => ?_)
          (try simp only [Act.put, List.getElem_toArray, List.getElem_cons_zero, List.getElem_cons_succ, List.setIfInBounds_toArray, List.set_cons_zero, List.set_cons_succ]); rw [if_pos (show Region.wanted _ _ = true from rfl)]
          go_simp
          refine (mul_c f y b _ (HF4.out.ext0 (Ext.refl [] _).drew)).mono ?_
          rintro e W5 ⟨t, rfl, hf5, hE5⟩
          have s5 := hE5.cell hS.1 (by simpa using HWG.out.2.1)
          have s6 := hE5.cell hS.2 (by simpa using HWG.out.2.2)
          refine hK _ _ (fun _ => ⟨s5, s6⟩) (fun hS5 => ?_)
          have hS6 := hS5 rfl
          obtain ⟨xy, hxy⟩ := xor_u8 x t
          have hg5 := (HGS4.out g HMEM.out).ext ((Ext.refl [] wr).drew.nil.trans hE5) (by simpa using HWG.out.2.1)
          have fz5 : ∀ j, W5.frozen? ⟨g, j, none⟩ = false := hg5.frozen
          have hE05 : Ext (f :: gs) W2 W5 := hE4.drew.trans (hE5.mono (by simp))
          have HG5 := Lib.hid hg5
          have HF5 := Lib.hid hf5
          have HGS5 : Hid (∀ g ∈ gs, U8 W5 g n) := Lib.hid (fun g' hg' => (HGS4.out g' hg').ext ((Ext.refl [] wr).drew.nil.trans hE5) (by simp; rintro rfl; exact HFG.out hg'))
          clear hS hg5 hf5 hE5 hS5 s5 s6
          (refine wpAnyU_take (i := 10) rfl (by kernel_rfl) (by kernel_rfl) (by kernel_rfl) (by kernel_rfl) (by exact fun _ _ _ h => h) (by assumption) (Or.inl ⟨by rfl, fun W hW => by (have hWW := hW; clear hW; go_split_ands; go_simp; try rfl)⟩) ?_); (try go_frame)
          (simp only [List.getElem_toArray, List.getElem_cons_zero, List.getElem_cons_succ, List.set_cons_zero, List.set_cons_succ])
          (refine wpAnyU_take (i := 11) rfl (by kernel_rfl) (by kernel_rfl) (by kernel_rfl) (by kernel_rfl) (by exact fun _ _ _ h => h) (by assumption) (Or.inl ⟨by rfl, fun W hW => by (have hWW := hW; clear hW; go_split_ands; go_simp; try rfl)⟩) ?_); (try go_frame)
          (simp only [List.getElem_toArray, List.getElem_cons_zero, List.getElem_cons_succ, List.set_cons_zero, List.set_cons_succ])
          refine wpAnyU_one (i := 12) (by kernel_rfl) rfl (fun K hK => ?_)
          rw [if_pos (show Region.wanted _ _ = true from rfl)]
          go_simp
          refine hK _ _ (fun h => by cases h) (fun _ => ?_)
          refine wpAnyU_done (by kernel_rfl) ?_ _
          have hg6 := (HG5.out.set k xy)
          have hE6 : Ext (f :: gs) W2 (W5.setCell ⟨g, k, none⟩ (.int .u8 xy.toNat)) := hE05.setCell (.inl (List.mem_cons_of_mem _ HMEM.out)) _
          have hE56 : Ext [g] W5 (W5.setCell ⟨g, k, none⟩ (.int .u8 xy.toNat)) := (Ext.refl [g] W5).setCell (.inl (by simp)) _
          have hf6 : FldR (W5.setCell ⟨g, k, none⟩ (.int .u8 xy.toNat)) f := by
            obtain ⟨c, d, h1, h2⟩ := HF5.out
            exact ⟨c, d, hE56.blk h1 (by simpa using HWG.out.2.1.symm), h2⟩
          have hgs6 : ∀ g' ∈ gs, U8 (W5.setCell ⟨g, k, none⟩ (.int .u8 xy.toNat)) g' n := fun g' hg' => by
            by_cases h : g' = g
            · rw [h]; exact hg6
            · exact (HGS5.out g' hg').ext hE56 (by simpa using h)
          go_wp2_with fail
          go_roundw
          case rel => exact ⟨k + 1, by omega, by go_num, hE6, Lib.hid hf6, Lib.hid hgs6⟩
          case measure => simp [intOf]; omega
        · obtain rfl : k = n := by omega
          have z2 : ¬ ((k : Int) < (k : Int)) := by omega
          go_wp2_with fail
          go_roundw
          case rel => exact ⟨r + 1, by omega, by go_num, hE4, HF4, HGS4⟩
          case measure => simp [intOf]; omega
    · obtain rfl : r = 3 := by omega
      have z1 : ¬ (((3 : Nat) : Int) < 3) := by omega
      go_wp2
      go_end0
      exact ⟨rfl, HF3.out, HGS3.out, hE2.trans hE3⟩

end Go.Proofs.YtgfajlaibgbdoaaGreat

