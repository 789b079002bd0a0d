
import Derived.Test.YtgfajlaibgbdoaaGreatTg
import Derived.Test.YtgfajlaibgbdoaaGreatPaB
import Derived.BigQuiet
namespace Go.Proofs.YtgfajlaibgbdoaaGreat
open Go.RowKit

/-! The rack: its writes wait; no drive is gone, the power is on. -/
def EW : Enc (Int × Int × (Option Addr × Nat × Nat)) where
  k := 3
  hk := by decide
  enc x := [.int .i64 x.1, .int .i64 x.2.1, .slice x.2.2.1 x.2.2.2.1 x.2.2.2.2]
  len _ := rfl
  one _ v hv := by simp at hv; rcases hv with rfl | rfl | rfl <;> rfl
theorem tiW : Ti Tryz.prog EW 218 40 (0, 0, (none, 0, 0)) := Ti.mk' (z := .agg #[.int .i64 0, .int .i64 0, .slice none 0 0]) (by kernel_rfl) rfl

def EBo : Enc Bool where
  k := 1
  hk := by decide
  enc x := [.bool x]
  len _ := rfl
  one _ v hv := by simp at hv; subst hv; rfl
theorem tiBo : Ti Tryz.prog EBo 4 1 false := Ti.mk' (z := .bool false) (by kernel_rfl) rfl
theorem flatBo (l : List Bool) : EBo.flat l = l.map Value.bool := by
  induction l with
  | nil => rfl
  | cons a l ih => simp [ih]; rfl

def rackRow (D S : Nat) (mv : Value) (gg : Nat) (pw : Option Addr) (nw cw : Nat) (left : Int) : Array Value := #[.int .i64 D, .int .i64 S, mv, .slice (some ⟨gg, 0, none⟩) D D, .slice pw nw cw, .bool false, .bool false, .int .i64 left]

def Conts (w : World) (rs : List (Int × Int × (Option Addr × Nat × Nat))) (ws : List (Nat × Nat × List UInt8)) : Prop :=
  rs.length = ws.length ∧ ∀ (i : Nat) r x, rs[i]? = some r → ws[i]? = some x → r.1 = x.1 ∧ r.2.1 = x.2.1 ∧ EB.Ow 5 w (.slice r.2.2.1 r.2.2.2.1 r.2.2.2.2) x.2.2

def RackR (w : World) (b gg D S : Nat) (ws : List (Nat × Nat × List UInt8)) : Prop := ∃ mv pw nw cw left rs,
  w.heap[b]? = some (.cells (rackRow D S mv gg pw nw cw left) 66 (0, 0)) ∧ w.heap[gg]? = some (.cells (EBo.flat (List.replicate D false)).toArray 4 (0, 0)) ∧
  EW.Ow 218 w (.slice pw nw cw) rs ∧ Conts w rs ws ∧ ∀ y ∈ blkL (.slice pw nw cw), b ≤ y

set_option maxRecDepth 100000 in
theorem rknew_c (D S : Nat) (w : World) (hD1 : 1 ≤ D) (hD : D ≤ 16) (hS1 : 1 ≤ S) (hS : S ≤ 2000) :
    Calls Tryz.prog 7 #[.int .i64 D, .int .i64 S] w fun e w' => ∃ b gg, e = .returned (.tuple #[.pointer (some ⟨b, 0, none⟩), .int .i64 0]) ∧ RackR w' b gg D S [] ∧ w.heap.size ≤ b ∧ w.heap.size ≤ gg ∧ Ext [] w w' := by
  have m1 : ¬ ((D : Int) < 1) := by omega
  have m2 : ¬ ((16 : Int) < (D : Int)) := by omega
  have m3 : ¬ ((S : Int) < 1) := by omega
  have m4 : ¬ ((2000 : Int) < (S : Int)) := by omega
  have hmm := fun w => run_makeMap (P := Tryz.prog) 63 w
  go_enter Tryz.func7, Tryz.ntmps7
  go_wp2_with (with_reducible refine hold_at (d := 24) ?_)
  refine wpl_of rfl fun K hK => ?_
  go_simp
  rw [make_of (P := Tryz.prog) tiBo rfl rfl Tryz.underlying56 D D (by omega) (by omega) (by omega)]
  refine hK _ _ ?_
  clear hK hmm
  have hg := heap_alloc_new (w.alloc (.map #[] 0)) (.cells (EBo.flat (List.replicate D false)).toArray 4)
  have hE := ((Ext.refl [] w).alloc (.map #[] 0)).alloc (.cells (EBo.flat (List.replicate D false)).toArray 4)
  obtain ⟨gg, hge⟩ : ∃ g, g = (w.alloc (.map #[] 0)).heap.size := ⟨_, rfl⟩
  simp only [← hge] at hg ⊢
  have lg : w.heap.size ≤ gg := by rw [hge]; simp
  have HG := Lib.hid hg
  clear hge hg
  obtain ⟨gm, hgm⟩ : ∃ g, g = w.heap.size := ⟨_, rfl⟩
  simp only [← hgm]
  have lm : w.heap.size ≤ gm := by omega
  revert hE HG
  generalize World.alloc (World.alloc _ _) _ = W1
  intro hE HG
  have lW := lt_of_blk HG.out
  clear hgm
  go_wp2
  go_ret2
  have hb := heap_alloc_new W1 (.cells (rackRow D S (.map (some gm)) gg none 0 0 0) 66)
  have hEa := (Ext.refl [] W1).alloc (.cells (rackRow D S (.map (some gm)) gg none 0 0 0) 66)
  have hE2 := hE.alloc (.cells (rackRow D S (.map (some gm)) gg none 0 0 0) 66)
  have l1 := hE.size
  exact ⟨W1.heap.size, gg, rfl, ⟨_, none, 0, 0, 0, [], hb, hEa.blk HG.out (by simp), .inl ⟨rfl, rfl⟩, ⟨rfl, fun i r x h => by simp at h⟩, by simp [blkL]⟩, l1, lg, hE2⟩

end Go.Proofs.YtgfajlaibgbdoaaGreat

namespace Go.Proofs.YtgfajlaibgbdoaaGreat
open Go.RowKit

theorem RackR.ext0 {w w' : World} {b gg D S : Nat} {ws : List (Nat × Nat × List UInt8)} (h : RackR w b gg D S ws) (he : Ext [] w w') : RackR w' b gg D S ws := by
  obtain ⟨mv, pw, nw, cw, left, rs, h1, h2, h3, ⟨h4, h5⟩, h6⟩ := h
  exact ⟨mv, pw, nw, cw, left, rs, he.blk h1 (by simp), he.blk h2 (by simp), h3.ext0 he, ⟨h4, fun i r x hr hx => ⟨(h5 i r x hr hx).1, (h5 i r x hr hx).2.1, (h5 i r x hr hx).2.2.ext0 he⟩⟩, h6⟩
/-- what changes lies elsewhere. -/
theorem RackR.extT {w w' : World} {b gg D S : Nat} {ws : List (Nat × Nat × List UInt8)} {bs : List Nat} {Ts : List TypeId} (h : RackR w b gg D S ws) (he : ExtT bs Ts w w') (hb : b ∉ bs) (hg : gg ∉ bs) (ht : ∀ y ∈ bs, tagOf w y ≠ some 218 ∧ tagOf w y ≠ some 5) (hT : ∀ T ∈ Ts, T ≠ 66 ∧ T ≠ 4 ∧ T ≠ 218 ∧ T ≠ 5) : RackR w' b gg D S ws := by
  obtain ⟨mv, pw, nw, cw, left, rs, h1, h2, h3, ⟨h4, h5⟩, h6⟩ := h
  refine ⟨mv, pw, nw, cw, left, rs, he.blk h1 hb (fun h => (hT _ h).1 rfl), he.blk h2 hg (fun h => (hT _ h).2.1 rfl), h3.extT he (fun y hy hy2 => ?_) (fun h => (hT _ h).2.2.1 rfl), ⟨h4, fun i r x hr hx => ⟨(h5 i r x hr hx).1, (h5 i r x hr hx).2.1, (h5 i r x hr hx).2.2.extT he (fun y hy hy2 => ?_) (fun h => (hT _ h).2.2.2 rfl)⟩⟩, h6⟩
  · obtain ⟨c, hc⟩ := h3.tag y hy
    exact (ht y hy2).1 (tagOf_of hc)
  · obtain ⟨c, hc⟩ := (h5 i r x hr hx).2.2.tag y hy
    exact (ht y hy2).2 (tagOf_of hc)
theorem RackR.lt {w : World} {b gg D S : Nat} {ws : List (Nat × Nat × List UInt8)} (h : RackR w b gg D S ws) : b < w.heap.size ∧ gg < w.heap.size := by
  obtain ⟨mv, pw, nw, cw, left, rs, h1, h2, _⟩ := h
  exact ⟨lt_of_blk h1, lt_of_blk h2⟩
theorem RackR.tag {w : World} {b gg D S : Nat} {ws : List (Nat × Nat × List UInt8)} (h : RackR w b gg D S ws) : tagOf w b = some 66 ∧ tagOf w gg = some 4 := by
  obtain ⟨mv, pw, nw, cw, left, rs, h1, h2, _⟩ := h
  exact ⟨tagOf_of h1, tagOf_of h2⟩

set_option maxRecDepth 100000 in
theorem rkdrives_c (b gg D S : Nat) (ws : List (Nat × Nat × List UInt8)) (w : World) (h : RackR w b gg D S ws) :
    Calls Tryz.prog 22 #[.pointer (some ⟨b, 0, none⟩)] w fun e w' => e = .returned (.int .i64 D) ∧ w' = w := by
  obtain ⟨mv, pw, nw, cw, left, rs, h1, _⟩ := h
  have c0 : w.cell? ⟨b, 0, none⟩ = some (.int .i64 D) := by rw [cell_of_row w b 0 _ _ _ h1]; rfl
  clear h1
  go_enter Tryz.func22, Tryz.ntmps22
  go_wp2
  go_ret
  exact ⟨rfl, rfl⟩
set_option maxRecDepth 100000 in
theorem rksectors_c (b gg D S : Nat) (ws : List (Nat × Nat × List UInt8)) (w : World) (h : RackR w b gg D S ws) :
    Calls Tryz.prog 23 #[.pointer (some ⟨b, 0, none⟩)] w fun e w' => e = .returned (.int .i64 S) ∧ w' = w := by
  obtain ⟨mv, pw, nw, cw, left, rs, h1, _⟩ := h
  have c0 : w.cell? ⟨b, 1, none⟩ = some (.int .i64 S) := by rw [cell_of_row w b 1 _ _ _ h1]; rfl
  clear h1
  go_enter Tryz.func23, Tryz.ntmps23
  go_wp2
  go_ret
  exact ⟨rfl, rfl⟩
set_option maxRecDepth 100000 in
theorem rkis_c (b gg D S : Nat) (ws : List (Nat × Nat × List UInt8)) (d : Nat) (w : World) (h : RackR w b gg D S ws) (hd : d < D) :
    Calls Tryz.prog 106 #[.pointer (some ⟨b, 0, none⟩), .int .i64 d] w fun e w' => e = .returned (.bool true) ∧ w' = w := by
  obtain ⟨mv, pw, nw, cw, left, rs, h1, _⟩ := h
  have c0 : w.cell? ⟨b, 0, none⟩ = some (.int .i64 D) := by rw [cell_of_row w b 0 _ _ _ h1]; rfl
  have z1 : (0 : Int) ≤ (d : Int) := by omega
  have z2 : (d : Int) < (D : Int) := by omega
  clear h1
  go_enter Tryz.func106, Tryz.ntmps106
  go_wp2
  go_ret
  exact ⟨rfl, rfl⟩
set_option maxRecDepth 100000 in
theorem rkin_c (b gg D S : Nat) (ws : List (Nat × Nat × List UInt8)) (d a : Nat) (w : World) (h : RackR w b gg D S ws) (hd : d < D) (ha : a < S) :
    Calls Tryz.prog 97 #[.pointer (some ⟨b, 0, none⟩), .int .i64 d, .int .i64 a] w fun e w' => e = .returned (.bool true) ∧ w' = w := by
  have HR := Lib.hid h
  obtain ⟨mv, pw, nw, cw, left, rs, h1, _⟩ := h
  have c0 : w.cell? ⟨b, 1, none⟩ = some (.int .i64 S) := by rw [cell_of_row w b 1 _ _ _ h1]; rfl
  have z1 : (0 : Int) ≤ (a : Int) := by omega
  have z2 : (a : Int) < (S : Int) := by omega
  clear h1
  go_enter Tryz.func97, Tryz.ntmps97
  go_wp2_with fail
  refine (rkis_c b gg D S ws d _ HR.out hd).mono ?_
  rintro e w' ⟨rfl, rfl⟩
  go_wp2
  go_ret
  exact ⟨rfl, rfl⟩
set_option maxRecDepth 100000 in
theorem rkgone_c (b gg D S : Nat) (ws : List (Nat × Nat × List UInt8)) (d : Nat) (w : World) (h : RackR w b gg D S ws) (hd : d < D) :
    Calls Tryz.prog 84 #[.pointer (some ⟨b, 0, none⟩), .int .i64 d] w fun e w' => e = .returned (.bool false) ∧ w' = w := by
  have HR := Lib.hid h
  obtain ⟨mv, pw, nw, cw, left, rs, h1, h2, _⟩ := h
  have c0 : w.cell? ⟨b, 3, none⟩ = some (.slice (some ⟨gg, 0, none⟩) D D) := by rw [cell_of_row w b 3 _ _ _ h1]; rfl
  have c1 : w.cell? ⟨gg, d, none⟩ = some (.bool false) := by rw [cell_of_row w gg d _ _ _ h2]; simp [flatBo, hd]
  have z1 : (0 : Int) ≤ (d : Int) := by omega
  have z2 : (d : Int) < (D : Int) := by omega
  clear h1 h2
  go_enter Tryz.func84, Tryz.ntmps84
  go_wp2_with fail
  refine (rkis_c b gg D S ws d _ HR.out hd).mono ?_
  rintro e w' ⟨rfl, rfl⟩
  go_wp2
  go_ret
  exact ⟨rfl, rfl⟩
set_option maxRecDepth 100000 in
theorem rkspend_c (b gg D S : Nat) (ws : List (Nat × Nat × List UInt8)) (w : World) (h : RackR w b gg D S ws) :
    Calls Tryz.prog 109 #[.pointer (some ⟨b, 0, none⟩)] w fun e w' => e = .returned (.bool true) ∧ w' = w := by
  obtain ⟨mv, pw, nw, cw, left, rs, h1, _⟩ := h
  have c0 : w.cell? ⟨b, 5, none⟩ = some (.bool false) := by rw [cell_of_row w b 5 _ _ _ h1]; rfl
  have c1 : w.cell? ⟨b, 6, none⟩ = some (.bool false) := by rw [cell_of_row w b 6 _ _ _ h1]; rfl
  clear h1
  go_enter Tryz.func109, Tryz.ntmps109
  go_wp2
  go_ret
  exact ⟨rfl, rfl⟩

end Go.Proofs.YtgfajlaibgbdoaaGreat

namespace Go.Proofs.YtgfajlaibgbdoaaGreat
open Go.RowKit

theorem one_rdW {W0 : World} {T : TypeId} {n : Nat} (h : n = W0.heap.size) (d a : Int) (x : Option Addr × Nat × Nat) : EW.Rd (W0.alloc (.cells #[.int .i64 d, .int .i64 a, .slice x.1 x.2.1 x.2.2] T)) (.slice (some ⟨n, 0, none⟩) 1 1) [(d, a, x)] := by
  subst h
  refine .inr ⟨W0.heap.size, 0, 1, rfl, Nat.le_refl _, by simp, fun j u hj => ?_⟩
  rw [cell_of_row _ W0.heap.size _ _ _ _ (heap_alloc_new _ _)]
  match j, hj with
  | 0, hj => exact hj
  | 1, hj => exact hj
  | 2, hj => exact hj
  | j + 3, hj => simp [EW, Enc.flat] at hj

set_option maxRecDepth 100000 in
set_option maxHeartbeats 1000000 in
theorem rkwrite_c (b gg D S : Nat) (ws : List (Nat × Nat × List UInt8)) (d at_ : Nat) (v : Value) (bs : List UInt8) (w : World) (h : RackR w b gg D S ws) (hd : d < D) (ha : at_ < S) (hv : EB.Rd w v bs) (hbl : bs.length = 128) (hwl : ws.length ≤ 1000000) :
    Calls Tryz.prog 87 #[.pointer (some ⟨b, 0, none⟩), .int .i64 d, .int .i64 at_, v] w fun e w' => e = .returned (.int .i64 0) ∧ RackR w' b gg D S (ws ++ [(d, at_, bs)]) ∧ ExtT [b] [218] w w' := by
  have HR := Lib.hid h
  obtain ⟨p, c, rfl, _⟩ := hv.len_eq
  have HV := Lib.hid hv
  obtain ⟨mv, pw, nw, cw, left, rs, h1, h2, h3, h4, h6⟩ := h
  have H6 := Lib.hid h6
  have hblt := lt_of_blk h1
  clear h6
  have c3 : w.cell? ⟨b, 3, none⟩ = some (.slice (some ⟨gg, 0, none⟩) D D) := by rw [cell_of_row w b 3 _ _ _ h1]; rfl
  have c4 : w.cell? ⟨b, 4, none⟩ = some (.slice pw nw cw) := by rw [cell_of_row w b 4 _ _ _ h1]; rfl
  have cg : w.cell? ⟨gg, d, none⟩ = some (.bool false) := by rw [cell_of_row w gg d _ _ _ h2]; simp [flatBo, hd]
  have z1 : (0 : Int) ≤ (d : Int) := by omega
  have z2 : (d : Int) < (D : Int) := by omega
  have hbn := h3.ne h1 (by decide)
  have hbg : b ≠ gg := by
    rintro rfl
    rw [h1] at h2
    simp only [Option.some.injEq, Obj.cells.injEq] at h2
    exact absurd h2.2.1 (by decide)
  have H1 := Lib.hid h1
  have H2 := Lib.hid h2
  have H3 := Lib.hid h3
  have H4 := Lib.hid h4
  have HBN := Lib.hid hbn
  rw [hbl]
  rw [hbl] at hv
  clear h1 h2 h3 h4 hv hbn
  go_enter Tryz.func87, Tryz.ntmps87
  go_wp2_with fail
  refine (rkin_c b gg D S ws d at_ _ HR.out hd ha).mono ?_
  rintro e W1 ⟨rfl, rfl⟩
  go_wp2_with fail
  refine (rkspend_c b gg D S ws _ HR.out).mono ?_
  rintro e W1 ⟨rfl, rfl⟩
  go_wp2_with fail
  have hD := (Ext.refl [] W1).drew
  refine wp_region_u (fun W => W.cell? ⟨b, 4, none⟩ = some (.slice pw nw cw)) (fun i => decide (i < 15)) (by kernel_rfl) (hD.cell c4 (by simp)) (fun hS => ?_)
  (refine wpAnyU_take (i := 0) rfl (by kernel_rfl) (by kernel_rfl) (by kernel_rfl) (by kernel_rfl) (by exact fun _ _ _ h => h) (by assumption) (Or.inl ⟨by rfl, fun W hW => by (have hWW := hW; clear hW; go_split_ands; go_simp; try rfl)⟩) ?_); (try go_frame)
  (refine wpAnyU_take (i := 1) rfl (by kernel_rfl) (by kernel_rfl) (by kernel_rfl) (by kernel_rfl) (by exact fun _ _ _ h => h) (by assumption) (Or.inl ⟨by rfl, fun W hW => by (have hWW := hW; clear hW; go_split_ands; go_simp; try rfl)⟩) ?_); (try go_frame)
  (refine wpAnyU_take (i := 2) rfl (by kernel_rfl) (by kernel_rfl) (by kernel_rfl) (by kernel_rfl) (by exact fun _ _ _ h => h) (by assumption) (Or.inl ⟨by rfl, fun W hW => by (have hWW := hW; clear hW; go_split_ands; go_simp; try rfl)⟩) ?_); (try go_frame)
  (refine wpAnyU_take (i := 3) rfl (by kernel_rfl) (by kernel_rfl) (by kernel_rfl) (by kernel_rfl) (by exact fun _ _ _ h => h) (by assumption) (Or.inl ⟨by rfl, fun W hW => by (have hWW := hW; clear hW; go_split_ands; go_simp; try rfl)⟩) ?_); (try go_frame)
  (refine wpAnyU_take (i := 4) rfl (by kernel_rfl) (by kernel_rfl) (by kernel_rfl) (by kernel_rfl) (by exact fun _ _ _ h => h) (by assumption) (Or.inl ⟨by rfl, fun W hW => by (have hWW := hW; clear hW; go_split_ands; go_simp; try rfl)⟩) ?_); (try go_frame)
  (refine wpAnyU_take (i := 5) rfl (by kernel_rfl) (by kernel_rfl) (by kernel_rfl) (by kernel_rfl) (by exact fun _ _ _ h => h) (by assumption) (Or.inl ⟨by rfl, fun W hW => by (have hWW := hW; clear hW; go_split_ands; go_simp; try rfl)⟩) ?_); (try go_frame)
  (refine wpAnyU_take (i := 6) rfl (by kernel_rfl) (by kernel_rfl) (by kernel_rfl) (by kernel_rfl) (by exact fun _ _ _ h => h) (by assumption) (Or.inl ⟨by rfl, fun W hW => by (have hWW := hW; clear hW; go_split_ands; go_simp; try rfl)⟩) ?_); (try go_frame)
  (refine wpAnyU_take (i := 7) rfl (by kernel_rfl) (by kernel_rfl) (by kernel_rfl) (by kernel_rfl) (by exact fun _ _ _ h => h) (by assumption) (Or.inl ⟨by rfl, fun W hW => by (have hWW := hW; clear hW; go_split_ands; go_simp; try rfl)⟩) ?_); (try go_frame)
  (refine wpAnyU_take (i := 8) rfl (by kernel_rfl) (by kernel_rfl) (by kernel_rfl) (by kernel_rfl) (by exact fun _ _ _ h => h) (by assumption) (Or.inl ⟨by rfl, fun W hW => by (have hWW := hW; clear hW; go_split_ands; go_simp; try rfl)⟩) ?_); (try go_frame)
  refine wpAnyU_one (i := 9) (by kernel_rfl) rfl (fun K hK => ?_)
  (try simp only [Act.put, List.getElem_toArray, List.getElem_cons_zero, List.getElem_cons_succ, List.setIfInBounds_toArray, List.set_cons_zero, List.set_cons_succ]); rw [if_pos (show Region.wanted _ _ = true from rfl)]
  go_simp
  have hv1 : EB.Rd W1.drew (.slice p 128 c) bs := by have h := HV.out.ext0 hD; rw [hbl] at h; exact h
  refine (cloneB_c _ bs _ (by omega) hv1).mono ?_
  rintro e W5 ⟨v5, rfl, how5, hE5, hnew5, -⟩
  have s5 := hE5.cell hS (by simp)
  refine hK _ _ (fun _ => s5) (fun _ => ?_)
  have hE05 := hD.trans hE5
  obtain ⟨p5, c5, rfl, _⟩ := how5.rd.len_eq
  rw [hbl] at how5 hnew5 ⊢
  have HO5 := Lib.hid how5
  have HN5 := Lib.hid hnew5
  have HE5 := Lib.hid hE05
  clear hS hE5 hE05 how5 hnew5 hv1 hK hD
  (refine wpAnyU_take (i := 10) rfl (by kernel_rfl) (by kernel_rfl) (by kernel_rfl) (by kernel_rfl) (by exact fun _ _ _ h => h) (by assumption) (Or.inl ⟨by rfl, fun W hW => by (have hWW := hW; clear hW; go_split_ands; go_simp; try rfl)⟩) ?_); (try go_frame)
  (simp only [List.getElem_toArray, List.getElem_cons_zero, List.getElem_cons_succ, List.set_cons_zero, List.set_cons_succ])
  refine wpAnyU_one (i := 11) (by kernel_rfl) rfl (fun K hK => ?_)
  rw [if_pos (show Region.wanted _ _ = true from rfl)]
  go_simp
  have hEa := (Ext.refl [] W5).alloc (.cells #[.int .i64 d, .int .i64 at_, .slice p5 128 c5] 218)
  have s6 := hEa.cell s5 (by simp)
  have h36 := (H3.out.ext0 HE5.out).ext0 hEa
  have hrd6 := one_rdW (T := 218) (W0 := W5) rfl d at_ (p5, 128, c5)
  have H36 := Lib.hid h36
  have HR6 := Lib.hid hrd6
  have HEA := Lib.hid hEa
  refine hK _ _ (fun _ => s6) (fun _ => ?_)
  clear hK s5 hEa h36 hrd6
  refine wpAnyU_one (i := 12) (by kernel_rfl) rfl (fun K hK => ?_)
  (try simp only [Act.put, List.getElem_toArray, List.getElem_cons_zero, List.getElem_cons_succ, List.setIfInBounds_toArray, List.set_cons_zero, List.set_cons_succ]); rw [if_pos (show Region.wanted _ _ = true from rfl)]
  refine opw_append (s := .tmp 36) (x := .tmp 43) (E := EW) (T := 218) (zero := (0, 0, (none, 0, 0))) (bytes := 40) (v := .slice pw nw cw) (xs := rs) (ys := [((d : Int), (at_ : Int), (p5, 128, c5))]) tiW Tryz.underlying64 Tryz.underlying64 rfl rfl rfl H36.out HR6.out (by have := H4.out.1; simp; omega) (by have := H4.out.1; simp; omega) ?_
  intro v7 W7 how7 hE7 hnear7 _
  have s7 := hE7.cell s6 (by intro h; exact HBN.out b h rfl)
  refine hK _ _ (fun _ => s7) (fun _ => ?_)
  have hE07 : Ext (blkL (.slice pw nw cw)) W1 W7 := ((HE5.out.trans HEA.out).nil).trans hE7
  have hb7 := hE07.blk H1.out (fun h => HBN.out b h rfl)
  have hg7 := hE07.blk H2.out (fun h => by
    obtain ⟨x, hx⟩ := H3.out.tag gg h
    rw [H2.out] at hx
    simp only [Option.some.injEq, Obj.cells.injEq] at hx
    exact absurd hx.2.1 (by decide))
  have hfz : ∀ j, W7.frozen? ⟨b, j, none⟩ = false := fun j => frozen_of_row _ _ _ _ _ hb7
  have ho7 : EB.Ow 5 W7 (.slice p5 128 c5) bs := (HO5.out.ext0 HEA.out).ext hE7 (fun y hy hy2 => by
    have h1 := HN5.out y hy
    have h2 := H3.out.lt y hy2
    simp at h1
    omega)
  obtain ⟨p7, c7, rfl, _⟩ := how7.rd.len_eq
  obtain ⟨n7, hn7⟩ : ∃ n, n = (rs ++ [((d : Int), (at_ : Int), (p5, 128, c5))]).length := ⟨_, rfl⟩
  rw [← hn7] at how7 hnear7 ⊢
  clear hn7
  have hcont : Conts W7 (rs ++ [((d : Int), (at_ : Int), (p5, 128, c5))]) (ws ++ [(d, at_, bs)]) := by
    refine ⟨by simp [H4.out.1], fun i r x hr hx => ?_⟩
    by_cases hi : i < rs.length
    · rw [List.getElem?_append_left hi] at hr
      rw [List.getElem?_append_left (by rw [← H4.out.1]; exact hi)] at hx
      obtain ⟨h1, h2, h3⟩ := H4.out.2 i r x hr hx
      refine ⟨h1, h2, h3.ext hE07 (fun y hy hy2 => ?_)⟩
      obtain ⟨c1, hc1⟩ := h3.tag y hy
      obtain ⟨c2, hc2⟩ := H3.out.tag y hy2
      rw [hc1] at hc2
      simp only [Option.some.injEq, Obj.cells.injEq] at hc2
      exact absurd hc2.2.1 (by decide)
    · have hl : i < (rs ++ [((d : Int), (at_ : Int), (p5, 128, c5))]).length := (List.getElem?_eq_some_iff.1 hr).1
      simp at hl
      obtain rfl : i = rs.length := by omega
      rw [List.getElem?_append_right (Nat.le_refl _)] at hr
      rw [List.getElem?_append_right (by rw [H4.out.1]; exact Nat.le_refl _), H4.out.1] at hx
      simp at hr hx
      subst hr hx
      exact ⟨rfl, rfl, ho7⟩
  have HB7 := Lib.hid hb7
  have HG7 := Lib.hid hg7
  have HO7 := Lib.hid how7
  have HC7 := Lib.hid hcont
  have HE07 := Lib.hid hE07
  have HNE := Lib.hid (how7.ne hb7 (by decide))
  have hn7 : ∀ y ∈ blkL (.slice p7 n7 c7), b ≤ y := fun y hy => by
    rcases hnear7 y hy with h | h
    · exact H6.out y h
    · have h1 := HE5.out.size
      have h2 := HEA.out.size
      omega
  have HN7 := Lib.hid hn7
  clear hK s6 how7 hE7 hnear7 hb7 hg7 ho7 hcont hE07 hn7
  (refine wpAnyU_take (i := 13) rfl (by kernel_rfl) (by kernel_rfl) (by kernel_rfl) (by kernel_rfl) (by exact fun _ _ _ h => h) (by assumption) (Or.inl ⟨by rfl, fun W hW => by (have hWW := hW; clear hW; go_split_ands; go_simp; try rfl)⟩) ?_); (try go_frame)
  (simp only [List.getElem_toArray, List.getElem_cons_zero, List.getElem_cons_succ, List.set_cons_zero, List.set_cons_succ])
  (refine wpAnyU_take (i := 14) rfl (by kernel_rfl) (by kernel_rfl) (by kernel_rfl) (by kernel_rfl) (by exact fun _ _ _ h => h) (by assumption) (Or.inl ⟨by rfl, fun W hW => by (have hWW := hW; clear hW; go_split_ands; go_simp; try rfl)⟩) ?_); (try go_frame)
  (simp only [List.getElem_toArray, List.getElem_cons_zero, List.getElem_cons_succ, List.set_cons_zero, List.set_cons_succ])
  refine wpAnyU_one (i := 15) (by kernel_rfl) rfl (fun K hK => ?_)
  rw [if_pos (show Region.wanted _ _ = true from rfl)]
  go_simp
  refine hK _ _ (fun h => by cases h) (fun _ => ?_)
  refine wpAnyU_done (by kernel_rfl) ?_ _
  clear hK hfz s7
  go_wp2
  go_ret
  have hE8 : Ext [b] W7 (W7.setCell ⟨b, 4, none⟩ (.slice p7 n7 c7)) := (Ext.refl [b] W7).setCell (.inl (by simp)) _
  have hb8 := heap_setCell_same W7 b 4 _ _ (.slice p7 n7 c7) HB7.out
  refine ⟨rfl, ⟨mv, p7, _, c7, left, _, hb8, hE8.blk HG7.out (by simpa using hbg.symm), HO7.out.ext hE8 (fun y hy => by simpa using HNE.out y hy), ⟨HC7.out.1, fun i r x hr hx => ?_⟩, HN7.out⟩, ?_⟩
  · obtain ⟨h1, h2, h3⟩ := HC7.out.2 i r x hr hx
    exact ⟨h1, h2, h3.ext hE8 (fun y hy => by simpa using h3.ne HB7.out (by decide) y hy)⟩
  · refine ExtT.of (S := b :: blkL (.slice pw nw cw)) ((HE07.out.mono (fun x hx => .inl (by simp [hx]))).trans (hE8.mono (by simp))) (fun y hy => ?_)
    rcases List.mem_cons.1 hy with h | h
    · exact .inl (by simp [h])
    · obtain ⟨x, hx⟩ := H3.out.tag y h
      exact .inr (.inl ⟨_, by simp, tagOf_of hx, b, by simp, H6.out y h⟩)

end Go.Proofs.YtgfajlaibgbdoaaGreat

