
import Derived.Test.YtgfajlaibgbdoaaGreatArC
import Derived.Test.YtgfajlaibgbdoaaGreatSrC
namespace Go.Proofs.YtgfajlaibgbdoaaGreat
open Go.RowKit

/-! The rack's Read, of a sector whose write waits. -/
abbrev Wri := Int × Int × (Option Addr × Nat × Nat)
abbrev W0 : Wri := (0, 0, (none, 0, 0))
theorem EW_cells {w : World} {g o n cap : Nat} {s : List Wri} (h : EW.Rd w (.slice (some ⟨g, o, none⟩) n cap) s) (i : Nat) (hi : i < s.length) :
    w.cell? ⟨g, o + i * 3, none⟩ = some (.int .i64 (s.getD i W0).1) ∧ w.cell? ⟨g, o + i * 3 + 1, none⟩ = some (.int .i64 (s.getD i W0).2.1) ∧ w.cell? ⟨g, o + i * 3 + 2, none⟩ = some (.slice (s.getD i W0).2.2.1 (s.getD i W0).2.2.2.1 (s.getD i W0).2.2.2.2) := by
  have e : s.getD i W0 = s[i] := by simp [List.getD, hi]
  rw [e]
  exact ⟨h.cells i 0 hi (by decide), h.cells i 1 hi (by decide), h.cells i 2 hi (by decide)⟩

/-- the newest write of a sector is the i-th. -/
def Newest (ws : List (Nat × Nat × List UInt8)) (d a i : Nat) (bs : List UInt8) : Prop := ws[i]? = some (d, a, bs) ∧ ∀ j x, i < j → ws[j]? = some x → ¬ (x.1 = d ∧ x.2.1 = a)

def NewPostR (bs : List UInt8) (w : World) (e : Ending) (w' : World) : Prop :=
  ∃ g o p n c, e = .returned (.pointer (some ⟨g, o, none⟩)) ∧ w.cell? ⟨g, o + 2, none⟩ = some (.slice p n c) ∧ EB.Ow 5 w (.slice p n c) bs ∧ Ext [] w w'

set_option maxRecDepth 100000 in
set_option maxHeartbeats 1600000 in
theorem rknewest_c (b gg D S : Nat) (ws : List (Nat × Nat × List UInt8)) (d a i : Nat) (bs : List UInt8) (w : World) (h : RackR w b gg D S ws) (hn : Newest ws d a i bs) (hwl : ws.length ≤ 1000000) :
    Calls Tryz.prog 124 #[.pointer (some ⟨b, 0, none⟩), .agg #[.int .i64 d, .int .i64 a]] w (NewPostR bs w) := by
  obtain ⟨mv, pw, nw, cw, left, rs, h1, h2, h3, ⟨h4, h5⟩, h6⟩ := h
  have hil : i < ws.length := (List.getElem?_eq_some_iff.1 hn.1).1
  obtain ⟨pw', cw', e3, _⟩ := h3.rd.len_eq
  simp only [Value.slice.injEq] at e3
  obtain ⟨rfl, rfl, rfl⟩ := e3
  rw [h4] at h1 h3
  obtain ⟨n, hnn⟩ : ∃ n, n = ws.length := ⟨_, rfl⟩
  rw [← hnn] at h1 h3 hwl hil h4
  have HNN := Lib.hid hnn
  have hEa := (Ext.refl [] w).alloc (.cells #[.int .i64 d, .int .i64 a] 190)
  have c4 : w.cell? ⟨b, 4, none⟩ = some (.slice pw n cw) := by rw [cell_of_row w b 4 _ _ _ h1]; rfl
  have c4' := hEa.cell c4 (by simp)
  obtain ⟨g, o, rfl⟩ : ∃ g o, pw = some ⟨g, o, none⟩ := by
    rcases h3.rd with ⟨_, h⟩ | ⟨g, o, c, h, _⟩
    · rw [h] at h4; simp at h4; omega
    · simp only [Value.slice.injEq] at h; exact ⟨g, o, h.1⟩
  have H3 := Lib.hid h3
  have H4 := Lib.hid h4
  have H5 := Lib.hid h5
  have HN := Lib.hid hn
  clear h1 h2 h3 h4 h5 h6 hn hnn c4
  go_enter Tryz.func124, Tryz.ntmps124
  go_wp2_with fail
  have hbp := heap_alloc_new w (.cells #[.int .i64 d, .int .i64 a] 190)
  obtain ⟨bp, hbpe⟩ : ∃ x, x = w.heap.size := ⟨_, rfl⟩
  rw [← hbpe] at hbp
  simp only [← hbpe]
  have HB := Lib.hid hbp
  clear hbp hbpe
  revert hEa c4' HB
  generalize World.alloc _ _ = W0'
  intro hEa c4' HB
  go_loopw [4, 5] (fun _ iv wr => ∃ j : Nat, i ≤ j ∧ j < n ∧ iv = .int .i64 j ∧ Ext [] W0' wr) (fun _ iv _ => (intOf iv).toNat)
  case atStart => exact ⟨n - 1, by omega, by omega, by rw [show ((n - 1 : Nat) : Int) = (n : Int) - 1 by omega], Ext.refl _ _⟩
  case round =>
    obtain ⟨j, hj1, hj2, rfl, hE⟩ := hrel
    have z1 : (0 : Int) ≤ (j : Int) := by omega
    have z2 : (j : Int) < (n : Int) := by omega
    have hr3 := (H3.out.rd.ext0 hEa).ext0 hE
    have hjr : j < rs.length := by rw [H4.out]; exact hj2
    obtain ⟨m0, m1, m2⟩ := EW_cells hr3 j hjr
    have c4 := hE.cell c4' (by simp)
    have q0 := hE.cell (show W0'.cell? ⟨bp, 0, none⟩ = some (.int .i64 d) by rw [cell_of_row _ _ 0 _ _ _ HB.out]; rfl) (by simp)
    have q1 := hE.cell (show W0'.cell? ⟨bp, 1, none⟩ = some (.int .i64 a) by rw [cell_of_row _ _ 1 _ _ _ HB.out]; rfl) (by simp)
    obtain ⟨r, hr⟩ : ∃ r, r = rs.getD j W0 := ⟨_, rfl⟩
    rw [← hr] at m0 m1 m2
    have hrj : rs[j]? = some r := by rw [hr]; simp [List.getD, hjr]
    have hjw : j < ws.length := by rw [← HNN.out]; exact hj2
    obtain ⟨y1, y2, y3⟩ := H5.out j r ws[j] hrj (List.getElem?_eq_getElem hjw)
    obtain ⟨x, hx⟩ : ∃ x, x = ws[j] := ⟨_, rfl⟩
    rw [← hx] at y1 y2 y3
    rw [y1] at m0
    rw [y2] at m1
    have HR := Lib.hid hr
    have HX := Lib.hid hx
    have HY3 := Lib.hid y3
    clear hr hrj y1 y2 y3 hx
    have c44 := c4
    by_cases hji : j = i
    · have hxe : x = (d, a, bs) := by
        have h := HN.out.1
        rw [HX.out]
        rw [← hji, List.getElem?_eq_getElem hjw] at h
        exact Option.some.inj h
      rw [hxe] at m0 m1
      simp only at m0 m1
      have HXE := Lib.hid hxe
      have HJI := Lib.hid hji
      clear hxe hji
      go_wp2_with fail
      go_big_quiet (fail)
      go_wp2_with fail
      go_ret
      have hm := (EW_cells H3.out.rd j hjr).2.2
      have hre : rs.getD j W0 = r := HR.out.symm
      rw [hre] at hm
      refine ⟨g, o + j * 3, _, _, _, rfl, hm, ?_, (hEa.trans hE).drewN _⟩
      have h := HY3.out
      rw [HXE.out] at h
      exact h
    · have hgt : i < j := by omega
      have hno := HN.out.2 j x hgt (by rw [HX.out]; exact List.getElem?_eq_getElem hjw)
      have HNO := Lib.hid hno
      clear hno hji
      by_cases hd : x.1 = d
      · have ha : ¬ x.2.1 = a := fun h => HNO.out ⟨hd, h⟩
        have hb : (((x.2.1 : Nat) : Int) == (a : Int)) = false := beq_eq_false_iff_ne.2 (by omega)
        have hb2 : ¬ (((x.2.1 : Nat) : Int) = (a : Int)) := by omega
        rw [hd] at m0
        have HD := Lib.hid hd
        clear hd
        go_wp2_with fail
        go_big_quiet (fail)
        go_wp2_with fail
        go_roundw
        case rel => exact ⟨j - 1, by omega, by omega, by rw [show ((j - 1 : Nat) : Int) = (j : Int) - 1 by omega], hE.drewN _⟩
        case measure => simp [intOf]; omega
      · have hb : (((x.1 : Nat) : Int) == (d : Int)) = false := beq_eq_false_iff_ne.2 (by omega)
        have hb2 : ¬ (((x.1 : Nat) : Int) = (d : Int)) := by omega
        clear hd
        go_wp2_with fail
        go_big_quiet (fail)
        go_wp2_with fail
        go_roundw
        case rel => exact ⟨j - 1, by omega, by omega, by rw [show ((j - 1 : Nat) : Int) = (j : Int) - 1 by omega], hE.drewN _⟩
        case measure => simp [intOf]; omega

set_option maxRecDepth 100000 in
theorem rkheld_c (b gg D S : Nat) (ws : List (Nat × Nat × List UInt8)) (d a i : Nat) (bs : List UInt8) (w : World) (h : RackR w b gg D S ws) (hn : Newest ws d a i bs) (hwl : ws.length ≤ 1000000) :
    Calls Tryz.prog 98 #[.pointer (some ⟨b, 0, none⟩), .agg #[.int .i64 d, .int .i64 a]] w fun e w' => ∃ v, e = .returned v ∧ EB.Ow 5 w' v bs ∧ Ext [] w w' := by
  have hEa := (Ext.refl [] w).alloc (.cells #[.int .i64 d, .int .i64 a] 190)
  have HR := Lib.hid (h.ext0 hEa)
  have HEA := Lib.hid hEa
  clear h hEa
  have HN := Lib.hid hn
  clear hn
  go_enter Tryz.func98, Tryz.ntmps98
  go_wp2_with fail
  refine (rknewest_c b gg D S ws d a i bs _ HR.out HN.out hwl).mono ?_
  rintro e W1 ⟨g, o, p, n, c, rfl, hc, ho, hE1⟩
  have hc1 := hE1.cell hc (by simp)
  have hE01 := HEA.out.trans hE1
  have HO := Lib.hid (ho.ext0 hE1)
  clear hc hE1 ho
  go_wp2_with fail
  go_ret
  exact ⟨_, rfl, HO.out, hE01⟩

set_option maxRecDepth 100000 in
set_option maxHeartbeats 1000000 in
theorem rkread_c (b gg D S : Nat) (ws : List (Nat × Nat × List UInt8)) (d a i : Nat) (bs : List UInt8) (w : World) (h : RackR w b gg D S ws) (hd : d < D) (ha : a < S) (hn : Newest ws d a i bs) (hwl : ws.length ≤ 1000000) (hbl : bs.length ≤ 1000000) :
    Calls Tryz.prog 70 #[.pointer (some ⟨b, 0, none⟩), .int .i64 d, .int .i64 a] w fun e w' => ∃ v, e = .returned (.tuple #[v, .int .i64 0]) ∧ EB.Ow 5 w' v bs ∧ (∀ g ∈ blkL v, w.heap.size ≤ g) ∧ Ext [] w w' := by
  have HR := Lib.hid h
  obtain ⟨mv, pw, nw, cw, left, rs, h1, h2, _⟩ := h
  have c3 : w.cell? ⟨b, 3, none⟩ = some (.slice (some ⟨gg, 0, none⟩) D D) := by rw [cell_of_row w b 3 _ _ _ h1]; rfl
  have c5 : w.cell? ⟨b, 5, none⟩ = some (.bool false) := by rw [cell_of_row w b 5 _ _ _ h1]; rfl
  have cg : w.cell? ⟨gg, d, none⟩ = some (.bool false) := by rw [cell_of_row w gg d _ _ _ h2]; simp [flatBo, hd]
  have z1 : (0 : Int) ≤ (d : Int) := by omega
  have z2 : (d : Int) < (D : Int) := by omega
  have HN := Lib.hid hn
  clear h1 h2 hn
  go_enter Tryz.func70, Tryz.ntmps70
  go_wp2_with fail
  refine (rkin_c b gg D S ws d a _ HR.out hd ha).mono ?_
  rintro e W1 ⟨rfl, rfl⟩
  go_wp2_with fail
  refine (rkheld_c b gg D S ws d a i bs _ HR.out HN.out hwl).mono ?_
  rintro e W2 ⟨v2, rfl, ho2, hE2⟩
  have HO2 := Lib.hid ho2
  clear ho2 c3 c5 cg
  go_wp2_with fail
  refine (cloneB_c v2 bs _ hbl HO2.out.rd).mono ?_
  rintro e W3 ⟨v3, rfl, ho3, hE3, hn3, -⟩
  have HO3 := Lib.hid ho3
  have hn' : ∀ g ∈ blkL v3, W1.heap.size ≤ g := fun g hg => Nat.le_trans hE2.size (hn3 g hg)
  have hE03 := hE2.trans hE3
  clear ho3 hn3 hE2 hE3
  go_wp2_with fail
  go_ret2
  exact ⟨_, rfl, HO3.out, hn', hE03⟩

end Go.Proofs.YtgfajlaibgbdoaaGreat

namespace Go.Proofs.YtgfajlaibgbdoaaGreat
open Go.RowKit

/-! The stripes of a block. -/
abbrev Slc2 := Option Addr × Nat × Nat
abbrev Str := Slc2 × Slc2
def EST : Enc Str where
  k := 2
  hk := by decide
  enc x := [.slice x.1.1 x.1.2.1 x.1.2.2, .slice x.2.1 x.2.2.1 x.2.2.2]
  len _ := rfl
  one _ v hv := by simp at hv; rcases hv with rfl | rfl <;> rfl
theorem tiST : Ti Tryz.prog EST 180 48 ((none, 0, 0), (none, 0, 0)) := Ti.mk' (z := .agg #[.slice none 0 0, .slice none 0 0]) (by kernel_rfl) rfl
theorem EST_cells {w : World} {g o n cap : Nat} {s : List Str} (h : EST.Rd w (.slice (some ⟨g, o, none⟩) n cap) s) (i : Nat) (x : Str) (hx : s[i]? = some x) :
    w.cell? ⟨g, o + i * 2, none⟩ = some (.slice x.1.1 x.1.2.1 x.1.2.2) ∧ w.cell? ⟨g, o + i * 2 + 1, none⟩ = some (.slice x.2.1 x.2.2.1 x.2.2.2) := by
  obtain ⟨hi, rfl⟩ := List.getElem?_eq_some_iff.1 hx
  exact ⟨h.cells i 0 hi (by decide), h.cells i 1 hi (by decide)⟩
theorem one_rdST {T : TypeId} (W0 : World) (x : Str) : EST.Rd (W0.alloc (.cells #[.slice x.1.1 x.1.2.1 x.1.2.2, .slice x.2.1 x.2.2.1 x.2.2.2] T)) (.slice (some ⟨W0.heap.size, 0, none⟩) 1 1) [x] := by
  refine .inr ⟨W0.heap.size, 0, 1, rfl, Nat.le_refl _, by simp, fun j u hj => ?_⟩
  rw [cell_of_row _ W0.heap.size _ _ _ _ (heap_alloc_new _ _)]
  match j, hj with
  | 0, hj => exact hj
  | 1, hj => exact hj
  | j + 2, hj => simp [EST, Enc.flat] at hj

/-- a stripe: its columns hold these bytes; its drives. -/
def StrOk (w : World) (B : Nat) (x : Str) (cs : List (List UInt8)) : Prop := ∃ (zc : List (Slc2 × List UInt8)) (ds : List Int), ES.Ow 40 w (.slice x.1.1 x.1.2.1 x.1.2.2) (zc.map (·.1)) ∧ CellsOk w B zc ∧ zc.map (·.2) = cs ∧ EI.Ow 3 w (.slice x.2.1 x.2.2.1 x.2.2.2) ds ∧ ds.length = cs.length
theorem StrOk.ext {w w' : World} {B : Nat} {x : Str} {cs : List (List UInt8)} {S : List Nat} (h : StrOk w B x cs) (he : Ext S w w') (h1 : ∀ y ∈ S, tagOf w y ≠ some 5 ∧ tagOf w y ≠ some 40 ∧ tagOf w y ≠ some 3) : StrOk w' B x cs := by
  obtain ⟨zc, ds, a1, a2, a3, a4, a5⟩ := h
  refine ⟨zc, ds, a1.ext he (fun y hy hy2 => ?_), a2.ext he (fun y hy => (h1 y hy).1), a3, a4.ext he (fun y hy hy2 => ?_), a5⟩
  · obtain ⟨c, hc⟩ := a1.tag y hy
    exact (h1 y hy2).2.1 (tagOf_of hc)
  · obtain ⟨c, hc⟩ := a4.tag y hy
    exact (h1 y hy2).2.2 (tagOf_of hc)

/-- the columns of the stripes: row by row the data, then three parities. -/
inductive StripesOf (k : Nat) : List UInt8 → Nat → List (List (List UInt8)) → Prop
  | nil (P : List UInt8) : StripesOf k P 0 []
  | row (P : List UInt8) (l : Nat) (p1 p2 p3 : List UInt8) (rest : List (List (List UInt8))) : l ≠ 0 → StripesOf k (P.drop (128 * min l (k + 1))) (l - min l (k + 1)) rest → StripesOf k P l ((secsOf P (min l (k + 1)) ++ [p1, p2, p3]) :: rest)

/-- within a row: the stripe's i-th column is the cell (i + 3) mod (K + 3). -/
theorem turn_get (D : List (List UInt8)) (p1 p2 p3 : List UInt8) (rest : List (List UInt8)) (i : Nat) (hi : i < D.length + 3) : (D ++ [p1, p2, p3])[i]? = (p1 :: p2 :: p3 :: (D ++ rest))[(i + 3) % (D.length + 3)]? := by
  by_cases h : i < D.length
  · rw [Nat.mod_eq_of_lt (by omega), List.getElem?_append_left h]
    show _ = (D ++ rest)[i]?
    rw [List.getElem?_append_left h]
  · obtain ⟨j, rfl⟩ : ∃ j, i = D.length + j := ⟨i - D.length, by omega⟩
    rw [show (D.length + j + 3) = j + (D.length + 3) by omega, Nat.add_mod_right, Nat.mod_eq_of_lt (by omega), List.getElem?_append_right (by omega), Nat.add_sub_cancel_left]
    match j, hi with
    | 0, _ => rfl
    | 1, _ => rfl
    | 2, _ => rfl
    | j + 3, hi => omega

/-- the stripe under way. -/
structure SQ (w1 W : World) (B b : Nat) (cv dv : Slc2) (zc : List (Slc2 × List UInt8)) (ds : List Int) : Prop where
  ext : Ext [b] w1 W
  hb : W.heap[b]? = some (.cells #[.slice cv.1 cv.2.1 cv.2.2, .slice dv.1 dv.2.1 dv.2.2] 180 (0, 0))
  oc : ES.Ow 40 W (.slice cv.1 cv.2.1 cv.2.2) (zc.map (·.1))
  kc : CellsOk W B zc
  od : EI.Ow 3 W (.slice dv.1 dv.2.1 dv.2.2) ds
  lc : ∀ y ∈ blkL (.slice cv.1 cv.2.1 cv.2.2), w1.heap.size ≤ y
  ld : ∀ y ∈ blkL (.slice dv.1 dv.2.1 dv.2.2), w1.heap.size ≤ y

/-- the region: what the two chains have made so far. -/
structure SR (w1 W : World) (B b : Nat) (cv dv : Slc2) (u1 u2 : Value) (L1 : List Slc2) (L2 : List Int) (z : List (Slc2 × List UInt8)) : Prop where
  ext : Ext [b] w1 W
  hb : W.heap[b]? = some (.cells #[.slice cv.1 cv.2.1 cv.2.2, .slice dv.1 dv.2.1 dv.2.2] 180 (0, 0))
  bl : w1.heap.size ≤ W.heap.size
  oc : ES.Ow 40 W u1 L1
  kc : CellsOk W B z
  od : EI.Ow 3 W u2 L2
  lc : ∀ y ∈ blkL u1, w1.heap.size ≤ y
  ld : ∀ y ∈ blkL u2, w1.heap.size ≤ y
theorem SR.ext0 {w1 W W' : World} {B b : Nat} {cv dv : Slc2} {u1 u2 : Value} {L1 : List Slc2} {L2 : List Int} {z : List (Slc2 × List UInt8)} (h : SR w1 W B b cv dv u1 u2 L1 L2 z) (he : Ext [] W W') : SR w1 W' B b cv dv u1 u2 L1 L2 z :=
  ⟨h.ext.andThen he, he.blk h.hb (by simp), Nat.le_trans h.bl he.size, h.oc.ext0 he, h.kc.ext he (by simp), h.od.ext0 he, h.lc, h.ld⟩
theorem SR.app1 {w1 W W' : World} {B b : Nat} {cv dv : Slc2} {u1 u2 v' : Value} {L1 L : List Slc2} {L2 : List Int} {z : List (Slc2 × List UInt8)} (h : SR w1 W B b cv dv u1 u2 L1 L2 z) (how : ES.Ow 40 W' v' L) (hE : Ext (blkL u1) W W') (hn : Near W u1 v') : SR w1 W' B b cv dv v' u2 L L2 z := by
  refine ⟨h.ext.trans' hE (fun _ h => .inl h) (fun y hy => .inr (h.lc y hy)), hE.blk h.hb (fun hm => h.oc.ne h.hb (by decide) b hm rfl), Nat.le_trans h.bl hE.size, how, h.kc.ext hE (fun y hy => ?_), h.od.ext hE (fun y hy hy2 => ?_), fun y hy => ?_, h.ld⟩
  · obtain ⟨c, hc⟩ := h.oc.tag y hy
    rw [tagOf_of hc]; decide
  · obtain ⟨c, hc⟩ := h.oc.tag y hy2
    exact h.od.ne hc (by decide) y hy rfl
  · rcases hn y hy with h1 | h1
    · exact h.lc y h1
    · have := h.bl; omega
theorem SR.app2 {w1 W W' : World} {B b : Nat} {cv dv : Slc2} {u1 u2 v' : Value} {L1 : List Slc2} {L2 L : List Int} {z : List (Slc2 × List UInt8)} (h : SR w1 W B b cv dv u1 u2 L1 L2 z) (how : EI.Ow 3 W' v' L) (hE : Ext (blkL u2) W W') (hn : Near W u2 v') : SR w1 W' B b cv dv u1 v' L1 L z := by
  refine ⟨h.ext.trans' hE (fun _ h => .inl h) (fun y hy => .inr (h.ld y hy)), hE.blk h.hb (fun hm => h.od.ne h.hb (by decide) b hm rfl), Nat.le_trans h.bl hE.size, h.oc.ext hE (fun y hy hy2 => ?_), h.kc.ext hE (fun y hy => ?_), how, h.lc, fun y hy => ?_⟩
  · obtain ⟨c, hc⟩ := h.od.tag y hy2
    exact h.oc.ne hc (by decide) y hy rfl
  · obtain ⟨c, hc⟩ := h.od.tag y hy
    rw [tagOf_of hc]; decide
  · rcases hn y hy with h1 | h1
    · exact h.ld y h1
    · have := h.bl; omega
theorem keepS {W W' : World} {u2 v : Value} {L2 : List Int} {xs : List Slc2} (h : ES.Ow 40 W v xs) (h2 : EI.Ow 3 W u2 L2) (hE : Ext (blkL u2) W W') : ES.Ow 40 W' v xs := h.ext hE (fun y hy hy2 => by
  obtain ⟨c, hc⟩ := h2.tag y hy2
  exact h.ne hc (by decide) y hy rfl)
theorem keepI {W W' : World} {u1 v : Value} {L1 : List Slc2} {xs : List Int} (h : EI.Ow 3 W v xs) (h2 : ES.Ow 40 W u1 L1) (hE : Ext (blkL u1) W W') : EI.Ow 3 W' v xs := h.ext hE (fun y hy hy2 => by
  obtain ⟨c, hc⟩ := h2.tag y hy2
  exact h.ne hc (by decide) y hy rfl)
theorem one_owS (W0 : World) (x : Slc2) : ES.Ow 40 (W0.alloc (.cells #[.slice x.1 x.2.1 x.2.2] 40)) (.slice (some ⟨W0.heap.size, 0, none⟩) 1 1) [x] := .inr ⟨W0.heap.size, 0, 1, [x], rfl, heap_alloc_new _ _, by simp, by simp, rfl⟩
theorem one_owI (W0 : World) (x : Int) : EI.Ow 3 (W0.alloc (.cells #[.int .i64 x] 3)) (.slice (some ⟨W0.heap.size, 0, none⟩) 1 1) [x] := .inr ⟨W0.heap.size, 0, 1, [x], rfl, heap_alloc_new _ _, by simp, by simp, rfl⟩
theorem SR.cells {w1 W : World} {B b : Nat} {cv dv : Slc2} {u1 u2 : Value} {L1 : List Slc2} {L2 : List Int} {z : List (Slc2 × List UInt8)} (h : SR w1 W B b cv dv u1 u2 L1 L2 z) : W.cell? ⟨b, 0, none⟩ = some (.slice cv.1 cv.2.1 cv.2.2) ∧ W.cell? ⟨b, 1, none⟩ = some (.slice dv.1 dv.2.1 dv.2.2) :=
  ⟨by rw [cell_of_row _ _ 0 _ _ _ h.hb]; rfl, by rw [cell_of_row _ _ 1 _ _ _ h.hb]; rfl⟩
theorem SQ.ext0 {w1 W W' : World} {B b : Nat} {cv dv : Slc2} {zc : List (Slc2 × List UInt8)} {ds : List Int} (h : SQ w1 W B b cv dv zc ds) (he : Ext [] W W') : SQ w1 W' B b cv dv zc ds :=
  ⟨h.ext.andThen he, he.blk h.hb (by simp), h.oc.ext0 he, h.kc.ext he (by simp), h.od.ext0 he, h.lc, h.ld⟩
/-- the region begins. -/
theorem SQ.start {w1 W : World} {B b : Nat} {cv dv : Slc2} {zc : List (Slc2 × List UInt8)} {ds : List Int} (h : SQ w1 W B b cv dv zc ds) {x : Slc2 × List UInt8} (hx : x.1.2.1 = 128 ∧ x.2.length = 128 ∧ Sec W B x.1 x.2) : SR w1 W B b cv dv (.slice cv.1 cv.2.1 cv.2.2) (.slice dv.1 dv.2.1 dv.2.2) (zc.map (·.1)) ds (zc ++ [x]) :=
  ⟨h.ext, h.hb, h.ext.size, h.oc, h.kc.append (fun z hz => by simp at hz; subst hz; exact hx), h.od, h.lc, h.ld⟩
/-- both are stored. -/
theorem SR.done {w1 W : World} {B b : Nat} {cv dv cu du : Slc2} {L2 : List Int} {z : List (Slc2 × List UInt8)} (h : SR w1 W B b cv dv (.slice cu.1 cu.2.1 cu.2.2) (.slice du.1 du.2.1 du.2.2) (z.map (·.1)) L2 z) :
    SQ w1 ((W.setCell ⟨b, 0, none⟩ (.slice cu.1 cu.2.1 cu.2.2)).setCell ⟨b, 1, none⟩ (.slice du.1 du.2.1 du.2.2)) B b cu du z L2 := by
  have hE : Ext [b] W ((W.setCell ⟨b, 0, none⟩ (.slice cu.1 cu.2.1 cu.2.2)).setCell ⟨b, 1, none⟩ (.slice du.1 du.2.1 du.2.2)) := ((Ext.refl [b] W).setCell (.inl (by simp)) _).setCell (.inl (by simp)) _
  have hb2 := heap_setCell_same _ b 1 _ _ (.slice du.1 du.2.1 du.2.2) (heap_setCell_same W b 0 _ _ (.slice cu.1 cu.2.1 cu.2.2) h.hb)
  have ht := tagOf_of h.hb
  exact ⟨h.ext.trans hE, hb2, h.oc.ext hE (fun y hy => by simpa using h.oc.ne h.hb (by decide) y hy), h.kc.ext hE (fun y hy => by simp at hy; subst hy; rw [ht]; decide), h.od.ext hE (fun y hy => by simpa using h.od.ne h.hb (by decide) y hy), h.lc, h.ld⟩

end Go.Proofs.YtgfajlaibgbdoaaGreat

namespace Go.Proofs.YtgfajlaibgbdoaaGreat
open Go.RowKit

theorem LayOf.row_inv {k : Nat} {P : List UInt8} {l : Nat} {zs : List (List UInt8)} (h : LayOf k P l zs) (hl : l ≠ 0) : ∃ p1 p2 p3 rest, zs = p1 :: p2 :: p3 :: (secsOf P (min l (k + 1)) ++ rest) ∧ LayOf k (P.drop (128 * min l (k + 1))) (l - min l (k + 1)) rest := by
  cases h with
  | nil P => exact (hl rfl).elim
  | row P l p1 p2 p3 rest _ h1 => exact ⟨p1, p2, p3, rest, rfl, h1⟩

def StripesPost (k : Nat) (P : List UInt8) (l : Nat) (w : World) (e : Ending) (w' : World) : Prop := ∃ (v : Value) (ss : List (Str × List (List UInt8))), e = .returned (.tuple #[v, .int .i64 0]) ∧ EST.Ow 180 w' v (ss.map (·.1)) ∧ (∀ x ∈ ss, StrOk w' w.heap.size x.1 x.2) ∧ StripesOf k P l (ss.map (·.2)) ∧ ss.length ≤ 8 ∧ (∀ y ∈ blkL v, w.heap.size ≤ y) ∧ Ext [] w w'

/-- every cell's newest write is what it must hold. -/
def Stands (ws : List (Nat × Nat × List UInt8)) (D F addr : Nat) (zs : List (List UInt8)) : Prop := ∀ i z, zs[i]? = some z → z.length = 128 ∧ ∃ j, Newest ws ((addr + i) % D) (F + (addr + i) / D) j z



set_option maxRecDepth 100000 in
set_option maxHeartbeats 8000000 in
theorem arstripes_c (a r gg k S F addr size : Nat) (ws : List (Nat × Nat × List UInt8)) (P : List UInt8) (zs : List (List UInt8)) (w : World) (hr : RackR w r gg (k + 4) S ws) (ha : ArrR w a r (k + 4) F) (hk1 : 1 ≤ k) (hk : k ≤ 8) (hS : S ≤ 2000) (hF : F ≤ S) (h1 : 1 ≤ size) (h2 : size ≤ 1024) (had : addr + costF k size ≤ (k + 4) * (S - F)) (hlay : LayOf k P ((size + 127) / 128) zs) (hst : Stands ws (k + 4) F addr zs) (hwl : ws.length ≤ 1000000) :
    Calls Tryz.prog 60 #[.pointer (some ⟨a, 0, none⟩), .int .i64 addr, .int .i64 size] w (StripesPost k P ((size + 127) / 128) w) := by
  have HR := Lib.hid hr
  have HA := Lib.hid ha
  have hm : (k + 4) * (S - F) ≤ 12 * 2000 := Nat.mul_le_mul (by omega) (by omega)
  have hzl : addr + zs.length ≤ (k + 4) * (S - F) := by
    have h3 := hlay.len 0
    rw [← costF_eq] at h3
    omega
  have hrl := rowsF_len k ((size + 127) / 128) (addr : Int)
  obtain ⟨l0, hl0⟩ : ∃ l, l = (size + 127) / 128 := ⟨_, rfl⟩
  rw [← hl0] at hlay hrl ⊢
  have hl8 : l0 ≤ 8 := by omega
  obtain ⟨CC, hCC⟩ : ∃ C, C = (k + 4) * (S - F) := ⟨_, rfl⟩
  rw [← hCC] at hzl hm
  have HL0 := Lib.hid hl0
  have HCC := Lib.hid hCC
  have HLAY := Lib.hid hlay
  have HST := Lib.hid hst
  clear hr ha hlay hst hl0 had hCC
  go_enter Tryz.func60, Tryz.ntmps60
  go_wp2_with fail
  refine (arrows_c a r k F addr size w HA.out (by omega) (by omega) (by omega) h1 h2).mono ?_
  rintro e W1 ⟨v1, rfl, how1, hn1, hE1⟩
  rw [← HL0.out] at how1
  obtain ⟨p1, c1, rfl, _⟩ := how1.rd.len_eq
  obtain ⟨rs, hrs⟩ : ∃ rs, rs = rowsF k (addr : Int) l0 := ⟨_, rfl⟩
  rw [← hrs] at how1 hrl ⊢
  obtain ⟨nr, hnr⟩ : ∃ n, n = rs.length := ⟨_, rfl⟩
  rw [← hnr] at how1 hrl ⊢
  have HRS := Lib.hid hrs
  have HNR := Lib.hid hnr
  have HO1 := Lib.hid how1.rd
  have HR1 := Lib.hid (HR.out.ext0 hE1)
  have HA1 := Lib.hid (HA.out.ext0 hE1)
  have hB1 := hE1.size
  have HE1 := Lib.hid hE1
  obtain ⟨B, hB⟩ : ∃ B, B = w.heap.size := ⟨_, rfl⟩
  rw [← hB] at hB1
  have HB := Lib.hid hB
  clear how1 hn1 hE1 hrs hnr hB HR HA
  go_wp2_with fail
  go_loopw [8, 10, 11, 12, 13, 14, 15, 16, 17, 23] (fun ov _ _ _ _ _ _ _ _ iv wr => ∃ (q l off : Nat) (P' : List UInt8) (zr : List (List UInt8)) (ss : List (Str × List (List UInt8))), q ≤ nr ∧ iv = .int .i64 q ∧ l ≤ l0 ∧ off + zr.length = zs.length ∧ ss.length = q ∧ Ext [] W1 wr ∧ (∃ po co, ov = .slice po q co) ∧ Hid (rs.drop q = rowsF k ((addr + off : Nat) : Int) l) ∧ Hid (zs.drop off = zr ∧ LayOf k P' l zr) ∧ Hid (EST.Ow 180 wr ov (ss.map (·.1)) ∧ (∀ x ∈ ss, StrOk wr B x.1 x.2) ∧ ∀ y ∈ blkL ov, W1.heap.size ≤ y) ∧ Hid (∀ rest, StripesOf k P' l rest → StripesOf k P l0 (ss.map (·.2) ++ rest))) (fun _ _ _ _ _ _ _ _ _ iv _ => nr - (intOf iv).toNat)
  case atStart => exact ⟨0, l0, 0, P, zs, [], by omega, rfl, by omega, by omega, rfl, Ext.refl _ _, ⟨none, 0, rfl⟩, HRS, Lib.hid ⟨rfl, HLAY.out⟩, Lib.hid ⟨.inl ⟨rfl, rfl⟩, (fun x hx => by cases hx), by simp [blkL]⟩, Lib.hid (fun rest h => h)⟩
  case round =>
    obtain ⟨q, l, off, P', zr, ss, hq, rfl, hll, hof, hssl, hE, ⟨po, co, rfl⟩, HDR, HZ, HO, HL⟩ := hrel
    by_cases hlt : q < nr
    · have z1 : (q : Int) < (nr : Int) := by omega
      obtain ⟨g1, o1, rfl⟩ : ∃ g o, p1 = some ⟨g, o, none⟩ := by
        rcases HO1.out with ⟨_, h⟩ | ⟨g, o, c, h, _⟩
        · have := HNR.out; rw [h] at this; simp at this; omega
        · simp only [Value.slice.injEq] at h; exact ⟨g, o, h.1⟩
      obtain ⟨hm1, hm2⟩ := ER_cells (HO1.out.ext0 hE) q (by rw [← HNR.out]; exact hlt)
      have hdr : rs.drop q = rs.getD q (0, 0) :: rs.drop (q + 1) := by
        rw [List.drop_eq_getElem_cons (by rw [← HNR.out]; exact hlt)]
        congr 1
        have := HNR.out
        simp [List.getD, show q < rs.length by omega]
      have hl1 : l ≠ 0 := by
        rintro rfl
        have h := HDR.out
        rw [rowsF_zero, hdr] at h
        cases h
      have hrow := HDR.out
      rw [rowsF_pos k _ l hl1, hdr] at hrow
      simp only [List.cons.injEq] at hrow
      obtain ⟨hx1, hrest⟩ := hrow
      rw [hx1] at hm1 hm2
      simp only at hm1 hm2
      obtain ⟨q1, q2, q3, zrest, hzr, hlay2⟩ := HZ.out.2.row_inv hl1
      have M1 : 1 ≤ min l (k + 1) := by omega
      have M2 : min l (k + 1) ≤ l := by omega
      have M3 : min l (k + 1) ≤ 8 := by omega
      have hstr : ∀ rest, StripesOf k (P'.drop (128 * min l (k + 1))) (l - min l (k + 1)) rest → StripesOf k P' l ((secsOf P' (min l (k + 1)) ++ [q1, q2, q3]) :: rest) := fun rest h => .row P' l q1 q2 q3 rest hl1 h
      obtain ⟨M, hM⟩ : ∃ M, M = min l (k + 1) := ⟨_, rfl⟩
      rw [← hM] at hm2 M1 M2 M3 hrest hzr hlay2 hstr
      have hzlen : zr.length = 3 + (M + zrest.length) := by rw [hzr]; simp [secsOf_len]; omega
      obtain ⟨A, hAA⟩ : ∃ A, A = addr + off := ⟨_, rfl⟩
      rw [← hAA] at hm1 hrest
      have hA1 : A + zr.length ≤ CC := by omega
      have HAA := Lib.hid hAA
      have HZR := Lib.hid hzr
      have HLAY2 := Lib.hid hlay2
      have HSTR := Lib.hid hstr
      have HREST := Lib.hid hrest
      clear hdr hx1 hrest hzr hlay2 hstr hM hAA
      obtain ⟨N3, hN3⟩ : ∃ n, n = M + 3 := ⟨_, rfl⟩
      have w3 : IntKind.i64.wrap ((M : Int) + 3) = (N3 : Int) := by rw [IntWalk.i64_in _ (by omega)]; omega
      have w3' : (M : Int) + 3 = (N3 : Int) := by omega
      have HN3 := Lib.hid hN3
      have n4 : 4 ≤ N3 ∧ N3 ≤ 11 := by omega
      obtain ⟨T, hT⟩ : ∃ T, T = secsOf P' M ++ [q1, q2, q3] := ⟨_, rfl⟩
      have hTl : T.length = N3 := by rw [hT]; simp [secsOf_len]; omega
      have hTg : ∀ i < N3, T[i]? = zr[(i + 3) % N3]? := fun i hi => by
        rw [hT, HZR.out, hN3]
        have h := turn_get (secsOf P' M) q1 q2 q3 zrest i (by rw [secsOf_len]; omega)
        rw [secsOf_len] at h
        exact h
      have HT := Lib.hid hT
      have HTL := Lib.hid hTl
      have HTG := Lib.hid hTg
      rw [← hT] at HSTR
      have HRr := Lib.hid (HR1.out.ext0 hE)
      have HAr := Lib.hid (HA1.out.ext0 hE)
      clear hT hTl hTg hN3
      go_wp2_with fail
      have hbr := heap_alloc_new wr (.cells #[.int .i64 A, .int .i64 M] 110)
      have hbs := heap_alloc_new (wr.alloc (.cells #[.int .i64 A, .int .i64 M] 110)) (.cells #[.slice none 0 0, .slice none 0 0] 180)
      have hEa := (Ext.refl [] wr).alloc (.cells #[.int .i64 A, .int .i64 M] 110)
      have hEb := (Ext.refl [] (wr.alloc (.cells #[.int .i64 A, .int .i64 M] 110))).alloc (.cells #[.slice none 0 0, .slice none 0 0] 180)
      have hbr2 := hEb.blk hbr (by simp)
      have hEab := hEa.trans hEb
      have esz : (wr.alloc (.cells #[.int .i64 A, .int .i64 M] 110)).heap.size = wr.heap.size + 1 := by simp
      rw [esz] at hbs
      obtain ⟨br, hbre⟩ : ∃ x, x = wr.heap.size := ⟨_, rfl⟩
      rw [← hbre] at hbr2 hbs
      simp only [← hbre]
      have lW1 : W1.heap.size ≤ br := by have := hE.size; omega
      have HBR := Lib.hid hbr2
      have HBS := Lib.hid hbs
      have HEAB := Lib.hid hEab
      have HBRE := Lib.hid hbre
      clear hbr hbs hEa hEb hbr2 hEab esz hm1 hm2 hbre
      revert HBR HBS HEAB
      generalize World.alloc (World.alloc _ _) _ = w1
      intro HBR HBS HEAB
      have lbs := lt_of_blk HBS.out
      go_loopw [12, 13, 14, 15, 16, 17, 30] (fun _ _ _ _ _ _ iv W => ∃ (i : Nat) (cv dv : Slc2) (zc : List (Slc2 × List UInt8)) (ds : List Int), i ≤ N3 ∧ iv = .int .i64 i ∧ zc.length = i ∧ ds.length = i ∧ Hid (SQ w1 W B (br + 1) cv dv zc ds) ∧ Hid (zc.map (·.2) = T.take i)) (fun _ _ _ _ _ _ iv _ => N3 - (intOf iv).toNat)
      case atStart => exact ⟨0, (none, 0, 0), (none, 0, 0), [], [], by omega, rfl, rfl, rfl, Lib.hid ⟨Ext.refl _ _, HBS.out, .inl ⟨rfl, rfl⟩, (fun z hz => by cases hz), .inl ⟨rfl, rfl⟩, by simp [blkL], by simp [blkL]⟩, Lib.hid (by simp)⟩
      case round =>
        obtain ⟨i, cv, dv, zc, ds, hi, rfl, hzcl, hdsl, HQ, HZC⟩ := hrel
        have hext := HQ.out.ext
        have b0 : wr.cell? ⟨br, 0, none⟩ = some (.int .i64 A) := hext.cell (show w1.cell? ⟨br, 0, none⟩ = some (.int .i64 A) by rw [cell_of_row _ _ 0 _ _ _ HBR.out]; rfl) (by simp)
        have b1 : wr.cell? ⟨br, 1, none⟩ = some (.int .i64 M) := hext.cell (show w1.cell? ⟨br, 1, none⟩ = some (.int .i64 M) by rw [cell_of_row _ _ 1 _ _ _ HBR.out]; rfl) (by simp)
        have bsne : ∀ (y : Nat) (c : Array Value) (Ty : TypeId) (f : Nat × Nat), w1.heap[y]? = some (.cells c Ty f) → Ty ≠ 180 → y ∉ [br + 1] := fun y c Ty f hy hT hm => by
          simp at hm
          subst hm
          rw [HBS.out] at hy
          simp only [Option.some.injEq, Obj.cells.injEq] at hy
          exact hT hy.2.1.symm
        have HBN := Lib.hid bsne
        clear bsne
        by_cases hin : i < N3
        · have z2 : (i : Int) < (N3 : Int) := by omega
          have hmod : (i + 3) % N3 < N3 := Nat.mod_lt _ (by omega)
          have e1 : IntKind.i64.wrap ((i : Int) + 3) = ((i + 3 : Nat) : Int) := by rw [IntWalk.i64_in _ (by omega)]; omega
          have e1' : (i : Int) + 3 = ((i + 3 : Nat) : Int) := by omega
          have e2 := tmodD (i + 3) N3
          obtain ⟨m, hm'⟩ : ∃ m, m = (i + 3) % N3 := ⟨_, rfl⟩
          rw [← hm'] at e2 hmod
          have hcell : T[i]? = zr[m]? := by rw [hm']; exact HTG.out i hin
          have hmz : m < zr.length := by omega
          have e3 : IntKind.i64.wrap ((A : Int) + (m : Int)) = ((A + m : Nat) : Int) := by rw [IntWalk.i64_in _ (by omega)]; omega
          have e3' : (A : Int) + (m : Int) = ((A + m : Nat) : Int) := by omega
          obtain ⟨i3, hi3⟩ : ∃ x, x = i + 3 := ⟨_, rfl⟩
          rw [← hi3] at e1 e1' e2
          obtain ⟨c, hc⟩ : ∃ x, x = A + m := ⟨_, rfl⟩
          rw [← hc] at e3 e3'
          have z3 : ¬ ((N3 : Int) = 0) := by omega
          have z4 : ((N3 : Int) == 0) = false := beq_eq_false_iff_ne.2 (by omega)
          have hcb : c < CC := by omega
          obtain ⟨zb, hzb⟩ : ∃ z, zr[m]? = some z := ⟨zr[m], List.getElem?_eq_getElem hmz⟩
          have hzs : zs[off + m]? = some zb := by
            have h := HZ.out.1
            rw [← h, List.getElem?_drop] at hzb
            exact hzb
          obtain ⟨hzbl, jn, hnew⟩ := HST.out _ _ hzs
          rw [show addr + (off + m) = c by have := HAA.out; omega] at hnew
          have HNEW := Lib.hid hnew
          have HTI : Hid (T[i]? = some zb) := Lib.hid (hcell.trans hzb)
          have HC := Lib.hid hc
          have HM' := Lib.hid hm'
          have HI3 := Lib.hid hi3
          clear hcell hzb hzs hnew hc hm' hi3
          go_wp2_with fail
          go_big_quiet (fail)
          go_wp2_with fail
          have tbs := tagOf_of HBS.out
          have hex' : ExtT [br + 1] [] w1 wr := ExtT.of hext (by simp)
          have hdq : Ext [] wr (wr.drewN nq) := (Ext.refl [] _).drewN _
          have hrk : RackR (wr.drewN nq) r gg (k + 4) S ws := by
            refine ((HRr.out.ext0 HEAB.out).extT hex' ?_ ?_ ?_ (by simp)).ext0 hdq
            · simpa using tag_ne (HRr.out.ext0 HEAB.out).tag.1 tbs (by decide)
            · simpa using tag_ne (HRr.out.ext0 HEAB.out).tag.2 tbs (by decide)
            · simp only [List.mem_singleton, forall_eq, tbs]; decide
          have har : ArrR (wr.drewN nq) a r (k + 4) F := by
            have h0 : ArrR w1 a r (k + 4) F := HAr.out.ext0 HEAB.out
            refine ArrR.ext0 (h0.extT hex' ?_ (by simp)) hdq
            simpa using tag_ne h0.tag tbs (by decide)
          have HQ1 := Lib.hid (HQ.out.ext0 hdq)
          have HRK := Lib.hid hrk
          have HAR := Lib.hid har
          clear hrk har hex' tbs hext b0 b1 HQ hdq e1 e1' e2 e3 e3' z3 z4
          revert HQ1 HRK HAR
          generalize World.drewN _ _ = W1'
          intro HQ1 HRK HAR
          refine (arplace_c a r (k + 4) F c _ HAR.out (by omega) (by omega) (by omega)).mono ?_
          rintro e W2 ⟨rfl, hE2⟩
          have hcd : c % (k + 4) < k + 4 := Nat.mod_lt _ (by omega)
          have hcs : F + c / (k + 4) < S := by
            have h0 : c < (k + 4) * (S - F) := by rw [← HCC.out]; exact hcb
            have : c / (k + 4) < S - F := Nat.div_lt_of_lt_mul h0
            omega
          have hrd := rkread_c r gg (k + 4) S ws (c % (k + 4)) (F + c / (k + 4)) jn zb W2 (HRK.out.ext0 hE2) hcd hcs HNEW.out hwl (by omega)
          obtain ⟨dd, hdd⟩ : ∃ x, x = c % (k + 4) := ⟨_, rfl⟩
          obtain ⟨aa, haa⟩ : ∃ x, x = F + c / (k + 4) := ⟨_, rfl⟩
          rw [← hdd, ← haa] at hrd
          rw [← hdd, ← haa]
          have HRD := Lib.hid hrd
          have k0 : W2.cell? ⟨a, 0, none⟩ = some (.pointer (some ⟨r, 0, none⟩)) := hE2.cell (show W1'.cell? ⟨a, 0, none⟩ = _ by rw [cell_of_row _ a 0 _ _ _ HAR.out]; rfl) (by simp)
          have HQ2 := Lib.hid (HQ1.out.ext0 hE2)
          clear hrd hcd hcs hE2 HQ1 hdd haa
          go_wp2_with fail
          refine HRD.out.mono ?_
          rintro e W3 ⟨v6, rfl, ho6, hn6, hE3⟩
          obtain ⟨p6, c6, rfl, _⟩ := ho6.rd.len_eq
          rw [hzbl] at ho6 hn6 ⊢
          have hsz3 : B ≤ W2.heap.size := by
            have h1 := HQ2.out.ext.size
            have h2 := HEAB.out.size
            have h3 := HBRE.out
            omega
          have hsec : Sec W3 B (p6, 128, c6) zb := ⟨ho6.rd, fun y hy => ⟨by have := hn6 y hy; omega, by obtain ⟨x, hx⟩ := ho6.tag y hy; exact tagOf_of hx⟩⟩
          have hsr := (HQ2.out.ext0 hE3).start (x := ((p6, 128, c6), zb)) ⟨rfl, hzbl, hsec⟩
          have HSR := Lib.hid hsr
          clear ho6 hn6 hsec hsr hE3 HQ2 k0 hsz3
          go_wp2_with fail
          have hD := (Ext.refl [] W3).drew
          have HSD := Lib.hid (HSR.out.ext0 hD)
          clear HSR
          revert HSD
          obtain ⟨V0, hV0⟩ : ∃ V, V = W3.drew := ⟨_, rfl⟩
          rw [← hV0]
          intro HSD
          refine wp_region_u (fun W => W.cell? ⟨br + 1, 0, none⟩ = some (.slice cv.1 cv.2.1 cv.2.2) ∧ W.cell? ⟨br + 1, 1, none⟩ = some (.slice dv.1 dv.2.1 dv.2.2)) (fun i => i == 1 || i == 3 || i == 4 || i == 6 || i == 8 || i == 9) (by kernel_rfl) (by rw [← hV0]; exact HSD.out.cells) (fun hS => ?_)
          rw [← hV0] at hS ⊢
          clear hV0 hD
          (refine wpAnyU_pure (i := 0) rfl (by kernel_rfl) (by kernel_rfl) (by kernel_rfl) (by rfl) (by exact fun _ _ _ h => h) (Or.inl ⟨by rfl, fun W => by (go_simp; try rfl)⟩) ?_); (try go_frame)
          (refine wpAnyU_pure (i := 2) rfl (by kernel_rfl) (by kernel_rfl) (by kernel_rfl) (by rfl) (by exact fun _ _ _ h => h) (Or.inl ⟨by rfl, fun W => by (go_simp; try rfl)⟩) ?_); (try go_frame)
          (refine wpAnyU_pure (i := 5) rfl (by kernel_rfl) (by kernel_rfl) (by kernel_rfl) (by rfl) (by exact fun _ _ _ h => h) (Or.inl ⟨by rfl, fun W => by (go_simp; try rfl)⟩) ?_); (try go_frame)
          (refine wpAnyU_pure (i := 7) rfl (by kernel_rfl) (by kernel_rfl) (by kernel_rfl) (by rfl) (by exact fun _ _ _ h => h) (Or.inl ⟨by rfl, fun W => by (go_simp; try rfl)⟩) ?_); (try go_frame)
          (refine wpAnyU_take (i := 1) rfl (by kernel_rfl) (by kernel_rfl) (by kernel_rfl) (by kernel_rfl) (by exact fun _ _ _ h => h) (by assumption) (Or.inl ⟨by rfl, fun W hW => by (have hWW := hW; clear hW; go_split_ands; go_simp; try rfl)⟩) ?_); (try go_frame)
          (refine wpAnyU_take (i := 6) rfl (by kernel_rfl) (by kernel_rfl) (by kernel_rfl) (by kernel_rfl) (by exact fun _ _ _ h => h) (by assumption) (Or.inl ⟨by rfl, fun W hW => by (have hWW := hW; clear hW; go_split_ands; go_simp; try rfl)⟩) ?_); (try go_frame)
          clear hS
          have hlz : (zc.map (·.1) ++ [((p6, 128, c6) : Slc2)]).length = i + 1 := by rw [List.length_append, List.length_map, hzcl]; rfl
          have hld : (ds ++ [(dd : Int)]).length = i + 1 := by rw [List.length_append, hdsl]; rfl
          have HLZ := Lib.hid hlz
          have HLD := Lib.hid hld
          clear hlz hld
          refine wpAnyU_two (i := 3) (j := 8) (by kernel_rfl) rfl rfl (fun K hK => ?_) (fun K hK => ?_)
          · rw [if_pos (show Region.wanted _ _ = true from rfl)]
            go_simp
            have hEa : Ext [] V0 (V0.alloc (.cells #[.slice p6 128 c6] 40)) := (Ext.refl [] _).alloc _
            have HS1 := Lib.hid ((HSD).out.ext0 hEa)
            have HA1 := Lib.hid (one_owS V0 (p6, 128, c6))
            have hEk : Ext [] V0 (V0.alloc (.cells #[.slice p6 128 c6] 40)) := hEa
            refine hK.out _ _ (fun _ => (HS1).out.cells) (fun _ => ?_)
            clear hK hEa
            revert HS1 HA1 hEk
            obtain ⟨b1, hb1⟩ : ∃ x, x = (V0).heap.size := ⟨_, rfl⟩
            simp only [← hb1]
            clear hb1
            generalize World.alloc _ _ = V1
            intro HS1 HA1 hEk
            refine wpAnyU_two (i := 4) (j := 8) (by kernel_rfl) rfl rfl (fun K hK => ?_) (fun K hK => ?_)
            · rw [if_pos (show Region.wanted _ _ = true from rfl)]
              refine opw_append (s := .tmp 66) (x := .tmp 68) (E := ES) (T := 40) (zero := (none, 0, 0)) (bytes := 24) (v := .slice cv.1 cv.2.1 cv.2.2) (xs := zc.map (·.1)) (ys := [(p6, 128, c6)]) tiS Tryz.underlying119 Tryz.underlying119 rfl rfl rfl (HS1).out.oc (HA1).out.rd (by rw [List.length_map, hzcl]; simp; omega) (by rw [List.length_map, hzcl]; simp; omega) ?_
              intro v7 V2 how7 hE7 hnear7 _
              have HS2 := Lib.hid ((HS1).out.app1 how7 hE7 hnear7)
              obtain ⟨p7, c7, rfl, _⟩ := how7.rd.len_eq
              rw [HLZ.out] at HS2 ⊢
              refine hK.out _ _ (fun _ => (HS2).out.cells) (fun _ => ?_)
              clear hK how7 hnear7
              (refine wpAnyU_pure (i := 10) rfl (by kernel_rfl) (by kernel_rfl) (by kernel_rfl) (by rfl) (by exact fun _ _ _ h => h) (Or.inl ⟨by rfl, fun W => by (go_simp; try rfl)⟩) ?_); (try go_frame)
              (simp only [List.getElem_toArray, List.getElem_cons_zero, List.getElem_cons_succ, List.set_cons_zero, List.set_cons_succ])
              refine wpAnyU_one (i := 8) (by kernel_rfl) rfl (fun K hK => ?_)
              rw [if_pos (show Region.wanted _ _ = true from rfl)]
              go_simp
              have hEa : Ext [] V2 (V2.alloc (.cells #[.int .i64 dd] 3)) := (Ext.refl [] _).alloc _
              have HS3 := Lib.hid ((HS2).out.ext0 hEa)
              have HB3 := Lib.hid (one_owI V2 (dd : Int))
              have hEk : Ext [] V2 (V2.alloc (.cells #[.int .i64 dd] 3)) := hEa
              refine hK.out _ _ (fun _ => (HS3).out.cells) (fun _ => ?_)
              clear hK hEa
              revert HS3 HB3 hEk
              obtain ⟨b2, hb2⟩ : ∃ x, x = (V2).heap.size := ⟨_, rfl⟩
              simp only [← hb2]
              clear hb2
              generalize World.alloc _ _ = V3
              intro HS3 HB3 hEk
              refine wpAnyU_one (i := 9) (by kernel_rfl) rfl (fun K hK => ?_)
              rw [if_pos (show Region.wanted _ _ = true from rfl)]
              refine opw_append (s := .tmp 71) (x := .tmp 73) (E := EI) (T := 3) (zero := 0) (bytes := 8) (v := .slice dv.1 dv.2.1 dv.2.2) (xs := ds) (ys := [(dd : Int)]) tiI Tryz.underlying22 Tryz.underlying22 rfl rfl rfl (HS3).out.od (HB3).out.rd (by rw [hdsl]; simp; omega) (by rw [hdsl]; simp; omega) ?_
              intro v8 V4 how8 hE8 hnear8 _
              have HS4 := Lib.hid ((HS3).out.app2 how8 hE8 hnear8)
              obtain ⟨p8, c8, rfl, _⟩ := how8.rd.len_eq
              rw [HLD.out] at HS4 ⊢
              refine hK.out _ _ (fun _ => (HS4).out.cells) (fun _ => ?_)
              clear hK how8 hnear8
              have hez : zc.map (·.1) ++ [((p6, 128, c6) : Slc2)] = (zc ++ [(((p6, 128, c6) : Slc2), zb)]).map (·.1) := by simp
              rw [hez] at HS4
              clear hez
              have HQ3 := Lib.hid ((HS4).out.done (cu := (p7, i + 1, c7)) (du := (p8, i + 1, c8)))
              obtain ⟨s0, s1⟩ := (HS4).out.cells
              have hfz : ∀ j, (V4).frozen? ⟨br + 1, j, none⟩ = false := fun j => frozen_of_row _ _ _ _ _ (HS4).out.hb
              refine wpAnyU_one (i := 11) (by kernel_rfl) rfl (fun K hK => ?_)
              rw [if_pos (show Region.wanted _ _ = true from rfl)]
              go_simp
              refine hK.out _ _ (fun h => by cases h) (fun _ => ?_)
              clear hK
              (refine wpAnyU_pure (i := 12) rfl (by kernel_rfl) (by kernel_rfl) (by kernel_rfl) (by rfl) (by exact fun _ _ _ h => h) (Or.inl ⟨by rfl, fun W => by (go_simp; try rfl)⟩) ?_); (try go_frame)
              (simp only [List.getElem_toArray, List.getElem_cons_zero, List.getElem_cons_succ, List.set_cons_zero, List.set_cons_succ])
              refine wpAnyU_one (i := 13) (by kernel_rfl) rfl (fun K hK => ?_)
              rw [if_pos (show Region.wanted _ _ = true from rfl)]
              go_simp
              refine hK.out _ _ (fun h => by cases h) (fun _ => ?_)
              refine wpAnyU_done (by kernel_rfl) ?_ _
              clear hK s0 s1 hfz
              go_wp2_with fail
              go_roundw
              case rel => exact ⟨i + 1, (p7, i + 1, c7), (p8, i + 1, c8), _, _, by omega, by go_num, by rw [List.length_append, hzcl]; rfl, by rw [List.length_append, hdsl]; rfl, HQ3, Lib.hid (by
                rw [List.map_append, HZC.out, List.take_succ_eq_append_getElem (by rw [HTL.out]; exact hin)]
                have h := HTI.out
                rw [List.getElem?_eq_getElem (by rw [HTL.out]; exact hin)] at h
                rw [Option.some.inj h]
                rfl)⟩
              case measure => simp [intOf]; omega
            · rw [if_pos (show Region.wanted _ _ = true from rfl)]
              go_simp
              have hEa : Ext [] V1 (V1.alloc (.cells #[.int .i64 dd] 3)) := (Ext.refl [] _).alloc _
              have HS2 := Lib.hid ((HS1).out.ext0 hEa)
              have HB2 := Lib.hid (one_owI V1 (dd : Int))
              have hEk : Ext [] V1 (V1.alloc (.cells #[.int .i64 dd] 3)) := hEa
              refine hK.out _ _ (fun _ => (HS2).out.cells) (fun _ => ?_)
              clear hK hEa
              revert HS2 HB2 hEk
              obtain ⟨b2, hb2⟩ : ∃ x, x = (V1).heap.size := ⟨_, rfl⟩
              simp only [← hb2]
              clear hb2
              generalize World.alloc _ _ = V2
              intro HS2 HB2 hEk
              have HA2 := Lib.hid (HA1.out.ext0 hEk)
              clear hEk HA1
              refine wpAnyU_one (i := 4) (by kernel_rfl) rfl (fun K hK => ?_)
              rw [if_pos (show Region.wanted _ _ = true from rfl)]
              refine opw_append (s := .tmp 66) (x := .tmp 68) (E := ES) (T := 40) (zero := (none, 0, 0)) (bytes := 24) (v := .slice cv.1 cv.2.1 cv.2.2) (xs := zc.map (·.1)) (ys := [(p6, 128, c6)]) tiS Tryz.underlying119 Tryz.underlying119 rfl rfl rfl (HS2).out.oc (HA2).out.rd (by rw [List.length_map, hzcl]; simp; omega) (by rw [List.length_map, hzcl]; simp; omega) ?_
              intro v7 V3 how7 hE7 hnear7 _
              have HS3 := Lib.hid ((HS2).out.app1 how7 hE7 hnear7)
              obtain ⟨p7, c7, rfl, _⟩ := how7.rd.len_eq
              rw [HLZ.out] at HS3 ⊢
              refine hK.out _ _ (fun _ => (HS3).out.cells) (fun _ => ?_)
              clear hK how7 hnear7
              (refine wpAnyU_pure (i := 10) rfl (by kernel_rfl) (by kernel_rfl) (by kernel_rfl) (by rfl) (by exact fun _ _ _ h => h) (Or.inl ⟨by rfl, fun W => by (go_simp; try rfl)⟩) ?_); (try go_frame)
              (simp only [List.getElem_toArray, List.getElem_cons_zero, List.getElem_cons_succ, List.set_cons_zero, List.set_cons_succ])
              have HB3 := Lib.hid (keepI HB2.out HS2.out.oc hE7)
              clear HB2 hE7
              refine wpAnyU_one (i := 9) (by kernel_rfl) rfl (fun K hK => ?_)
              rw [if_pos (show Region.wanted _ _ = true from rfl)]
              refine opw_append (s := .tmp 71) (x := .tmp 73) (E := EI) (T := 3) (zero := 0) (bytes := 8) (v := .slice dv.1 dv.2.1 dv.2.2) (xs := ds) (ys := [(dd : Int)]) tiI Tryz.underlying22 Tryz.underlying22 rfl rfl rfl (HS3).out.od (HB3).out.rd (by rw [hdsl]; simp; omega) (by rw [hdsl]; simp; omega) ?_
              intro v8 V4 how8 hE8 hnear8 _
              have HS4 := Lib.hid ((HS3).out.app2 how8 hE8 hnear8)
              obtain ⟨p8, c8, rfl, _⟩ := how8.rd.len_eq
              rw [HLD.out] at HS4 ⊢
              refine hK.out _ _ (fun _ => (HS4).out.cells) (fun _ => ?_)
              clear hK how8 hnear8
              have hez : zc.map (·.1) ++ [((p6, 128, c6) : Slc2)] = (zc ++ [(((p6, 128, c6) : Slc2), zb)]).map (·.1) := by simp
              rw [hez] at HS4
              clear hez
              have HQ3 := Lib.hid ((HS4).out.done (cu := (p7, i + 1, c7)) (du := (p8, i + 1, c8)))
              obtain ⟨s0, s1⟩ := (HS4).out.cells
              have hfz : ∀ j, (V4).frozen? ⟨br + 1, j, none⟩ = false := fun j => frozen_of_row _ _ _ _ _ (HS4).out.hb
              refine wpAnyU_one (i := 11) (by kernel_rfl) rfl (fun K hK => ?_)
              rw [if_pos (show Region.wanted _ _ = true from rfl)]
              go_simp
              refine hK.out _ _ (fun h => by cases h) (fun _ => ?_)
              clear hK
              (refine wpAnyU_pure (i := 12) rfl (by kernel_rfl) (by kernel_rfl) (by kernel_rfl) (by rfl) (by exact fun _ _ _ h => h) (Or.inl ⟨by rfl, fun W => by (go_simp; try rfl)⟩) ?_); (try go_frame)
              (simp only [List.getElem_toArray, List.getElem_cons_zero, List.getElem_cons_succ, List.set_cons_zero, List.set_cons_succ])
              refine wpAnyU_one (i := 13) (by kernel_rfl) rfl (fun K hK => ?_)
              rw [if_pos (show Region.wanted _ _ = true from rfl)]
              go_simp
              refine hK.out _ _ (fun h => by cases h) (fun _ => ?_)
              refine wpAnyU_done (by kernel_rfl) ?_ _
              clear hK s0 s1 hfz
              go_wp2_with fail
              go_roundw
              case rel => exact ⟨i + 1, (p7, i + 1, c7), (p8, i + 1, c8), _, _, by omega, by go_num, by rw [List.length_append, hzcl]; rfl, by rw [List.length_append, hdsl]; rfl, HQ3, Lib.hid (by
                rw [List.map_append, HZC.out, List.take_succ_eq_append_getElem (by rw [HTL.out]; exact hin)]
                have h := HTI.out
                rw [List.getElem?_eq_getElem (by rw [HTL.out]; exact hin)] at h
                rw [Option.some.inj h]
                rfl)⟩
              case measure => simp [intOf]; omega
          · rw [if_pos (show Region.wanted _ _ = true from rfl)]
            go_simp
            have hEa : Ext [] V0 (V0.alloc (.cells #[.int .i64 dd] 3)) := (Ext.refl [] _).alloc _
            have HS1 := Lib.hid ((HSD).out.ext0 hEa)
            have HB1 := Lib.hid (one_owI V0 (dd : Int))
            have hEk : Ext [] V0 (V0.alloc (.cells #[.int .i64 dd] 3)) := hEa
            refine hK.out _ _ (fun _ => (HS1).out.cells) (fun _ => ?_)
            clear hK hEa
            revert HS1 HB1 hEk
            obtain ⟨b2, hb2⟩ : ∃ x, x = (V0).heap.size := ⟨_, rfl⟩
            simp only [← hb2]
            clear hb2
            generalize World.alloc _ _ = V1
            intro HS1 HB1 hEk
            refine wpAnyU_one (i := 3) (by kernel_rfl) rfl (fun K hK => ?_)
            rw [if_pos (show Region.wanted _ _ = true from rfl)]
            go_simp
            have hEa : Ext [] V1 (V1.alloc (.cells #[.slice p6 128 c6] 40)) := (Ext.refl [] _).alloc _
            have HS2 := Lib.hid ((HS1).out.ext0 hEa)
            have HA2 := Lib.hid (one_owS V1 (p6, 128, c6))
            have hEk : Ext [] V1 (V1.alloc (.cells #[.slice p6 128 c6] 40)) := hEa
            refine hK.out _ _ (fun _ => (HS2).out.cells) (fun _ => ?_)
            clear hK hEa
            revert HS2 HA2 hEk
            obtain ⟨b1, hb1⟩ : ∃ x, x = (V1).heap.size := ⟨_, rfl⟩
            simp only [← hb1]
            clear hb1
            generalize World.alloc _ _ = V2
            intro HS2 HA2 hEk
            have HB2 := Lib.hid (HB1.out.ext0 hEk)
            clear hEk HB1
            refine wpAnyU_one (i := 4) (by kernel_rfl) rfl (fun K hK => ?_)
            rw [if_pos (show Region.wanted _ _ = true from rfl)]
            refine opw_append (s := .tmp 66) (x := .tmp 68) (E := ES) (T := 40) (zero := (none, 0, 0)) (bytes := 24) (v := .slice cv.1 cv.2.1 cv.2.2) (xs := zc.map (·.1)) (ys := [(p6, 128, c6)]) tiS Tryz.underlying119 Tryz.underlying119 rfl rfl rfl (HS2).out.oc (HA2).out.rd (by rw [List.length_map, hzcl]; simp; omega) (by rw [List.length_map, hzcl]; simp; omega) ?_
            intro v7 V3 how7 hE7 hnear7 _
            have HS3 := Lib.hid ((HS2).out.app1 how7 hE7 hnear7)
            obtain ⟨p7, c7, rfl, _⟩ := how7.rd.len_eq
            rw [HLZ.out] at HS3 ⊢
            refine hK.out _ _ (fun _ => (HS3).out.cells) (fun _ => ?_)
            clear hK how7 hnear7
            (refine wpAnyU_pure (i := 10) rfl (by kernel_rfl) (by kernel_rfl) (by kernel_rfl) (by rfl) (by exact fun _ _ _ h => h) (Or.inl ⟨by rfl, fun W => by (go_simp; try rfl)⟩) ?_); (try go_frame)
            (simp only [List.getElem_toArray, List.getElem_cons_zero, List.getElem_cons_succ, List.set_cons_zero, List.set_cons_succ])
            have HB3 := Lib.hid (keepI HB2.out HS2.out.oc hE7)
            clear HB2 hE7
            refine wpAnyU_one (i := 9) (by kernel_rfl) rfl (fun K hK => ?_)
            rw [if_pos (show Region.wanted _ _ = true from rfl)]
            refine opw_append (s := .tmp 71) (x := .tmp 73) (E := EI) (T := 3) (zero := 0) (bytes := 8) (v := .slice dv.1 dv.2.1 dv.2.2) (xs := ds) (ys := [(dd : Int)]) tiI Tryz.underlying22 Tryz.underlying22 rfl rfl rfl (HS3).out.od (HB3).out.rd (by rw [hdsl]; simp; omega) (by rw [hdsl]; simp; omega) ?_
            intro v8 V4 how8 hE8 hnear8 _
            have HS4 := Lib.hid ((HS3).out.app2 how8 hE8 hnear8)
            obtain ⟨p8, c8, rfl, _⟩ := how8.rd.len_eq
            rw [HLD.out] at HS4 ⊢
            refine hK.out _ _ (fun _ => (HS4).out.cells) (fun _ => ?_)
            clear hK how8 hnear8
            have hez : zc.map (·.1) ++ [((p6, 128, c6) : Slc2)] = (zc ++ [(((p6, 128, c6) : Slc2), zb)]).map (·.1) := by simp
            rw [hez] at HS4
            clear hez
            have HQ3 := Lib.hid ((HS4).out.done (cu := (p7, i + 1, c7)) (du := (p8, i + 1, c8)))
            obtain ⟨s0, s1⟩ := (HS4).out.cells
            have hfz : ∀ j, (V4).frozen? ⟨br + 1, j, none⟩ = false := fun j => frozen_of_row _ _ _ _ _ (HS4).out.hb
            refine wpAnyU_one (i := 11) (by kernel_rfl) rfl (fun K hK => ?_)
            rw [if_pos (show Region.wanted _ _ = true from rfl)]
            go_simp
            refine hK.out _ _ (fun h => by cases h) (fun _ => ?_)
            clear hK
            (refine wpAnyU_pure (i := 12) rfl (by kernel_rfl) (by kernel_rfl) (by kernel_rfl) (by rfl) (by exact fun _ _ _ h => h) (Or.inl ⟨by rfl, fun W => by (go_simp; try rfl)⟩) ?_); (try go_frame)
            (simp only [List.getElem_toArray, List.getElem_cons_zero, List.getElem_cons_succ, List.set_cons_zero, List.set_cons_succ])
            refine wpAnyU_one (i := 13) (by kernel_rfl) rfl (fun K hK => ?_)
            rw [if_pos (show Region.wanted _ _ = true from rfl)]
            go_simp
            refine hK.out _ _ (fun h => by cases h) (fun _ => ?_)
            refine wpAnyU_done (by kernel_rfl) ?_ _
            clear hK s0 s1 hfz
            go_wp2_with fail
            go_roundw
            case rel => exact ⟨i + 1, (p7, i + 1, c7), (p8, i + 1, c8), _, _, by omega, by go_num, by rw [List.length_append, hzcl]; rfl, by rw [List.length_append, hdsl]; rfl, HQ3, Lib.hid (by
              rw [List.map_append, HZC.out, List.take_succ_eq_append_getElem (by rw [HTL.out]; exact hin)]
              have h := HTI.out
              rw [List.getElem?_eq_getElem (by rw [HTL.out]; exact hin)] at h
              rw [Option.some.inj h]
              rfl)⟩
            case measure => simp [intOf]; omega
        · obtain rfl : i = N3 := by omega
          have z2 : ¬ ((i : Int) < (i : Int)) := by omega
          have s0 : wr.cell? ⟨br + 1, 0, none⟩ = some (.slice cv.1 cv.2.1 cv.2.2) := by rw [cell_of_row _ _ 0 _ _ _ HQ.out.hb]; rfl
          have s1 : wr.cell? ⟨br + 1, 1, none⟩ = some (.slice dv.1 dv.2.1 dv.2.2) := by rw [cell_of_row _ _ 1 _ _ _ HQ.out.hb]; rfl
          go_wp2_with (with_reducible refine hold_at (d := 81) ?_)
          have hE6 : Ext [] wr (wr.alloc (.cells #[.slice cv.1 cv.2.1 cv.2.2, .slice dv.1 dv.2.1 dv.2.2] 180)) := (Ext.refl [] wr).alloc _
          have hsq := HQ.out
          have hlt5 : br + 1 ∉ blkL (.slice po q co) := fun h => by have := HO.out.1.lt _ h; have := HBRE.out; omega
          have ho5 : EST.Ow 180 wr (.slice po q co) (ss.map (·.1)) := (HO.out.1.ext0 HEAB.out).ext hsq.ext (fun y hy hy2 => by simp at hy2; subst hy2; exact hlt5 hy)
          have hs5 : ∀ x ∈ ss, StrOk wr B x.1 x.2 := fun x hx => ((HO.out.2.1 x hx).ext HEAB.out (by simp)).ext hsq.ext (fun y hy => by simp at hy; subst hy; rw [tagOf_of HBS.out]; decide)
          have hE5 : Ext [] W1 wr := (hE.trans HEAB.out).trans' hsq.ext (by simp) (fun y hy => .inr (by simp at hy; omega))
          have hnew : StrOk wr B (cv, dv) T := ⟨zc, ds, hsq.oc, hsq.kc, by rw [HZC.out, List.take_of_length_le (by rw [HTL.out]; exact Nat.le_refl _)], hsq.od, by rw [hdsl, HTL.out]⟩
          have HO6 := Lib.hid (ho5.ext0 hE6)
          have HS6 := Lib.hid (fun x hx => (hs5 x hx).ext hE6 (by simp) : ∀ x ∈ ss, _)
          have HN6 := Lib.hid (hnew.ext hE6 (by simp))
          have HE6 := Lib.hid (hE5.trans hE6)
          have hrd6 := one_rdST (T := 180) wr (cv, dv)
          clear hsq hlt5 ho5 hs5 hE5 hnew s0 s1
          refine wpl_of rfl fun K hK => opw_append (s := .tmp 78) (x := .tmp 80) (E := EST) (T := 180) (zero := ((none, 0, 0), (none, 0, 0))) (bytes := 48) (v := .slice po q co) (xs := ss.map (·.1)) (ys := [(cv, dv)]) tiST Tryz.underlying137 Tryz.underlying137 rfl rfl rfl HO6.out hrd6 (by rw [List.length_map, hssl]; simp; omega) (by rw [List.length_map, hssl]; simp; omega) ?_
          intro v7 W7 how7 hE7 hnear7 _
          refine hK _ _ ?_
          clear hK hrd6 hE6
          have htag : ∀ y ∈ blkL (.slice po q co), tagOf (wr.alloc (.cells #[.slice cv.1 cv.2.1 cv.2.2, .slice dv.1 dv.2.1 dv.2.2] 180)) y ≠ some 5 ∧ tagOf (wr.alloc (.cells #[.slice cv.1 cv.2.1 cv.2.2, .slice dv.1 dv.2.1 dv.2.2] 180)) y ≠ some 40 ∧ tagOf (wr.alloc (.cells #[.slice cv.1 cv.2.1 cv.2.2, .slice dv.1 dv.2.1 dv.2.2] 180)) y ≠ some 3 := fun y hy => by
            obtain ⟨c, hc⟩ := HO6.out.tag y hy
            rw [tagOf_of hc]
            decide
          have hall : ∀ x ∈ ss ++ [((cv, dv), T)], StrOk W7 B x.1 x.2 := fun x hx => by
            rcases List.mem_append.1 hx with h | h
            · exact (HS6.out x h).ext hE7 htag
            · simp at h; subst h; exact HN6.out.ext hE7 htag
          have hn7 : ∀ y ∈ blkL v7, W1.heap.size ≤ y := fun y hy => by
            rcases hnear7 y hy with h | h
            · exact HO.out.2.2 y h
            · have := HE6.out.size; omega
          have hE07 : Ext [] W1 W7 := HE6.out.trans' hE7 (by simp) (fun y hy => .inr (HO.out.2.2 y hy))
          obtain ⟨p7, c7, rfl, _⟩ := how7.rd.len_eq
          have hl7 : (ss.map (·.1) ++ [((cv, dv) : Str)]).length = q + 1 := by rw [List.length_append, List.length_map, hssl]; rfl
          rw [hl7] at how7 hn7 ⊢
          have hez : ss.map (·.1) ++ [((cv, dv) : Str)] = (ss ++ [(((cv, dv) : Str), T)]).map (·.1) := by simp
          rw [hez] at how7
          have HO7 := Lib.hid (And.intro how7 (And.intro hall hn7))
          clear how7 hE7 hnear7 htag hall hn7 hl7 hez HO6 HS6 HN6 HE6
          go_wp2_with fail
          go_roundw
          case rel =>
            have hn3 := HN3.out
            have haa := HAA.out
            refine ⟨q + 1, l - M, off + (3 + M), _, zrest, ss ++ [((cv, dv), T)], by omega, by go_num, by omega, by omega, by rw [List.length_append, hssl]; rfl, hE07, ⟨p7, c7, rfl⟩, ?_, Lib.hid ⟨?_, HLAY2.out⟩, HO7, Lib.hid (fun rest h => ?_)⟩
            · have h := HREST.out
              rw [show ((A : Nat) : Int) + (M : Int) + 3 = ((addr + (off + (3 + M)) : Nat) : Int) by omega] at h
              exact Lib.hid h
            · rw [← List.drop_drop, HZ.out.1, HZR.out]
              show (q1 :: q2 :: q3 :: (secsOf P' M ++ zrest)).drop (3 + M) = zrest
              rw [Nat.add_comm 3 M]
              simp only [List.drop_succ_cons]
              rw [List.drop_append_of_le_length (by rw [secsOf_len]; exact Nat.le_refl _), List.drop_of_length_le (by rw [secsOf_len]; exact Nat.le_refl _)]
              rfl
            · have h1 := HL.out _ (HSTR.out rest h)
              rw [List.map_append, List.append_assoc]
              exact h1
          case measure => simp [intOf]; omega
    · have z1 : ¬ ((q : Int) < (nr : Int)) := by omega
      have hl0 : l = 0 := by
        have h := HDR.out
        rw [List.drop_eq_nil_of_le (by have := HNR.out; omega)] at h
        by_cases h0 : l = 0
        · exact h0
        · rw [rowsF_pos k _ l h0] at h; cases h
      subst hl0
      have hlay := HL.out [] (.nil _)
      rw [List.append_nil] at hlay
      have HLY := Lib.hid hlay
      clear hlay
      go_wp2
      go_ret2
      have h1 := HE1.out.size
      exact ⟨_, ss, rfl, HO.out.1, by rw [← HB.out]; exact HO.out.2.1, HLY.out, by omega, fun y hy => Nat.le_trans h1 (HO.out.2.2 y hy), HE1.out.trans hE⟩

end Go.Proofs.YtgfajlaibgbdoaaGreat

