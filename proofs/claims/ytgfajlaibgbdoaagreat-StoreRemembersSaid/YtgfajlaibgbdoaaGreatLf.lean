
import Derived.Test.YtgfajlaibgbdoaaGreatSrC
namespace Go.Proofs.YtgfajlaibgbdoaaGreat
open Go.RowKit

/-! The references' New. -/
def EN : Enc (List UInt8) where
  k := 1
  hk := by decide
  enc x := [.string ⟨x.toArray⟩]
  len _ := rfl
  one _ v hv := by simp at hv; subst hv; rfl
theorem tiN : Ti Tryz.prog EN 9 16 [] := Ti.mk' (z := .string ⟨#[]⟩) (by kernel_rfl) rfl
theorem tiNN : Ti Tryz.prog ES 157 24 (none, 0, 0) := Ti.mk' (z := .slice none 0 0) (by kernel_rfl) rfl

theorem conv_c {W : World} {a : Addr} {c : Nat} {bs : List UInt8} (hv : EB.Rd W (.slice (some a) bs.length c) bs) :
    (convert 40 9 (.slice (some a) bs.length c)).run Tryz.prog W = .ok (.string ⟨bs.toArray⟩) W := by
  rcases hv with ⟨h, _⟩ | ⟨g, o, cap, h, h1, h2, h3⟩
  · cases h
  · cases h
    refine run_convert_bytes_back (P := Tryz.prog) W 40 9 5 ⟨g, o, none⟩ c bs Tryz.underlying40 Tryz.underlying5 Tryz.underlying9 (fun j hj => ?_)
    have e : (⟨g, o, none⟩ : Addr).add j = ⟨g, o + j, none⟩ := by
      simp only [Addr.add]
      split
      · rename_i h; subst h; rfl
      · rfl
    rw [e]
    refine h3 j _ ?_
    rw [flatB, List.getElem?_map, List.getElem?_eq_getElem hj]
    rfl

theorem one_rdN {T : TypeId} (W0 : World) (x : List UInt8) : EN.Rd (W0.alloc (.cells #[.string ⟨x.toArray⟩] T)) (.slice (some ⟨W0.heap.size, 0, none⟩) 1 1) [x] := by
  refine .inr ⟨W0.heap.size, 0, 1, rfl, Nat.le_refl _, by simp, fun j u hj => ?_⟩
  rw [cell_of_row _ W0.heap.size _ _ _ _ (heap_alloc_new _ _)]
  match j, hj with
  | 0, hj => exact hj
  | j + 1, hj => simp [EN, Enc.flat] at hj

set_option maxRecDepth 100000 in
set_option maxHeartbeats 1000000 in
theorem r1blank_c (n : Nat) (w : World) (hn : n ≤ 2000) : Calls Tryz.prog 73 #[.int .i64 n] w fun e w' => ∃ v, e = .returned v ∧ EN.Ow 9 w' v (List.replicate n (List.replicate 128 0)) ∧ (∀ y ∈ blkL v, w.heap.size ≤ y) ∧ Ext [] w w' := by
  obtain ⟨Z, hZ⟩ : ∃ Z : List UInt8, Z = List.replicate 128 0 := ⟨_, rfl⟩
  have hZl : Z.length = 128 := by rw [hZ]; simp
  have hmk : ∀ W : World, (Instr.makeSlice 40 (.int .i64 128) (.int .i64 128)).run Tryz.prog W = .ok (.slice (some ⟨W.heap.size, 0, none⟩) 128 128) (W.alloc (.cells (EB.flat Z).toArray 5)) := fun W => by rw [hZ]; exact make_bytes 128 128 (by omega) (by omega) W
  have hcv : (convert 40 9 (.slice (some ⟨w.heap.size, 0, none⟩) 128 128)).run Tryz.prog (w.alloc (.cells (EB.flat Z).toArray 5)) = .ok (.string ⟨Z.toArray⟩) (w.alloc (.cells (EB.flat Z).toArray 5)) := by
    have h : EB.Rd (w.alloc (.cells (EB.flat Z).toArray 5)) (.slice (some ⟨w.heap.size, 0, none⟩) Z.length 128) Z := .inr ⟨w.heap.size, 0, 128, rfl, by omega, by simp, fun j u hj => by rw [cell_of_row _ _ _ _ _ _ (heap_alloc_new w _)]; simp at hj ⊢; exact hj⟩
    have h2 := conv_c h
    rw [hZl] at h2
    exact h2
  rw [← hZ]
  have hEa : Ext [] w (w.alloc (.cells (EB.flat Z).toArray 5)) := (Ext.refl [] w).alloc _
  clear hZ hZl
  go_enter Tryz.func73, Tryz.ntmps73
  go_wp2_with fail
  revert hEa
  generalize World.alloc _ _ = W0
  intro hEa
  clear hmk hcv
  go_loopw [4, 5] (fun ov iv wr => ∃ q : Nat, q ≤ n ∧ iv = .int .i64 q ∧ Ext [] W0 wr ∧ Hid (EN.Ow 9 wr ov (List.replicate q Z) ∧ ∀ y ∈ blkL ov, W0.heap.size ≤ y)) (fun _ iv _ => n - (intOf iv).toNat)
  case atStart => exact ⟨0, Nat.zero_le _, rfl, Ext.refl _ _, .inl ⟨rfl, rfl⟩, by simp [blkL]⟩
  case round =>
    obtain ⟨q, hq, rfl, hE, HO⟩ := hrel
    by_cases hlt : q < n
    · have z1 : (q : Int) < (n : Int) := by omega
      obtain ⟨pv, cv, rfl, _⟩ := HO.out.1.rd.len_eq
      rw [List.length_replicate] at HO ⊢
      go_wp2_with (with_reducible refine hold_at (d := 16) ?_)
      refine wpl_of rfl fun K hK => opw_append (E := EN) (T := 9) (zero := []) (bytes := 16) (v := .slice pv q cv) (xs := List.replicate q Z) (ys := [Z]) tiN Tryz.underlying157 Tryz.underlying157 rfl rfl rfl (HO.out.1.ext0 ((Ext.refl [] _).alloc _)) (one_rdN _ _) (by simp; omega) (by simp; omega) ?_
      intro v7 W7 how7 hE7 hnear7 _
      refine hK _ _ ?_
      clear hK
      have hw7 : Ext [] W0 W7 := (hE.alloc _).trans' hE7 (by simp) (fun y hy => .inr (HO.out.2 y hy))
      have hn7 : ∀ y ∈ blkL v7, W0.heap.size ≤ y := fun y hy => by
        rcases hnear7 y hy with h | h
        · exact HO.out.2 y h
        · have := hE.size; simp at h; omega
      have how7' : EN.Ow 9 W7 v7 (List.replicate (q + 1) Z) := by rw [List.replicate_succ']; exact how7
      have HO7 := Lib.hid (And.intro how7' hn7)
      clear how7 how7' hE7 hnear7 hn7
      go_wp2_with fail
      go_roundw
      case rel => exact ⟨q + 1, by omega, by go_num, hw7, HO7⟩
      case measure => simp [intOf]; omega
    · obtain rfl : q = n := by omega
      have z1 : ¬ ((q : Int) < (q : Int)) := by omega
      go_wp2
      go_ret
      exact ⟨_, rfl, HO.out.1, fun y hy => Nat.le_trans hEa.size (HO.out.2 y hy), hEa.trans hE⟩

end Go.Proofs.YtgfajlaibgbdoaaGreat

namespace Go.Proofs.YtgfajlaibgbdoaaGreat
open Go.RowKit

def r1Row (p : Option Addr) (n c : Nat) (lv : Value) : Array Value := #[.slice p n c, lv, .slice none 0 0, .bool false, .int .i64 (-1)]
/-- the reference's rack, as far as its shape. -/
def R1 (w : World) (B b D S : Nat) : Prop := ∃ p c lv xs, w.heap[b]? = some (.cells (r1Row p D c lv) 156 (0, 0)) ∧ ES.Ow 157 w (.slice p D c) xs ∧ xs.length = D ∧ (∀ x ∈ xs, x.2.1 = S) ∧ B ≤ b ∧ ∀ y ∈ blkL (.slice p D c), B ≤ y
theorem R1.ext0 {w w' : World} {B b D S : Nat} (h : R1 w B b D S) (he : Ext [] w w') : R1 w' B b D S := by
  obtain ⟨p, c, lv, xs, h1, h2, h3, h4, h5, h6⟩ := h
  exact ⟨p, c, lv, xs, he.blk h1 (by simp), h2.ext0 he, h3, h4, h5, h6⟩

set_option maxRecDepth 100000 in
set_option maxHeartbeats 1600000 in
theorem r1new_c (D S : Nat) (w : World) (hD1 : 1 ≤ D) (hD : D ≤ 16) (hS1 : 1 ≤ S) (hS : S ≤ 2000) :
    Calls Tryz.prog 36 #[.int .i64 D, .int .i64 S] w fun e w' => ∃ b, e = .returned (.tuple #[.pointer (some ⟨b, 0, none⟩), .int .i64 0]) ∧ R1 w' w.heap.size b D S ∧ Ext [] w w' := by
  have m1 : ¬ ((D : Int) < 1) := by omega
  have m2 : ¬ ((16 : Int) < (D : Int)) := by omega
  have m3 : ¬ ((S : Int) < 1) := by omega
  have m4 : ¬ ((2000 : Int) < (S : Int)) := by omega
  go_enter Tryz.func36, Tryz.ntmps36
  go_wp2_with (with_reducible refine hold_at (d := 23) ?_)
  refine wpl_of rfl fun K hK => ?_
  go_simp
  rw [make_of (P := Tryz.prog) tiBo rfl rfl Tryz.underlying56 D D (by omega) (by omega) (by omega)]
  refine hK _ _ ?_
  clear hK
  have hEa := (Ext.refl [] w).alloc (.cells (EBo.flat (List.replicate D false)).toArray 4)
  obtain ⟨gg, hge⟩ : ∃ g, g = w.heap.size := ⟨_, rfl⟩
  simp only [← hge]
  have lg : w.heap.size ≤ gg := by omega
  revert hEa
  generalize World.alloc _ _ = W1
  intro hEa
  clear hge
  go_wp2_with fail
  have hb := heap_alloc_new W1 (.cells (r1Row none 0 0 (.slice (some ⟨gg, 0, none⟩) D D)) 156)
  have hEb := hEa.alloc (.cells (r1Row none 0 0 (.slice (some ⟨gg, 0, none⟩) D D)) 156)
  have lb := hEa.size
  obtain ⟨b, hbe⟩ : ∃ g, g = W1.heap.size := ⟨_, rfl⟩
  simp only [r1Row] at hb hEb
  simp only [← hbe] at hb lb ⊢
  revert hEb hb
  generalize World.alloc _ _ = W2
  intro hEb hb
  have HB := Lib.hid hb
  clear hEa hb hbe
  go_loopw [7] (fun iv wr => ∃ q : Nat, q ≤ D ∧ iv = .int .i64 q ∧ Ext [] w wr ∧ Hid (∃ p c xs, wr.heap[b]? = some (.cells (r1Row p q c (.slice (some ⟨gg, 0, none⟩) D D)) 156 (0, 0)) ∧ ES.Ow 157 wr (.slice p q c) xs ∧ xs.length = q ∧ (∀ x ∈ xs, x.2.1 = S) ∧ ∀ y ∈ blkL (.slice p q c), w.heap.size ≤ y)) (fun iv _ => D - (intOf iv).toNat)
  case atStart => exact ⟨0, by omega, rfl, hEb, Lib.hid ⟨none, 0, [], HB.out, .inl ⟨rfl, rfl⟩, rfl, by simp, by simp [blkL]⟩⟩
  case round =>
    obtain ⟨q, hq, rfl, hE, HR⟩ := hrel
    by_cases hlt : q < D
    · have z1 : (q : Int) < (D : Int) := by omega
      obtain ⟨p, c, xs, h1, h2, h3, h4, h5⟩ := HR.out
      have c0 : wr.cell? ⟨b, 0, none⟩ = some (.slice p q c) := by rw [cell_of_row wr b 0 _ _ _ h1]; rfl
      have H1 := Lib.hid h1
      have H2 := Lib.hid h2
      have H3 := Lib.hid h3
      have H4 := Lib.hid h4
      have H5 := Lib.hid h5
      clear h1 h2 h3 h4 h5
      go_wp2_with fail
      have hD' := (Ext.refl [] wr).drew
      refine wp_region_u (fun W => W.cell? ⟨b, 0, none⟩ = some (.slice p q c)) (fun i => decide (i < 8) && !(i == 0)) (by kernel_rfl) (hD'.cell c0 (by simp)) (fun hSS => ?_)
      (refine wpAnyU_pure (i := 0) rfl (by kernel_rfl) (by kernel_rfl) (by kernel_rfl) (by rfl) (by exact fun _ _ _ h => h) (Or.inl ⟨by rfl, fun W => by (go_simp; try rfl)⟩) ?_); (try go_frame)
      (refine wpAnyU_take (i := 1) rfl (by kernel_rfl) (by kernel_rfl) (by kernel_rfl) (by kernel_rfl) (by exact fun _ _ _ h => h) (by assumption) (Or.inl ⟨by rfl, fun W hW => by (have hWW := hW; clear hW; go_split_ands; go_simp; try rfl)⟩) ?_); (try go_frame)
      (refine wpAnyU_take (i := 2) rfl (by kernel_rfl) (by kernel_rfl) (by kernel_rfl) (by kernel_rfl) (by exact fun _ _ _ h => h) (by assumption) (Or.inl ⟨by rfl, fun W hW => by (have hWW := hW; clear hW; go_split_ands; go_simp; try rfl)⟩) ?_); (try go_frame)
      (refine wpAnyU_take (i := 3) rfl (by kernel_rfl) (by kernel_rfl) (by kernel_rfl) (by kernel_rfl) (by exact fun _ _ _ h => h) (by assumption) (Or.inl ⟨by rfl, fun W hW => by (have hWW := hW; clear hW; go_split_ands; go_simp; try rfl)⟩) ?_); (try go_frame)
      (refine wpAnyU_take (i := 4) rfl (by kernel_rfl) (by kernel_rfl) (by kernel_rfl) (by kernel_rfl) (by exact fun _ _ _ h => h) (by assumption) (Or.inl ⟨by rfl, fun W hW => by (have hWW := hW; clear hW; go_split_ands; go_simp; try rfl)⟩) ?_); (try go_frame)
      (refine wpAnyU_take (i := 5) rfl (by kernel_rfl) (by kernel_rfl) (by kernel_rfl) (by kernel_rfl) (by exact fun _ _ _ h => h) (by assumption) (Or.inl ⟨by rfl, fun W hW => by (have hWW := hW; clear hW; go_split_ands; go_simp; try rfl)⟩) ?_); (try go_frame)
      refine wpAnyU_one (i := 6) (by kernel_rfl) rfl (fun K hK => ?_)
      (try simp only [Act.put, List.getElem_toArray, List.getElem_cons_zero, List.getElem_cons_succ, List.setIfInBounds_toArray, List.set_cons_zero, List.set_cons_succ]); rw [if_pos (show Region.wanted _ _ = true from rfl)]
      go_simp
      refine (r1blank_c S _ hS).mono ?_
      rintro e W5 ⟨v5, rfl, how5, hn5, hE5⟩
      have s5 := hE5.cell hSS (by simp)
      have hE05 := hD'.trans hE5
      obtain ⟨p5, c5, rfl, _⟩ := how5.rd.len_eq
      rw [List.length_replicate] at how5 ⊢
      refine hK.out _ _ (fun _ => s5) (fun _ => ?_)
      clear hK hSS
      refine wpAnyU_one (i := 7) (by kernel_rfl) rfl (fun K hK => ?_)
      (try simp only [Act.put, List.getElem_toArray, List.getElem_cons_zero, List.getElem_cons_succ, List.setIfInBounds_toArray, List.set_cons_zero, List.set_cons_succ]); rw [if_pos (show Region.wanted _ _ = true from rfl)]
      go_simp
      have hEa : Ext [] W5 (W5.alloc (.cells #[.slice p5 S c5] 157)) := (Ext.refl [] W5).alloc _
      have hrd := one_rdS (T := 157) W5 (p5, S, c5)
      have s6 := hEa.cell s5 (by simp)
      have h26 := H2.out.ext0 (hE05.trans hEa)
      have hb6 := (hE05.trans hEa).blk H1.out (by simp)
      have hE06 := hE.trans (hE05.trans hEa)
      have H26 := Lib.hid h26
      have HB6 := Lib.hid hb6
      have HRD := Lib.hid hrd
      have HE06 := Lib.hid hE06
      have hsz6 := (hE05.trans hEa).size
      refine hK.out _ _ (fun _ => s6) (fun _ => ?_)
      clear hK s5 h26 hb6 hrd hE06 hEa hE05 hE5 hD' how5 hn5
      revert s6 H26 HB6 HRD HE06 hsz6
      generalize World.alloc _ _ = W6
      intro s6 H26 HB6 HRD HE06 hsz6
      refine wpAnyU_one (i := 8) (by kernel_rfl) rfl (fun K hK => ?_)
      (try simp only [Act.put, List.getElem_toArray, List.getElem_cons_zero, List.getElem_cons_succ, List.setIfInBounds_toArray, List.set_cons_zero, List.set_cons_succ]); rw [if_pos (show Region.wanted _ _ = true from rfl)]
      refine opw_append (s := .tmp 35) (x := .tmp 38) (E := ES) (T := 157) (zero := (none, 0, 0)) (bytes := 24) (v := .slice p q c) (xs := xs) (ys := [(p5, S, c5)]) tiNN Tryz.underlying153 Tryz.underlying153 rfl rfl rfl H26.out HRD.out (by rw [H3.out]; simp; omega) (by rw [H3.out]; simp; omega) ?_
      intro v7 W7 how7 hE7 hnear7 _
      have hbn : ∀ y ∈ blkL (.slice p q c), y ≠ b := H26.out.ne HB6.out (by decide)
      have hb7 := hE7.blk HB6.out (fun h => hbn b h rfl)
      have hfz : ∀ j, W7.frozen? ⟨b, j, none⟩ = false := fun j => frozen_of_row _ _ _ _ _ hb7
      have s7 : W7.cell? ⟨b, 0, none⟩ = some (.slice p q c) := by rw [cell_of_row W7 b 0 _ _ _ hb7]; rfl
      have hE07 : Ext [] w W7 := HE06.out.trans' hE7 (by simp) (fun y hy => .inr (H5.out y hy))
      have hn7 : ∀ y ∈ blkL v7, w.heap.size ≤ y := fun y hy => by
        rcases hnear7 y hy with h | h
        · exact H5.out y h
        · have := HE06.out.size; omega
      obtain ⟨p7, c7, rfl, _⟩ := how7.rd.len_eq
      have hl7 : (xs ++ [(p5, S, c5)]).length = q + 1 := by simp [H3.out]
      rw [hl7] at how7 hn7 ⊢
      have HL7 := Lib.hid hl7
      have HB7 := Lib.hid hb7
      have HO7 := Lib.hid how7
      have HN7 := Lib.hid hn7
      have HE07 := Lib.hid hE07
      have HNE := Lib.hid (how7.ne hb7 (by decide))
      refine hK.out _ _ (fun h => by cases h) (fun _ => ?_)
      clear hK hb7 how7 hE07 hn7 hE7 hnear7 hbn hl7 s6
      (refine wpAnyU_pure (i := 9) rfl (by kernel_rfl) (by kernel_rfl) (by kernel_rfl) (by rfl) (by exact fun _ _ _ h => h) (Or.inl ⟨by rfl, fun W => by (go_simp; try rfl)⟩) ?_); (try go_frame)
      (simp only [List.getElem_toArray, List.getElem_cons_zero, List.getElem_cons_succ, List.set_cons_zero, List.set_cons_succ])
      (refine wpAnyU_pure (i := 10) rfl (by kernel_rfl) (by kernel_rfl) (by kernel_rfl) (by rfl) (by exact fun _ _ _ h => h) (Or.inl ⟨by rfl, fun W => by (go_simp; try rfl)⟩) ?_); (try go_frame)
      (simp only [List.getElem_toArray, List.getElem_cons_zero, List.getElem_cons_succ, List.set_cons_zero, List.set_cons_succ])
      refine wpAnyU_one (i := 11) (by kernel_rfl) rfl (fun K hK => ?_)
      rw [if_pos (show Region.wanted _ _ = true from rfl)]
      go_simp
      refine hK.out _ _ (fun h => by cases h) (fun _ => ?_)
      refine wpAnyU_done (by kernel_rfl) ?_ _
      clear hK hfz s7
      go_wp2_with fail
      go_roundw
      case rel =>
        have hE8 : Ext [b] W7 (W7.setCell ⟨b, 0, none⟩ (.slice p7 (q + 1) c7)) := (Ext.refl [b] W7).setCell (.inl (by simp)) _
        have hb8 := heap_setCell_same W7 b 0 _ _ (.slice p7 (q + 1) c7) HB7.out
        refine ⟨q + 1, by omega, by go_num, HE07.out.trans' hE8 (by simp) (fun y hy => .inr (by simp at hy; omega)), Lib.hid ⟨p7, c7, _, hb8, HO7.out.ext hE8 (fun y hy => by simpa using HNE.out y hy), HL7.out, fun x hx => ?_, HN7.out⟩⟩
        rcases List.mem_append.1 hx with h | h
        · exact H4.out x h
        · simp at h; subst h; rfl
      case measure => simp [intOf]; omega
    · obtain rfl : q = D := by omega
      have z1 : ¬ ((q : Int) < (q : Int)) := by omega
      go_wp2
      go_ret2
      obtain ⟨p, c, xs, h1, h2, h3, h4, h5⟩ := HR.out
      exact ⟨b, rfl, ⟨p, c, _, xs, h1, h2, h3, h4, by omega, h5⟩, hE⟩

end Go.Proofs.YtgfajlaibgbdoaaGreat

