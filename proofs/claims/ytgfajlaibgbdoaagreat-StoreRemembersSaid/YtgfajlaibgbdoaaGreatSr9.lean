
import Derived.Test.YtgfajlaibgbdoaaGreatSrC
import Derived.Test.YtgfajlaibgbdoaaGreatSpK
namespace Go.Proofs.YtgfajlaibgbdoaaGreat
open Go.RowKit

def GivePostS (y : Sy) (v : Sv) (pa size : Nat) (w : World) (e : Ending) (w' : World) : Prop :=
  ∃ err v', e = .returned (.int .i64 err) ∧ SyR w' y v' ∧ SyF y w w' ∧ v'.ws = v.ws ∧ GiveRel v.spc pa (costF y.k size) v'.spc err ∧ ((err ≠ 0 ∧ v'.st = v.st) ∨ (err = 0 ∧ v'.st = { v.st with mem := dropA v.st.mem pa }))

set_option maxRecDepth 100000 in
set_option maxHeartbeats 1600000 in
theorem stgive_c (y : Sy) (v : Sv) (pa size : Nat) (birth : Int) (sum : List UInt8) (w : World) (h : SyR w y v) (h1 : 1 ≤ size) (h2 : size ≤ 1024) (hpa : pa ≤ 1000000) :
    Calls Tryz.prog 18 #[.pointer (some ⟨y.b, 0, none⟩), pagg pa size birth sum] w (GivePostS y v pa size w) := by
  have hEa : Ext [] w (w.alloc (.cells #[.int .i64 pa, .int .i64 size, .int .i64 birth, .string ⟨sum.toArray⟩] 37)) := (Ext.refl [] w).alloc _
  have hb4 := heap_alloc_new w (.cells #[.int .i64 pa, .int .i64 size, .int .i64 birth, .string ⟨sum.toArray⟩] 37)
  obtain ⟨c0, c1, _⟩ := (h.st.ext0 hEa).cells
  have HS := Lib.hid (h.ext0 hEa)
  have HB4 := Lib.hid hb4
  have hcb := costF_bd y.k size h1 h2
  obtain ⟨q0, q1, q2, q3, _⟩ := cells4 hb4
  rw [pagg]
  clear h hb4
  go_enter Tryz.func18, Tryz.ntmps18
  go_wp2_with fail
  revert hEa c0 c1 HS HB4 q0 q1 q2 q3
  generalize World.alloc _ _ = W0
  obtain ⟨bp, hbp⟩ : ∃ b, b = w.heap.size := ⟨_, rfl⟩
  simp only [← hbp]
  clear hbp
  intro hEa c0 c1 HS HB4 q0 q1 q2 q3
  have hD := (Ext.refl [] W0).drew
  refine wp_region_u (fun W => W.cell? ⟨y.b, 0, none⟩ = some (.pointer (some ⟨y.a, 0, none⟩)) ∧ W.cell? ⟨bp, 1, none⟩ = some (.int .i64 size)) (fun i => i == 3 || i == 5) (by kernel_rfl) ⟨hD.cell c0 (by simp), hD.cell q1 (by simp)⟩ (fun hS => ?_)
  (refine wpAnyU_pure (i := 0) rfl (by kernel_rfl) (by kernel_rfl) (by kernel_rfl) (by rfl) (by exact fun _ _ _ h => h) (Or.inl ⟨by rfl, fun W => by (go_simp; try rfl)⟩) ?_); (try go_frame)
  (refine wpAnyU_pure (i := 1) rfl (by kernel_rfl) (by kernel_rfl) (by kernel_rfl) (by rfl) (by exact fun _ _ _ h => h) (Or.inl ⟨by rfl, fun W => by (go_simp; try rfl)⟩) ?_); (try go_frame)
  (refine wpAnyU_pure (i := 2) rfl (by kernel_rfl) (by kernel_rfl) (by kernel_rfl) (by rfl) (by exact fun _ _ _ h => h) (Or.inl ⟨by rfl, fun W => by (go_simp; try rfl)⟩) ?_); (try go_frame)
  (refine wpAnyU_pure (i := 4) rfl (by kernel_rfl) (by kernel_rfl) (by kernel_rfl) (by rfl) (by exact fun _ _ _ h => h) (Or.inl ⟨by rfl, fun W => by (go_simp; try rfl)⟩) ?_); (try go_frame)
  (refine wpAnyU_take (i := 3) rfl (by kernel_rfl) (by kernel_rfl) (by kernel_rfl) (by kernel_rfl) (by exact fun _ _ _ h => h) (by assumption) (Or.inl ⟨by rfl, fun W hW => by (have hWW := hW; clear hW; go_split_ands; go_simp; try rfl)⟩) ?_); (try go_frame)
  (refine wpAnyU_take (i := 5) rfl (by kernel_rfl) (by kernel_rfl) (by kernel_rfl) (by kernel_rfl) (by exact fun _ _ _ h => h) (by assumption) (Or.inl ⟨by rfl, fun W hW => by (have hWW := hW; clear hW; go_split_ands; go_simp; try rfl)⟩) ?_); (try go_frame)
  refine wpAnyU_one (i := 6) (by kernel_rfl) rfl (fun K hK => ?_)
  (try simp only [Act.put, List.getElem_toArray, List.getElem_cons_zero, List.getElem_cons_succ, List.setIfInBounds_toArray, List.set_cons_zero, List.set_cons_succ]); rw [if_pos (show Region.wanted _ _ = true from rfl)]
  go_simp
  refine (arcost_c y.a y.r y.k y.F size _ (HS.out.ar.ext0 hD) (by have := HS.out.k8; omega) h1 h2).mono ?_
  rintro e W1 ⟨rfl, hE1⟩
  have hE01 := hD.trans hE1
  have HS1 := Lib.hid (HS.out.ext0 hE01)
  have HB41 := Lib.hid (hE01.blk HB4.out (by simp))
  have c11 := hE01.cell c1 (by simp)
  have q01 := hE01.cell q0 (by simp)
  have hEw := hEa.trans hE01
  obtain ⟨C, hC⟩ : ∃ C, C = costF y.k size := ⟨_, rfl⟩
  rw [← hC] at hcb ⊢
  have HC := Lib.hid hC
  refine hK.out _ _ (fun h => by cases h) (fun _ => ?_)
  clear hK hC HS HB4 c0 c1 q0 q1 q2 q3 hS hE1 hE01 hEa hD
  (refine wpAnyU_pure (i := 7) rfl (by kernel_rfl) (by kernel_rfl) (by kernel_rfl) (by rfl) (by exact fun _ _ _ h => h) (Or.inl ⟨by rfl, fun W => by (go_simp; try rfl)⟩) ?_); (try go_frame)
  (refine wpAnyU_pure (i := 8) rfl (by kernel_rfl) (by kernel_rfl) (by kernel_rfl) (by rfl) (by exact fun _ _ _ h => h) (Or.inl ⟨by rfl, fun W => by (go_simp; try rfl)⟩) ?_); (try go_frame)
  (refine wpAnyU_pure (i := 9) rfl (by kernel_rfl) (by kernel_rfl) (by kernel_rfl) (by rfl) (by exact fun _ _ _ h => h) (Or.inl ⟨by rfl, fun W => by (go_simp; try rfl)⟩) ?_); (try go_frame)
  (refine wpAnyU_pure (i := 10) rfl (by kernel_rfl) (by kernel_rfl) (by kernel_rfl) (by rfl) (by exact fun _ _ _ h => h) (Or.inl ⟨by rfl, fun W => by (go_simp; try rfl)⟩) ?_); (try go_frame)
  (simp only [List.getElem_toArray, List.getElem_cons_zero, List.getElem_cons_succ, List.set_cons_zero, List.set_cons_succ])
  (refine wpAnyU_pure (i := 11) rfl (by kernel_rfl) (by kernel_rfl) (by kernel_rfl) (by rfl) (by exact fun _ _ _ h => h) (Or.inl ⟨by rfl, fun W => by (go_simp; try rfl)⟩) ?_); (try go_frame)
  (simp only [List.getElem_toArray, List.getElem_cons_zero, List.getElem_cons_succ, List.set_cons_zero, List.set_cons_succ])
  refine wpAnyU_done (by kernel_rfl) ?_ _
  go_wp2_with fail
  have hD := (Ext.refl [] W1).drew
  refine wp_region_u (fun W => W.cell? ⟨y.b, 1, none⟩ = some (.pointer (some ⟨y.sp, 0, none⟩)) ∧ W.cell? ⟨bp, 0, none⟩ = some (.int .i64 pa)) (fun i => i == 3 || i == 5) (by kernel_rfl) ⟨hD.cell c11 (by simp), hD.cell q01 (by simp)⟩ (fun hS => ?_)
  (refine wpAnyU_pure (i := 0) rfl (by kernel_rfl) (by kernel_rfl) (by kernel_rfl) (by rfl) (by exact fun _ _ _ h => h) (Or.inl ⟨by rfl, fun W => by (go_simp; try rfl)⟩) ?_); (try go_frame)
  (refine wpAnyU_pure (i := 1) rfl (by kernel_rfl) (by kernel_rfl) (by kernel_rfl) (by rfl) (by exact fun _ _ _ h => h) (Or.inl ⟨by rfl, fun W => by (go_simp; try rfl)⟩) ?_); (try go_frame)
  (refine wpAnyU_pure (i := 2) rfl (by kernel_rfl) (by kernel_rfl) (by kernel_rfl) (by rfl) (by exact fun _ _ _ h => h) (Or.inl ⟨by rfl, fun W => by (go_simp; try rfl)⟩) ?_); (try go_frame)
  (refine wpAnyU_pure (i := 4) rfl (by kernel_rfl) (by kernel_rfl) (by kernel_rfl) (by rfl) (by exact fun _ _ _ h => h) (Or.inl ⟨by rfl, fun W => by (go_simp; try rfl)⟩) ?_); (try go_frame)
  (refine wpAnyU_pure (i := 6) rfl (by kernel_rfl) (by kernel_rfl) (by kernel_rfl) (by rfl) (by exact fun _ _ _ h => h) (Or.inl ⟨by rfl, fun W => by (go_simp; try rfl)⟩) ?_); (try go_frame)
  (refine wpAnyU_take (i := 3) rfl (by kernel_rfl) (by kernel_rfl) (by kernel_rfl) (by kernel_rfl) (by exact fun _ _ _ h => h) (by assumption) (Or.inl ⟨by rfl, fun W hW => by (have hWW := hW; clear hW; go_split_ands; go_simp; try rfl)⟩) ?_); (try go_frame)
  (refine wpAnyU_take (i := 5) rfl (by kernel_rfl) (by kernel_rfl) (by kernel_rfl) (by kernel_rfl) (by exact fun _ _ _ h => h) (by assumption) (Or.inl ⟨by rfl, fun W hW => by (have hWW := hW; clear hW; go_split_ands; go_simp; try rfl)⟩) ?_); (try go_frame)
  refine wpAnyU_one (i := 7) (by kernel_rfl) rfl (fun K hK => ?_)
  (try simp only [Act.put, List.getElem_toArray, List.getElem_cons_zero, List.getElem_cons_succ, List.setIfInBounds_toArray, List.set_cons_zero, List.set_cons_succ]); rw [if_pos (show Region.wanted _ _ = true from rfl)]
  go_simp
  refine (give_c y.sp v.spc pa C _ (HS1.out.sp.ext0 hD) HS1.out.spi (by omega) (by omega) (by omega) (by omega)).mono ?_
  rintro e W2 ⟨s', err, rfl, hr2, hi2, hE2, hrel⟩
  have hcl : s'.cells = v.spc.cells := by
    rcases hrel with ⟨_, rfl, _⟩ | ⟨_, _, rfl, _⟩ | ⟨_, _, _, hg⟩
    · rfl
    · rfl
    · exact hg.cells
  have hs2 := (HS1.out.ext0 hD).onSp hE2 hr2 hi2 hcl
  have hF2 := (SyF.of0 (hEw.trans hD) : SyF y w W1.drew).trans (SyF.sp hE2)
  have hb42 := SyF.blk (HS1.out.ext0 hD) (SyF.sp hE2) (hD.blk HB41.out (by simp)) (by decide)
  obtain ⟨q0, _, _, _, _⟩ := cells4 hb42
  have HS2 := Lib.hid hs2
  have HF2 := Lib.hid hF2
  have HREL := Lib.hid hrel
  refine hK.out _ _ (fun h => by cases h) (fun _ => ?_)
  clear hK hs2 hF2 hb42 hrel hcl hr2 hi2 hE2 hS hD HS1 HB41 c11 q01 hEw
  (refine wpAnyU_pure (i := 8) rfl (by kernel_rfl) (by kernel_rfl) (by kernel_rfl) (by rfl) (by exact fun _ _ _ h => h) (Or.inl ⟨by rfl, fun W => by (go_simp; try rfl)⟩) ?_); (try go_frame)
  refine wpAnyU_done (by kernel_rfl) ?_ _
  by_cases he : err = 0
  · subst he
    go_wp2_with fail
    refine (forget_c y.b y.a y.sp v.st pa _ HS2.out.st (by have h := HS2.out.mem; simp only at h; omega)).mono ?_
    rintro e W3 ⟨rfl, hst3, hE3⟩
    have hml : (dropA v.st.mem pa).length ≤ 64 := by
      have h3 : (dropA v.st.mem pa).length ≤ v.st.mem.length := List.length_filter_le _ _
      have h := HS2.out.mem
      simp only at h
      omega
    have hs3 := HS2.out.onSt hE3 hst3 hml
    have HS3 := Lib.hid hs3
    have HF3 := Lib.hid (HF2.out.trans (SyF.st hE3))
    clear hst3 hE3 hml hs3 q0
    go_wp2
    go_ret
    exact ⟨0, ⟨_, v.ws, s'⟩, rfl, HS3.out, HF3.out, rfl, by rw [← HC.out]; exact HREL.out, .inr ⟨rfl, rfl⟩⟩
  · have hne : (err == 0) = false := beq_eq_false_iff_ne.2 he
    have hne2 : (err != 0) = true := by simpa using he
    clear q0
    go_wp2
    go_ret
    exact ⟨err, _, rfl, HS2.out, HF2.out, rfl, by rw [← HC.out]; exact HREL.out, .inl ⟨he, rfl⟩⟩

end Go.Proofs.YtgfajlaibgbdoaaGreat
