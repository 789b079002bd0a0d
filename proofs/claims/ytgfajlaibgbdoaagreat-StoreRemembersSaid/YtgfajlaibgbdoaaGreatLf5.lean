
import Derived.Test.YtgfajlaibgbdoaaGreatLfB
import Derived.Test.YtgfajlaibgbdoaaGreatSr8
import Derived.Lib.SlBytesConst
namespace Go.Proofs.YtgfajlaibgbdoaaGreat
open Go.RowKit

theorem RoomR.ext0 {w w' : World} {x : Nat} {y : Sy} {v : Sv} (h : RoomR w x y v) (he : Ext [] w w') : RoomR w' x y v := by
  obtain ⟨rb, h1, h2⟩ := h
  exact ⟨rb, he.blk h1 (by simp), h2.ext0 he⟩
theorem RoomR.cell {w : World} {x : Nat} {y : Sy} {v : Sv} (h : RoomR w x y v) : w.cell? ⟨x, 1, none⟩ = some (.pointer (some ⟨y.b, 0, none⟩)) := by
  obtain ⟨rb, h1, _⟩ := h
  rw [cell_of_row w x 1 _ _ _ h1]; rfl
/-- the store is changed. -/
theorem RoomR.step {w w' : World} {x : Nat} {y : Sy} {v v' : Sv} (h : RoomR w x y v) (hs : SyR w' y v') (hf : SyF y w w') : RoomR w' x y v' := by
  obtain ⟨rb, h1, h2⟩ := h
  exact ⟨rb, hf.blk h2 h1 (by decide), hs⟩

theorem bytes3 (w : World) (a b c : UInt8) (f : Nat × Nat) : EB.Rd (w.alloc (.cells #[.int .u8 a.toNat, .int .u8 b.toNat, .int .u8 c.toNat] 5 f)) (.slice (some ⟨w.heap.size, 0, none⟩) 3 3) [a, b, c] ∧ ∀ g ∈ blkL (.slice (some ⟨w.heap.size, 0, none⟩) 3 3), tagOf (w.alloc (.cells #[.int .u8 a.toNat, .int .u8 b.toNat, .int .u8 c.toNat] 5 f)) g = some 5 := by
  refine ⟨.inr ⟨w.heap.size, 0, 3, rfl, by simp, by simp, fun j u hj => ?_⟩, fun g hg => ?_⟩
  · rw [cell_of_row _ _ _ _ _ _ (heap_alloc_new w _)]
    match j, hj with
    | 0, hj => exact hj
    | 1, hj => exact hj
    | 2, hj => exact hj
    | j + 3, hj => simp [EB, Enc.flat] at hj
  · simp [blkL] at hg
    subst hg
    exact tagOf_of (heap_alloc_new w _)

/-- with one free range from 0 a block is taken at its head. -/
theorem TakeRel.front {s s' : Spc} {n a err q C : Int} (h : TakeRel s n s' a err) (hf : s.free = [(q, C)]) (hb : s.back = 0) (hn : 1 ≤ n) (hle : q + n ≤ C) : a = q ∧ err = 0 ∧ Took s s' a n := by
  have hc : cntL s.free = C - q := by rw [hf]; simp [cntL]
  have hfi : s.free.find? (fitsB n) = some (q, C) := by rw [hf]; simp [fitsB]; omega
  rcases h with ⟨h1, _⟩ | ⟨_, h1, _⟩ | ⟨_, _, ⟨f, h1, h2⟩, h3, h4⟩
  · omega
  · rcases h1 with h1 | h1
    · rw [hc, hb] at h1; omega
    · rw [hfi] at h1; cases h1
  · rw [hfi] at h1
    simp only [Option.some.injEq] at h1
    subst h1
    exact ⟨h2, h3, h4⟩

/-- what is left of one free range. -/
theorem Took.rest {s s' : Spc} {n q C : Int} (t : Took s s' q n) (hi : SpI s') (hf : s.free = [(q, C)]) (hq : 0 ≤ q) (hn : 1 ≤ n) (hle : q + n < C) (hC : C ≤ 40000) : s'.free = [(q + n, C)] := by
  refine Ok.ext hi.okF ⟨by simp, by simp; omega⟩ (fun c => ?_)
  rw [t.free, hf]
  constructor
  · rintro ⟨⟨x, hx, h1⟩, h2⟩
    simp at hx
    subst hx
    exact ⟨(q + n, C), by simp, by simp only at h1 ⊢; omega⟩
  · rintro ⟨x, hx, h1⟩
    simp at hx
    subst hx
    simp only at h1
    exact ⟨⟨(q, C), by simp, by simp only; omega⟩, by omega⟩

set_option maxRecDepth 100000 in
set_option maxHeartbeats 1600000 in
theorem known_c (w : World) : Calls Tryz.prog 6 #[] w fun e w' => e = .returned (.bool true) ∧ Ext [] w w' := by
  go_enter Tryz.func6, Tryz.ntmps6
  go_wp2_with fail
  refine (fresh_c 1 9 _ (by omega) (by omega) (by omega) (by omega) 5 rfl).mono ?_
  rintro e W1 ⟨x, y, v, rfl, hroom, hyk, hyS, hyF, hws, hnew, hlow, hE1⟩
  have HLOW := Lib.hid hlow
  have HR := Lib.hid hroom
  have HN := Lib.hid hnew
  have HYK := Lib.hid hyk
  have HYS := Lib.hid hyS
  have HYF := Lib.hid hyF
  have HWS := Lib.hid hws
  have HE1 := Lib.hid hE1
  clear hroom hnew hyk hyS hyF hws hE1 hlow
  have k1 := HR.out.cell
  have hcv := Lib.run_convert_bytes_const (P := Tryz.prog) W1 40 5 #[.int .u8 97, .int .u8 98, .int .u8 99] 3 3 Tryz.underlying40 Tryz.underlying5
  go_wp2_with fail
  have hEb : Ext [] W1 (W1.alloc (.cells #[.int .u8 97, .int .u8 98, .int .u8 99] 5 (3, 4))) := (Ext.refl [] W1).alloc _
  have hby : EB.Rd (W1.alloc (.cells #[.int .u8 97, .int .u8 98, .int .u8 99] 5 (3, 4))) (.slice (some ⟨W1.heap.size, 0, none⟩) 3 3) [97, 98, 99] ∧ ∀ g ∈ blkL (.slice (some ⟨W1.heap.size, 0, none⟩) 3 3), tagOf (W1.alloc (.cells #[.int .u8 97, .int .u8 98, .int .u8 99] 5 (3, 4))) g = some 5 := bytes3 W1 97 98 99 (3, 4)
  have HBY := Lib.hid hby
  have HR1 := Lib.hid (HR.out.ext0 hEb)
  have HEB := Lib.hid (HE1.out.trans hEb)
  clear hcv k1 hby hEb HE1 HR
  revert HBY HR1 HEB
  obtain ⟨gb, hgb⟩ : ∃ g, g = W1.heap.size := ⟨_, rfl⟩
  rw [← hgb]
  clear hgb
  generalize World.alloc _ _ = W2
  intro HBY HR1 HEB
  have hst0 := HN.out.st
  have hSY := HR1.out
  obtain ⟨rb, hxb, hsy⟩ := hSY
  refine (stput_c y v _ [97, 98, 99] W2 hsy HBY.out.1 HBY.out.2 (by simp) (by simp) (by rw [hst0]; simp [sto0]) (by rw [hst0]; simp [sto0]) (by rw [HWS.out]; simp)).mono ?_
  rintro e W3 hpost
  have hcb := costF_bd y.k 3 (by omega) (by omega)
  have hcl := hsy.cells
  rw [HYK.out, HYS.out, HYF.out] at hcl
  have hfr := HN.out.free
  rcases hpost with ⟨rfl, _, _, hno⟩ | ⟨a, v', rfl, hs3, hF3, hput⟩
  · exfalso
    rw [hfr, HN.out.back, hcl] at hno
    rcases hno with h | h
    · simp [cntL] at h; omega
    · simp [fitsB] at h; omega
  · have htk := hput.take.front (q := 0) (by rw [hfr]) HN.out.back (by have := hcb.1; simp; omega) (by rw [hcl]; have := hcb.2; simp; omega)
    obtain ⟨ha, -, -⟩ := htk
    obtain rfl : a = 0 := by omega
    have hst3 := hput.st
    rw [hst0] at hst3
    obtain ⟨SH, hSH⟩ : ∃ S, S = shaF [97, 98, 99] := ⟨_, rfl⟩
    rw [← hSH] at hst3 ⊢
    have hmem : v'.st.mem = [(0, SH, [97, 98, 99])] := by rw [hst3]; rfl
    have hfind : v'.st.mem.find? (hitB 0 3 SH) = some (0, SH, [97, 98, 99]) := by rw [hmem]; simp [hitB]
    have hxb3 := hF3.blk hsy hxb (by decide)
    have HS3 := Lib.hid hs3
    have HX3 := Lib.hid hxb3
    have HE3 := Lib.hid (ExtT.above HEB.out hF3 HLOW.out : Ext [] w W3)
    have HST3 := Lib.hid hst3
    have HFI := Lib.hid hfind
    have txg : v.st.txg = 1 := by rw [hst0]; rfl
    rw [txg]
    rw [pagg]
    clear hxb hsy hcb hcl hfr ha hst3 hSH hmem hfind hxb3 hs3 hF3 hput hst0 txg
    go_wp2_with fail
    have hEb := (Ext.refl [] W3).alloc (.cells #[.int .i64 0, .int .i64 3, .int .i64 1, .string ⟨SH.toArray⟩] 37)
    have hbb := heap_alloc_new W3 (.cells #[.int .i64 0, .int .i64 3, .int .i64 1, .string ⟨SH.toArray⟩] 37)
    have HS4 := Lib.hid (HS3.out.ext0 hEb)
    have HX4 := Lib.hid (hEb.blk HX3.out (by simp))
    have HE4 := Lib.hid (HE3.out.trans hEb)
    obtain ⟨bp, hbp⟩ : ∃ b, b = W3.heap.size := ⟨_, rfl⟩
    rw [← hbp] at hbb
    simp only [← hbp]
    have HB4 := Lib.hid hbb
    clear hEb hbb hbp HS3 HX3 HE3
    revert HS4 HX4 HE4 HB4
    generalize World.alloc _ _ = W4
    intro HS4 HX4 HE4 HB4
    obtain ⟨p0, p1, p2, p3, _⟩ := cells4 HB4.out
    obtain ⟨_, x1, _⟩ := cells4 HX4.out
    have hD := (Ext.refl [] W4).drew
    refine wp_region_u (fun W => W.cell? ⟨x, 1, none⟩ = some (.pointer (some ⟨y.b, 0, none⟩)) ∧ W.cell? ⟨bp, 0, none⟩ = some (.int .i64 0) ∧ W.cell? ⟨bp, 1, none⟩ = some (.int .i64 3) ∧ W.cell? ⟨bp, 2, none⟩ = some (.int .i64 1) ∧ W.cell? ⟨bp, 3, none⟩ = some (.string ⟨SH.toArray⟩)) (fun i => i == 3 || i == 4) (by kernel_rfl) ⟨hD.cell x1 (by simp), hD.cell p0 (by simp), hD.cell p1 (by simp), hD.cell p2 (by simp), hD.cell p3 (by simp)⟩ (fun hS => ?_)
    (refine wpAnyU_pure (i := 0) rfl (by kernel_rfl) (by kernel_rfl) (by kernel_rfl) (by rfl) (by exact fun _ _ _ h => h) (Or.inl ⟨by rfl, fun W => by (go_simp; try rfl)⟩) ?_); (try go_frame)
    (refine wpAnyU_pure (i := 1) rfl (by kernel_rfl) (by kernel_rfl) (by kernel_rfl) (by rfl) (by exact fun _ _ _ h => h) (Or.inl ⟨by rfl, fun W => by (go_simp; try rfl)⟩) ?_); (try go_frame)
    (refine wpAnyU_pure (i := 2) rfl (by kernel_rfl) (by kernel_rfl) (by kernel_rfl) (by rfl) (by exact fun _ _ _ h => h) (Or.inl ⟨by rfl, fun W => by (go_simp; try rfl)⟩) ?_); (try go_frame)
    (refine wpAnyU_take (i := 3) rfl (by kernel_rfl) (by kernel_rfl) (by kernel_rfl) (by kernel_rfl) (by exact fun _ _ _ h => h) (by assumption) (Or.inl ⟨by rfl, fun W hW => by (have hWW := hW; clear hW; go_split_ands; go_simp; try rfl)⟩) ?_); (try go_frame)
    (refine wpAnyU_take (i := 4) rfl (by kernel_rfl) (by kernel_rfl) (by kernel_rfl) (by kernel_rfl) (by exact fun _ _ _ h => h) (by assumption) (Or.inl ⟨by rfl, fun W hW => by (have hWW := hW; clear hW; go_split_ands; go_simp; try rfl)⟩) ?_); (try go_frame)
    refine wpAnyU_one (i := 5) (by kernel_rfl) rfl (fun K hK => ?_)
    (try simp only [Act.put, List.getElem_toArray, List.getElem_cons_zero, List.getElem_cons_succ, List.setIfInBounds_toArray, List.set_cons_zero, List.set_cons_succ]); rw [if_pos (show Region.wanted _ _ = true from rfl)]
    go_simp
    refine (stget_hit y v' 0 3 1 SH (0, SH, [97, 98, 99]) _ (HS4.out.ext0 hD) HFI.out (by rw [HST3.out]; simp [sto0]) (by rw [HST3.out]; simp [sto0]) (by rw [HST3.out]; simp [sto0]) (by rw [HST3.out]; simp [sto0]) (by simp)).mono ?_
    rintro e W5 ⟨u, v5, rfl, how, hs5, hhit, hF5⟩
    have hcnt : v5.st.gets = 1 ∧ v5.st.hits = 1 ∧ v5.st.reads = 0 ∧ v5.st.heals = 0 ∧ v5.st.puts = 1 := by
      rw [hhit.st, HST3.out]; exact ⟨rfl, rfl, rfl, rfl, rfl⟩
    have hx5 := hF5.blk (HS4.out.ext0 hD) (hD.blk HX4.out (by simp)) (by decide)
    have hb5 := hF5.blk (HS4.out.ext0 hD) (hD.blk HB4.out (by simp)) (by decide)
    have HE5 := Lib.hid (ExtT.above (HE4.out.trans hD) hF5 HLOW.out : Ext [] w W5)
    obtain ⟨pu, cu, rfl, _⟩ := how.rd.len_eq
    obtain ⟨gu, ou, rfl⟩ : ∃ g o, pu = some ⟨g, o, none⟩ := by
      rcases how.rd with ⟨_, h⟩ | ⟨g, o, c, h, _⟩
      · cases h
      · simp only [Value.slice.injEq] at h; exact ⟨g, o, h.1⟩
    have hcv := conv_c how.rd
    simp only [List.length_cons, List.length_nil, Nat.zero_add, Nat.reduceAdd] at hcv
    have HS5 := Lib.hid hs5
    have HX5 := Lib.hid hx5
    have HB5 := Lib.hid hb5
    have HCN := Lib.hid hcnt
    refine hK.out _ _ (fun h => by cases h) (fun _ => ?_)
    clear hK hs5 hx5 hb5 hcnt how hhit hF5 hD hS p0 p1 p2 p3 x1 HS4 HX4 HE4 HB4
    (refine wpAnyU_pure (i := 6) rfl (by kernel_rfl) (by kernel_rfl) (by kernel_rfl) (by rfl) (by exact fun _ _ _ h => h) (Or.inl ⟨by rfl, fun W => by (go_simp; try rfl)⟩) ?_); (try go_frame)
    (refine wpAnyU_pure (i := 7) rfl (by kernel_rfl) (by kernel_rfl) (by kernel_rfl) (by rfl) (by exact fun _ _ _ h => h) (Or.inl ⟨by rfl, fun W => by (go_simp; try rfl)⟩) ?_); (try go_frame)
    (refine wpAnyU_pure (i := 8) rfl (by kernel_rfl) (by kernel_rfl) (by kernel_rfl) (by rfl) (by exact fun _ _ _ h => h) (Or.inl ⟨by rfl, fun W => by (go_simp; try rfl)⟩) ?_); (try go_frame)
    (refine wpAnyU_pure (i := 9) rfl (by kernel_rfl) (by kernel_rfl) (by kernel_rfl) (by rfl) (by exact fun _ _ _ h => h) (Or.inl ⟨by rfl, fun W => by (go_simp; try rfl)⟩) ?_); (try go_frame)
    (refine wpAnyU_pure (i := 10) rfl (by kernel_rfl) (by kernel_rfl) (by kernel_rfl) (by rfl) (by exact fun _ _ _ h => h) (Or.inl ⟨by rfl, fun W => by (go_simp; try rfl)⟩) ?_); (try go_frame)
    (simp only [List.getElem_toArray, List.getElem_cons_zero, List.getElem_cons_succ, List.set_cons_zero, List.set_cons_succ])
    refine wpAnyU_done (by kernel_rfl) ?_ _
    obtain ⟨p0, p1, p2, p3, _⟩ := cells4 HB5.out
    obtain ⟨_, x1, _⟩ := cells4 HX5.out
    go_wp2_with fail
    refine (stcounts_c y v5 _ HS5.out).mono ?_
    rintro e W6 ⟨rfl, hE6⟩
    obtain ⟨q1, q2, q3, q4, q5⟩ := HCN.out
    rw [q1, q2, q3, q4, q5]
    clear q1 q2 q3 q4 q5
    go_wp2_with fail
    go_ret
    exact ⟨rfl, HE5.out.trans hE6⟩

end Go.Proofs.YtgfajlaibgbdoaaGreat
