
import Derived.Test.YtgfajlaibgbdoaaGreatSrC
namespace Go.Proofs.YtgfajlaibgbdoaaGreat
open Go.RowKit

theorem remL_find {m : List Mno} {p : Mno → Bool} {k : Mno} (h : m.find? p = some k) : k ∈ m := List.mem_of_find?_eq_some h

/-- a block that is remembered is got. -/
structure HitRel (v v' : Sv) (k : Mno) : Prop where
  ws : v'.ws = v.ws
  spc : v'.spc = v.spc
  st : v'.st = { v.st with mem := remL v.st.mem k, gets := v.st.gets + 1, hits := v.st.hits + 1 }

set_option maxRecDepth 100000 in
set_option maxHeartbeats 1600000 in
theorem stget_hit (y : Sy) (v : Sv) (pa size birth : Int) (sum : List UInt8) (k : Mno) (w : World) (h : SyR w y v) (hf : v.st.mem.find? (hitB pa size sum) = some k) (hg0 : 0 ≤ v.st.gets) (hg1 : v.st.gets ≤ 1000000) (hh0 : 0 ≤ v.st.hits) (hh1 : v.st.hits ≤ 1000000) (hkl : k.2.2.length ≤ 1000000) :
    Calls Tryz.prog 12 #[.pointer (some ⟨y.b, 0, none⟩), pagg pa size birth sum] w fun e w' => ∃ u v', e = .returned (.tuple #[u, .int .i64 0]) ∧ EB.Ow 5 w' u k.2.2 ∧ SyR w' y v' ∧ HitRel v v' k ∧ SyF y w w' := by
  have hEa : Ext [] w (w.alloc (.cells #[.int .i64 pa, .int .i64 size, .int .i64 birth, .string ⟨sum.toArray⟩] 37)) := (Ext.refl [] w).alloc _
  have hrc := recall_c y.b y.a y.sp v.st pa size birth sum _ (h.st.ext0 hEa) (by have := h.mem; omega)
  have HRC := Lib.hid hrc
  have HS := Lib.hid (h.ext0 hEa)
  have hb3 := heap_alloc_new w (.cells #[.int .i64 pa, .int .i64 size, .int .i64 birth, .string ⟨sum.toArray⟩] 37)
  obtain ⟨v0, v1, v2, v3, _⟩ := cells4 hb3
  have HF := Lib.hid hf
  rw [pagg]
  clear h hrc hf hb3
  go_enter Tryz.func12, Tryz.ntmps12
  go_wp2_with fail
  refine HRC.out.mono ?_
  rintro e W1 ⟨hE1, ⟨hno, -⟩ | ⟨x, bs, hfi, hxb, rfl⟩⟩
  · rw [HF.out] at hno; cases hno
  · rw [HF.out] at hfi
    simp only [Option.some.injEq] at hfi
    have HK := Lib.hid hfi
    have HX1 := Lib.hid (hxb.ext0 hE1)
    have HS1 := Lib.hid (HS.out.ext0 hE1)
    have hE01 := hEa.trans hE1
    have HE01 := Lib.hid hE01
    clear hfi hxb v0 v1 v2 v3 hEa hE1 HS hE01 HRC HF
    rw [kagg]
    go_wp2_with fail
    have hEb : Ext [] W1 (W1.alloc (.cells #[.int .i64 x.1, .string ⟨x.2.1.toArray⟩, .slice x.2.2.1 x.2.2.2.1 x.2.2.2.2] 87)) := (Ext.refl [] W1).alloc _
    have hbb := heap_alloc_new W1 (.cells #[.int .i64 x.1, .string ⟨x.2.1.toArray⟩, .slice x.2.2.1 x.2.2.2.1 x.2.2.2.2] 87)
    obtain ⟨mv, hmv⟩ := HS1.out.st
    obtain ⟨l1, l2⟩ := hmv.lt
    refine (remember_m y.b y.a y.sp mv v.st x bs _ (hmv.ext0 hEb) HS1.out.mem (HX1.out.ext0 hEb)).mono ?_
    rintro e W2 ⟨rfl, mv', hst2, hE2, -⟩
    have hE2' := (hmv.ext0 hEb).frame hE2
    have hs2 := (HS1.out.ext0 hEb).onSt hE2' ⟨mv', hst2⟩ (remL_len _ _)
    have hF2 : SyF y w W2 := (SyF.of0 (HE01.out.trans hEb)).trans (SyF.st hE2')
    have hb2 := hE2.blk hbb (fun hmem => by
      rcases List.mem_cons.1 hmem with h | h
      · omega
      · have := l2 _ h; omega)
    have hx2 := (HX1.out.ext0 hEb).ext hE2 (fun g hg hg2 => by
      obtain ⟨c, hc⟩ := (HX1.out.ext0 hEb).tag g hg
      rcases List.mem_cons.1 hg2 with h | h
      · subst h
        rw [(hmv.ext0 hEb).1] at hc
        simp only [Option.some.injEq, Obj.cells.injEq] at hc
        exact absurd hc.2.1 (by decide)
      · obtain ⟨_, ⟨zs', b2, _⟩, _⟩ := hmv.ext0 hEb
        obtain ⟨c', hc'⟩ := b2.tag g h
        rw [hc] at hc'
        simp only [Option.some.injEq, Obj.cells.injEq] at hc'
        exact absurd hc'.2.1 (by decide))
    obtain ⟨bx, hbx⟩ : ∃ b, b = W1.heap.size := ⟨_, rfl⟩
    rw [← hbx] at hb2
    simp only [← hbx]
    have hbxy : bx ≠ y.b := by omega
    obtain ⟨_, _, _, c4, _, _, _, _, hfz⟩ := hs2.st.cells
    simp only at c4
    have h3 := hs2.st.setAt (s' := { v.st with mem := remL v.st.mem (x.1, x.2.1, bs), gets := v.st.gets + 1 }) 4 (.int .i64 (v.st.gets + 1)) rfl (fun mv => rfl)
    have HS2 := Lib.hid hs2
    have HF2 := Lib.hid hF2
    have HB2 := Lib.hid hb2
    have HX2 := Lib.hid hx2
    have H3 := Lib.hid h3
    clear hs2 hF2 hb2 hx2 h3 hE2 hE2' hst2 hEb hbb hbx hmv l1 l2 HS1 HX1 HE01
    go_wp2_with fail
    refine (i64add_c ⟨y.b, 4, none⟩ v.st.gets _ c4 (hfz 4) hg0 (by omega)).mono ?_
    rintro e W3 ⟨rfl, rfl⟩
    have hs3 := HS2.out.onSt H3.out.2 H3.out.1 (remL_len _ _)
    have hF3 := HF2.out.trans (SyF.st H3.out.2)
    have hEs : Ext [y.b] W2 (W2.setCell ⟨y.b, 4, none⟩ (.int .i64 (v.st.gets + 1))) := (Ext.refl _ _).setCell (.inl (by simp)) _
    have hb3 := hEs.blk HB2.out (by simpa using hbxy)
    have hx3 := HX2.out.ext hEs (fun g hg => by
      obtain ⟨mv3, hm3⟩ := HS2.out.st
      simpa using HX2.out.ne hm3.1 (by decide) g hg)
    have HS3 := Lib.hid hs3
    have HF3 := Lib.hid hF3
    have HB3 := Lib.hid hb3
    have HX3 := Lib.hid hx3
    clear hs3 hF3 hEs hb3 hx3 hfz c4 H3 HX2 HB2 HF2 HS2
    revert HS3 HF3 HB3 HX3
    generalize World.setCell _ _ _ = W3
    intro HS3 HF3 HB3 HX3
    obtain ⟨_, _, _, _, c5, _, _, _, hfz⟩ := HS3.out.st.cells
    simp only at c5
    have h4 := HS3.out.st.setAt (s' := { v.st with mem := remL v.st.mem (x.1, x.2.1, bs), gets := v.st.gets + 1, hits := v.st.hits + 1 }) 5 (.int .i64 (v.st.hits + 1)) rfl (fun mv => rfl)
    have H4 := Lib.hid h4
    clear h4
    go_wp2_with fail
    refine (i64add_c ⟨y.b, 5, none⟩ v.st.hits _ c5 (hfz 5) hh0 (by omega)).mono ?_
    rintro e W4 ⟨rfl, rfl⟩
    have hs4 := HS3.out.onSt H4.out.2 H4.out.1 (remL_len _ _)
    have hF4 := HF3.out.trans (SyF.st H4.out.2)
    have hEs : Ext [y.b] W3 (W3.setCell ⟨y.b, 5, none⟩ (.int .i64 (v.st.hits + 1))) := (Ext.refl _ _).setCell (.inl (by simp)) _
    have hb4 := hEs.blk HB3.out (by simpa using hbxy)
    have hx4 := HX3.out.ext hEs (fun g hg => by
      obtain ⟨mv3, hm3⟩ := HS3.out.st
      simpa using HX3.out.ne hm3.1 (by decide) g hg)
    have HS4 := Lib.hid hs4
    have HF4 := Lib.hid hF4
    have HB4 := Lib.hid hb4
    have HX4 := Lib.hid hx4
    clear hs4 hF4 hEs hb4 hx4 hfz c5 H4 HX3 HB3 HF3 HS3
    revert HS4 HF4 HB4 HX4
    generalize World.setCell _ _ _ = W4
    intro HS4 HF4 HB4 HX4
    have k2 : W4.cell? ⟨bx, 2, none⟩ = some (.slice x.2.2.1 x.2.2.2.1 x.2.2.2.2) := by rw [cell_of_row _ _ 2 _ _ _ HB4.out]; rfl
    have hbl : bs.length ≤ 1000000 := by rw [HK.out] at hkl; exact hkl
    go_wp2_with fail
    refine (cloneB_c _ bs _ hbl HX4.out.rd).mono ?_
    rintro e W5 ⟨u, rfl, how, hE5, -, -⟩
    have HS5 := Lib.hid (HS4.out.ext0 hE5)
    have HF5 := Lib.hid (HF4.out.trans (SyF.of0 hE5))
    have HO := Lib.hid how
    clear hE5 how k2
    go_wp2
    go_ret2
    refine ⟨_, ⟨_, v.ws, v.spc⟩, rfl, ?_, HS5.out, ⟨rfl, rfl, ?_⟩, HF5.out⟩
    · rw [HK.out]; exact HO.out
    · rw [HK.out]

end Go.Proofs.YtgfajlaibgbdoaaGreat
