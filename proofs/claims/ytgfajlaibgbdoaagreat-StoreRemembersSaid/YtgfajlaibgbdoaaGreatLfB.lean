
import Derived.Test.YtgfajlaibgbdoaaGreatLf
namespace Go.Proofs.YtgfajlaibgbdoaaGreat
open Go.RowKit

def R6 (w : World) (a rb D F : Nat) : Prop := w.heap[a]? = some (.cells #[.pointer (some ⟨rb, 0, none⟩), .int .i64 D, .int .i64 F] 160 (0, 0))

theorem R1.cells {w : World} {B b D S : Nat} (h : R1 w B b D S) (hD : 1 ≤ D) : ∃ g o c p0 c0, w.cell? ⟨b, 0, none⟩ = some (.slice (some ⟨g, o, none⟩) D c) ∧ w.cell? ⟨g, o, none⟩ = some (.slice p0 S c0) := by
  obtain ⟨p, c, lv, xs, h1, h2, h3, h4, h5, h6⟩ := h
  have hl : 0 < xs.length := by omega
  obtain ⟨g, o, rfl⟩ : ∃ g o, p = some ⟨g, o, none⟩ := by
    rcases h2.rd with ⟨_, h⟩ | ⟨g, o, c, h, _⟩
    · rw [h] at hl; simp at hl
    · simp only [Value.slice.injEq] at h; exact ⟨g, o, h.1⟩
  have hc := ES_cell h2.rd 0 xs[0] (List.getElem?_eq_getElem hl)
  rw [h4 xs[0] (List.getElem_mem _)] at hc
  exact ⟨g, o, c, _, _, by rw [cell_of_row w b 0 _ _ _ h1]; rfl, by simpa using hc⟩

set_option maxRecDepth 100000 in
set_option maxHeartbeats 1000000 in
theorem r6new_c (B b D S : Nat) (w : World) (h : R1 w B b D S) (hD : 5 ≤ D) (hS : 2 ≤ S) :
    Calls Tryz.prog 37 #[.pointer (some ⟨b, 0, none⟩), .int .i64 1] w fun e w' => ∃ a, e = .returned (.tuple #[.pointer (some ⟨a, 0, none⟩), .int .i64 0]) ∧ R6 w' a b D 1 ∧ w.heap.size ≤ a ∧ Ext [] w w' := by
  obtain ⟨g, o, c, p0, c0, k0, k1⟩ := h.cells (by omega)
  have m1 : ¬ ((D : Int) < 5) := by omega
  have m2 : ¬ ((S : Int) ≤ 1) := by omega
  have m3 : (0 : Int) < (D : Int) := by omega
  have m4 : 0 < D := by omega
  clear h
  go_enter Tryz.func37, Tryz.ntmps37
  go_wp2
  go_ret2
  exact ⟨_, rfl, heap_alloc_new w _, Nat.le_refl _, (Ext.refl [] w).alloc _⟩

set_option maxRecDepth 100000 in
set_option maxHeartbeats 1000000 in
theorem r6cells_c (B a b D S : Nat) (w : World) (h : R1 w B b D S) (ha : R6 w a b D 1) (hD : 5 ≤ D) (hD2 : D ≤ 16) (hS : 2 ≤ S) (hS2 : S ≤ 2000) :
    Calls Tryz.prog 75 #[.pointer (some ⟨a, 0, none⟩)] w fun e w' => e = .returned (.int .i64 ((D * (S - 1) : Nat) : Int)) ∧ Ext [] w w' := by
  obtain ⟨g, o, c, p0, c0, k0, k1⟩ := h.cells (by omega)
  have q0 : w.cell? ⟨a, 0, none⟩ = some (.pointer (some ⟨b, 0, none⟩)) := by rw [cell_of_row w a 0 _ _ _ ha]; rfl
  have q1 : w.cell? ⟨a, 1, none⟩ = some (.int .i64 D) := by rw [cell_of_row w a 1 _ _ _ ha]; rfl
  have q2 : w.cell? ⟨a, 2, none⟩ = some (.int .i64 1) := by rw [cell_of_row w a 2 _ _ _ ha]; rfl
  have w1 : IntKind.i64.wrap ((S : Int) - 1) = ((S - 1 : Nat) : Int) := by rw [IntWalk.i64_in _ (by omega)]; omega
  have hm : D * (S - 1) ≤ 16 * 2000 := Nat.mul_le_mul hD2 (by omega)
  have w2 : IntKind.i64.wrap ((D : Int) * ((S - 1 : Nat) : Int)) = ((D * (S - 1) : Nat) : Int) := by rw [← Int.natCast_mul]; exact IntWalk.i64_in _ (by omega)
  obtain ⟨x, hx⟩ : ∃ x, x = S - 1 := ⟨_, rfl⟩
  rw [← hx] at w1 w2 hm ⊢
  obtain ⟨y, hy⟩ : ∃ y, y = D * x := ⟨_, rfl⟩
  rw [← hy] at w2 hm ⊢
  have m3 : (0 : Int) < (D : Int) := by omega
  have m4 : 0 < D := by omega
  clear h ha hx hy
  go_enter Tryz.func75, Tryz.ntmps75
  go_wp2_with fail
  go_big_quiet (fail)
  go_wp2
  go_ret
  exact ⟨rfl, (Ext.refl _ _).drewN _⟩

set_option maxRecDepth 100000 in
set_option maxHeartbeats 1000000 in
theorem r7new_c (C : Nat) (w : World) (h1 : 1 ≤ C) (h2 : C ≤ 40000) :
    Calls Tryz.prog 74 #[.int .i64 C, .slice none 0 0] w fun e w' => ∃ b, e = .returned (.tuple #[.pointer (some ⟨b, 0, none⟩), .int .i64 0]) ∧ w.heap.size ≤ b ∧ Ext [] w w' := by
  have m1 : ¬ ((C : Int) < 1) := by omega
  have m2 : ¬ ((40000 : Int) < (C : Int)) := by omega
  have hmk := fun w => make_ints C (by omega) w
  go_enter Tryz.func74, Tryz.ntmps74
  go_wp2_with fail
  go_loopw [6] (fun iv wr => iv = .int .i64 0 ∧ wr = w) (fun _ _ => 0)
  case atStart => exact ⟨rfl, rfl⟩
  case round =>
    obtain ⟨rfl, rfl⟩ := hrel
    go_wp2_with fail
    have hE : Ext [] wr ((wr.alloc (.cells (EI.flat (List.replicate C 0)).toArray 3)).alloc (.cells #[.slice (some ⟨wr.heap.size, 0, none⟩) C C, .int .i64 0] 192)) := ((Ext.refl [] wr).alloc _).alloc _
    have hsz : wr.heap.size + 1 ≤ ((wr.alloc (.cells (EI.flat (List.replicate C 0)).toArray 3)).alloc (.cells #[.slice (some ⟨wr.heap.size, 0, none⟩) C C, .int .i64 0] 192)).heap.size := by simp
    revert hE hsz
    generalize World.alloc (World.alloc _ _) _ = W1
    intro hE hsz
    go_loopw [8, 9] (fun iv _ w2 => iv = .int .i64 0 ∧ w2 = W1) (fun _ _ _ => 0)
    case atStart => exact ⟨rfl, rfl⟩
    case round =>
      obtain ⟨rfl, rfl⟩ := hrel
      go_wp2_with fail
      go_ret2
      exact ⟨_, rfl, by omega, hE⟩

set_option maxRecDepth 100000 in
set_option maxHeartbeats 1000000 in
theorem r9new_c (B a b D S : Nat) (w : World) (h : R1 w B b D S) (ha : R6 w a b D 1) (hD : 5 ≤ D) (hD2 : D ≤ 16) (hS : 2 ≤ S) (hS2 : S ≤ 2000) :
    Calls Tryz.prog 38 #[.pointer (some ⟨a, 0, none⟩), .slice none 0 0, .int .i64 1] w fun e w' => ∃ x, e = .returned (.tuple #[.pointer (some ⟨x, 0, none⟩), .int .i64 0]) ∧ Ext [] w w' := by
  have HR := Lib.hid h
  have HA := Lib.hid ha
  have hm : D * (S - 1) ≤ 16 * 2000 := Nat.mul_le_mul hD2 (by omega)
  have hm2 : 5 * 1 ≤ D * (S - 1) := Nat.mul_le_mul hD (by omega)
  clear h ha
  go_enter Tryz.func38, Tryz.ntmps38
  go_wp2_with fail
  refine (r6cells_c B a b D S _ HR.out HA.out hD hD2 hS hS2).mono ?_
  rintro e W1 ⟨rfl, hE1⟩
  obtain ⟨C, hC⟩ : ∃ C, C = D * (S - 1) := ⟨_, rfl⟩
  rw [← hC] at hm hm2 ⊢
  clear hC
  go_wp2_with fail
  refine (r7new_c C _ (by omega) (by omega)).mono ?_
  rintro e W2 ⟨x, rfl, hx, hE2⟩
  go_wp2
  go_ret2
  exact ⟨_, rfl, (hE1.trans hE2).alloc _⟩

def sto0 : Sto := ⟨1, [], 0, 0, 0, 0, 0⟩
/-- a new store: nothing is remembered, all cells are free. -/
structure NewSy (y : Sy) (v : Sv) : Prop where
  st : v.st = sto0
  free : v.spc.free = [(0, v.spc.cells)]
  used : v.spc.used = []
  leaving : v.spc.leaving = []
  back : v.spc.back = 0

theorem Fresh.none {s : Spc} {C : Int} (h : Fresh s C [] 0) (hi : SpI s) (hC : 1 ≤ C) (hC2 : C ≤ 40000) : s.free = [(0, C)] ∧ s.used = [] := by
  have hu : s.used = [] := Ok.ext hi.okU ⟨List.Pairwise.nil, by simp⟩ (fun c => by rw [h.used]; rfl)
  refine ⟨Ok.ext hi.okF ⟨by simp, by simp; omega⟩ (fun c => ?_), hu⟩
  have h1 := hi.all c
  rw [h.cells, hu, h.leaving] at h1
  have h2 : ¬ Mem [] c := by rintro ⟨x, hx, _⟩; cases hx
  constructor
  · intro h3
    have h4 := h1.2 (.inl h3)
    exact ⟨(0, C), by simp, h4⟩
  · rintro ⟨x, hx, h4⟩
    simp at hx
    subst hx
    rcases h1.1 h4 with h5 | h5 | h5
    · exact h5
    · exact (h2 h5).elim
    · exact (h2 h5).elim

set_option maxRecDepth 100000 in
set_option maxHeartbeats 1000000 in
theorem stnew_c (a r gg k S F : Nat) (ws : List (Nat × Nat × List UInt8)) (w : World) (hr : RackR w r gg (k + 4) S ws) (ha : ArrR w a r (k + 4) F) (hk1 : 1 ≤ k) (hk : k ≤ 8) (hS2 : S ≤ 2000) (hF : F < S) :
    Calls Tryz.prog 9 #[.pointer (some ⟨a, 0, none⟩), .slice none 0 0, .int .i64 1] w fun e w' => ∃ b sp v, e = .returned (.tuple #[.pointer (some ⟨b, 0, none⟩), .int .i64 0]) ∧ SyR w' ⟨b, a, r, gg, sp, k, S, F⟩ v ∧ v.ws = ws ∧ NewSy ⟨b, a, r, gg, sp, k, S, F⟩ v ∧ w.heap.size ≤ b ∧ w.heap.size ≤ sp ∧ Ext [] w w' := by
  have HR := Lib.hid hr
  have HA := Lib.hid ha
  have hm : (k + 4) * (S - F) ≤ 12 * 2000 := Nat.mul_le_mul (by omega) (by omega)
  have hm2 : 5 * 1 ≤ (k + 4) * (S - F) := Nat.mul_le_mul (by omega) (by omega)
  clear hr ha
  go_enter Tryz.func9, Tryz.ntmps9
  go_wp2_with fail
  refine (arcells_c a r gg (k + 4) S F ws _ HR.out HA.out (by omega) hS2 (by omega)).mono ?_
  rintro e W1 ⟨rfl, hE1⟩
  obtain ⟨C, hC⟩ : ∃ C, C = (k + 4) * (S - F) := ⟨_, rfl⟩
  rw [← hC] at hm hm2 ⊢
  have HC := Lib.hid hC
  clear hC
  go_wp2_with fail
  refine (new_c (C : Int) (.slice none 0 0) [] _ (.inl ⟨rfl, rfl⟩) (by omega) (by omega) (by simp)).mono ?_
  rintro e W2 ⟨p, err, rfl, hE2, hrel⟩
  rcases hrel with ⟨h, _⟩ | ⟨_, _, h, _⟩ | ⟨_, _, _, h, _⟩ | ⟨_, _, _, _, rfl, b, s, rfl, hb, hsr, hsi, hfr⟩
  · omega
  · simp at h
  · exact (h (fun i hi => by simp at hi)).elim
  · have HSR := Lib.hid hsr
    have HSI := Lib.hid hsi
    have HFR := Lib.hid hfr
    have hE02 := hE1.trans hE2
    have lb := hE1.size
    have lb2 := hE2.size
    clear hsr hsi hfr hE1 hE2
    go_wp2
    go_ret2
    have hbl := heap_alloc_new W2 (.cells (stoRow a b (.slice none 0 0) sto0) 79)
    have hEa := (Ext.refl [] W2).alloc (.cells (stoRow a b (.slice none 0 0) sto0) 79)
    have hf := HFR.out.none HSI.out (by omega) (by omega)
    refine ⟨W2.heap.size, b, ⟨sto0, ws, s⟩, rfl, ⟨⟨_, hbl, ⟨[], .inl ⟨rfl, rfl⟩, by simp, rfl⟩, by simp [blkL]⟩, (HA.out.ext0 hE02).ext0 hEa, (HR.out.ext0 hE02).ext0 hEa, HSR.out.ext0 hEa, HSI.out, hk1, hk, hS2, Nat.le_of_lt hF, ?_, by simp [sto0]⟩, rfl, ⟨rfl, ?_, hf.2, HFR.out.leaving, HFR.out.back⟩, by omega, by omega, hE02.trans hEa⟩
    · show s.cells = _
      rw [HFR.out.cells, HC.out]
    · show s.free = _
      rw [hf.1, HFR.out.cells]

end Go.Proofs.YtgfajlaibgbdoaaGreat

namespace Go.Proofs.YtgfajlaibgbdoaaGreat
open Go.RowKit

/-- the room of a law: a rack, a store, the reference's. -/
def RoomR (w : World) (x : Nat) (y : Sy) (v : Sv) : Prop := ∃ rb, w.heap[x]? = some (.cells #[.pointer (some ⟨y.r, 0, none⟩), .pointer (some ⟨y.b, 0, none⟩), .pointer (some ⟨rb, 0, none⟩), .slice none 0 0] 52 (0, 0)) ∧ SyR w y v

set_option maxRecDepth 100000 in
set_option maxHeartbeats 1000000 in
theorem fresh_c (k S : Nat) (w : World) (hk1 : 1 ≤ k) (hk : k ≤ 8) (hS1 : 2 ≤ S) (hS : S ≤ 2000) (D : Int) (hD : D = ((k + 4 : Nat) : Int)) :
    Calls Tryz.prog 13 #[.int .i64 D, .int .i64 S, .slice none 0 0, .int .i64 1] w fun e w' => ∃ x y v, e = .returned (.tuple #[.pointer (some ⟨x, 0, none⟩), .bool true, .bool true]) ∧ RoomR w' x y v ∧ y.k = k ∧ y.S = S ∧ y.F = 1 ∧ v.ws = [] ∧ NewSy y v ∧ (∀ b ∈ [y.b, y.r, y.sp], w.heap.size ≤ b) ∧ Ext [] w w' := by
  subst hD
  go_enter Tryz.func13, Tryz.ntmps13
  go_wp2_with fail
  refine (rknew_c (k + 4) S _ (by omega) (by omega) (by omega) hS).mono ?_
  rintro e W1 ⟨r, gg, rfl, hr, lr, -, hE1⟩
  have HR1 := Lib.hid hr
  clear hr
  go_wp2_with fail
  refine (r1new_c (k + 4) S _ (by omega) (by omega) (by omega) hS).mono ?_
  rintro e W2 ⟨q1, rfl, hq1, hE2⟩
  have HR2 := Lib.hid (HR1.out.ext0 hE2)
  have HQ2 := Lib.hid hq1
  have hE02 := hE1.trans hE2
  clear hq1 hE1 hE2 HR1
  go_wp2_with fail
  refine (arnew_c r gg (k + 4) S 1 [] _ HR2.out (by omega) (by omega)).mono ?_
  rintro e W3 ⟨a, rfl, ha, -, hE3⟩
  have HR3 := Lib.hid (HR2.out.ext0 hE3)
  have HQ3 := Lib.hid (HQ2.out.ext0 hE3)
  have HA3 := Lib.hid ha
  have hE03 := hE02.trans hE3
  clear ha hE02 hE3 HR2 HQ2
  go_wp2_with fail
  refine (r6new_c _ q1 (k + 4) S _ HQ3.out (by omega) hS1).mono ?_
  rintro e W4 ⟨q6, rfl, hq6, -, hE4⟩
  have HR4 := Lib.hid (HR3.out.ext0 hE4)
  have HQ4 := Lib.hid (HQ3.out.ext0 hE4)
  have HA4 := Lib.hid (HA3.out.ext0 hE4)
  have HQ6 := Lib.hid hq6
  have hE04 := hE03.trans hE4
  clear hq6 hE03 hE4 HR3 HQ3 HA3
  go_wp2_with fail
  go_loopw [19, 20] (fun ov iv wr => ov = .slice none 0 0 ∧ iv = .int .i64 0 ∧ wr = W4) (fun _ _ _ => 0)
  case atStart => exact ⟨rfl, rfl, rfl⟩
  case round =>
    obtain ⟨rfl, rfl, rfl⟩ := hrel
    go_wp2_with fail
    refine (stnew_c a r gg k S 1 [] _ HR4.out HA4.out hk1 hk hS (by omega)).mono ?_
    rintro e W5 ⟨b, sp, v, rfl, hsy, hws, hnew, lb, lsp, hE5⟩
    have l04 := hE04.size
    have HSY := Lib.hid hsy
    have HQ5 := Lib.hid (HQ4.out.ext0 hE5)
    have HQ65 := Lib.hid (show R6 W5 q6 q1 (k + 4) 1 from hE5.blk HQ6.out (by simp))
    have hE05 := hE04.trans hE5
    have HWS := Lib.hid hws
    have HNEW := Lib.hid hnew
    clear hsy hE04 hE5 HQ4 HQ6 hws hnew HR4 HA4
    go_wp2_with fail
    refine (r9new_c _ q6 q1 (k + 4) S _ HQ5.out HQ65.out (by omega) (by omega) hS1 hS).mono ?_
    rintro e W6 ⟨q9, rfl, hE6⟩
    have HSY6 := Lib.hid (HSY.out.ext0 hE6)
    have hE06 := hE05.trans hE6
    clear hE05 hE6
    go_wp2_with fail
    have hEa := (Ext.refl [] W6).alloc (.cells #[.pointer (some ⟨r, 0, none⟩), .pointer (some ⟨b, 0, none⟩), .pointer (some ⟨q9, 0, none⟩), .slice none 0 0] 52)
    refine bodyPost_ret (v := .tuple #[.pointer (some ⟨W6.heap.size, 0, none⟩), .bool true, .bool true]) (by simp [results, Tryz.results13, go_sem]) rfl ?_
    exact ⟨W6.heap.size, ⟨b, a, r, gg, sp, k, S, 1⟩, v, rfl, ⟨q9, heap_alloc_new W6 _, HSY6.out.ext0 hEa⟩, rfl, rfl, rfl, HWS.out, HNEW.out, fun z hz => by
      simp at hz
      rcases hz with rfl | rfl | rfl <;> omega, hE06.trans hEa⟩

end Go.Proofs.YtgfajlaibgbdoaaGreat

