
import Derived.Test.YtgfajlaibgbdoaaGreatBy
import Derived.StillTailTactics
import Derived.BigQuiet
import Derived.Deep.CutBlock
namespace Go.Proofs.YtgfajlaibgbdoaaGreat
open Go.RowKit

/-! Sums: a turn to the right, the 64 numbers of a block. -/
def rorF (up down : Int) (x : Int) : Int := bits .or .u32 (x * up % 4294967296) (x / down)

theorem ror7_c (x : Int) (w : World) : Calls Tryz.prog 89 #[.int .u32 x, .int .i64 7] w fun e w' => e = .returned (.int .u32 (rorF 33554432 128 x)) ∧ w' = w := by
  have hb : bits BinOp.and IntKind.u64 (IntKind.u64.wrap (-7)) 31 = 25 := by kernel_rfl
  go_enter Tryz.func89, Tryz.ntmps89
  go_wp2
  go_ret
  exact ⟨rfl, rfl⟩
theorem ror18_c (x : Int) (w : World) : Calls Tryz.prog 89 #[.int .u32 x, .int .i64 18] w fun e w' => e = .returned (.int .u32 (rorF 16384 262144 x)) ∧ w' = w := by
  have hb : bits BinOp.and IntKind.u64 (IntKind.u64.wrap (-18)) 31 = 14 := by kernel_rfl
  go_enter Tryz.func89, Tryz.ntmps89
  go_wp2
  go_ret
  exact ⟨rfl, rfl⟩
theorem ror17_c (x : Int) (w : World) : Calls Tryz.prog 89 #[.int .u32 x, .int .i64 17] w fun e w' => e = .returned (.int .u32 (rorF 32768 131072 x)) ∧ w' = w := by
  have hb : bits BinOp.and IntKind.u64 (IntKind.u64.wrap (-17)) 31 = 15 := by kernel_rfl
  go_enter Tryz.func89, Tryz.ntmps89
  go_wp2
  go_ret
  exact ⟨rfl, rfl⟩
theorem ror19_c (x : Int) (w : World) : Calls Tryz.prog 89 #[.int .u32 x, .int .i64 19] w fun e w' => e = .returned (.int .u32 (rorF 8192 524288 x)) ∧ w' = w := by
  have hb : bits BinOp.and IntKind.u64 (IntKind.u64.wrap (-19)) 31 = 13 := by kernel_rfl
  go_enter Tryz.func89, Tryz.ntmps89
  go_wp2
  go_ret
  exact ⟨rfl, rfl⟩
theorem ror6_c (x : Int) (w : World) : Calls Tryz.prog 89 #[.int .u32 x, .int .i64 6] w fun e w' => e = .returned (.int .u32 (rorF 67108864 64 x)) ∧ w' = w := by
  have hb : bits BinOp.and IntKind.u64 (IntKind.u64.wrap (-6)) 31 = 26 := by kernel_rfl
  go_enter Tryz.func89, Tryz.ntmps89
  go_wp2
  go_ret
  exact ⟨rfl, rfl⟩
theorem ror11_c (x : Int) (w : World) : Calls Tryz.prog 89 #[.int .u32 x, .int .i64 11] w fun e w' => e = .returned (.int .u32 (rorF 2097152 2048 x)) ∧ w' = w := by
  have hb : bits BinOp.and IntKind.u64 (IntKind.u64.wrap (-11)) 31 = 21 := by kernel_rfl
  go_enter Tryz.func89, Tryz.ntmps89
  go_wp2
  go_ret
  exact ⟨rfl, rfl⟩
theorem ror25_c (x : Int) (w : World) : Calls Tryz.prog 89 #[.int .u32 x, .int .i64 25] w fun e w' => e = .returned (.int .u32 (rorF 128 33554432 x)) ∧ w' = w := by
  have hb : bits BinOp.and IntKind.u64 (IntKind.u64.wrap (-25)) 31 = 7 := by kernel_rfl
  go_enter Tryz.func89, Tryz.ntmps89
  go_wp2
  go_ret
  exact ⟨rfl, rfl⟩
theorem ror2_c (x : Int) (w : World) : Calls Tryz.prog 89 #[.int .u32 x, .int .i64 2] w fun e w' => e = .returned (.int .u32 (rorF 1073741824 4 x)) ∧ w' = w := by
  have hb : bits BinOp.and IntKind.u64 (IntKind.u64.wrap (-2)) 31 = 30 := by kernel_rfl
  go_enter Tryz.func89, Tryz.ntmps89
  go_wp2
  go_ret
  exact ⟨rfl, rfl⟩
theorem ror13_c (x : Int) (w : World) : Calls Tryz.prog 89 #[.int .u32 x, .int .i64 13] w fun e w' => e = .returned (.int .u32 (rorF 524288 8192 x)) ∧ w' = w := by
  have hb : bits BinOp.and IntKind.u64 (IntKind.u64.wrap (-13)) 31 = 19 := by kernel_rfl
  go_enter Tryz.func89, Tryz.ntmps89
  go_wp2
  go_ret
  exact ⟨rfl, rfl⟩
theorem ror22_c (x : Int) (w : World) : Calls Tryz.prog 89 #[.int .u32 x, .int .i64 22] w fun e w' => e = .returned (.int .u32 (rorF 1024 4194304 x)) ∧ w' = w := by
  have hb : bits BinOp.and IntKind.u64 (IntKind.u64.wrap (-22)) 31 = 10 := by kernel_rfl
  go_enter Tryz.func89, Tryz.ntmps89
  go_wp2
  go_ret
  exact ⟨rfl, rfl⟩

end Go.Proofs.YtgfajlaibgbdoaaGreat

namespace Go.Proofs.YtgfajlaibgbdoaaGreat
open Go.RowKit

/-- a row of 32-bit numbers. -/
def EU : Enc Int where
  k := 1
  hk := by decide
  enc x := [.int .u32 x]
  len _ := rfl
  one _ v hv := by simp at hv; subst hv; rfl
theorem flatU (l : List Int) : EU.flat l = l.map (Value.int .u32) := by
  induction l with
  | nil => rfl
  | cons a l ih => simp [ih]; rfl
theorem rowU_get {w : World} {g : Nat} {T : TypeId} {h : List Int} (hg : w.heap[g]? = some (.cells (EU.flat h).toArray T (0, 0))) {j : Nat} (hj : j < h.length) : w.cell? ⟨g, j, none⟩ = some (.int .u32 (h.getD j 9)) := by
  rw [cell_of_row w g j _ _ _ hg, flatU]
  simp [List.getD, hj]
theorem rowU_set {w : World} {g : Nat} {T : TypeId} {h : List Int} (hg : w.heap[g]? = some (.cells (EU.flat h).toArray T (0, 0))) (j : Nat) (v : Int) : (w.setCell ⟨g, j, none⟩ (.int .u32 v)).heap[g]? = some (.cells (EU.flat (h.set j v)).toArray T (0, 0)) := by
  rw [heap_setCell_same w g j _ _ _ hg, flatU, flatU]
  simp [List.map_set]

def byteAt (bs : List UInt8) (i : Nat) : Int := (bs.getD i 0).toNat
def wordF (bs : List UInt8) (t : Nat) : Int :=
  bits .or .u32 (bits .or .u32 (bits .or .u32 (byteAt bs (4 * t) % 4294967296 * 16777216 % 4294967296) (byteAt bs (4 * t + 1) % 4294967296 * 65536 % 4294967296)) (byteAt bs (4 * t + 2) % 4294967296 * 256 % 4294967296)) (byteAt bs (4 * t + 3) % 4294967296)
def mixF (x y u z : Int) : Int :=
  (u + bits .xor .u32 (bits .xor .u32 (rorF 33554432 128 x) (rorF 16384 262144 x)) (x / 8) + z + bits .xor .u32 (bits .xor .u32 (rorF 32768 131072 y) (rorF 8192 524288 y)) (y / 1024)) % 4294967296
/-- the numbers of a block, the first t of them. -/
def schedF (bs : List UInt8) : Nat → List Int
  | 0 => List.replicate 64 0
  | t + 1 => (schedF bs t).set t (if t < 16 then wordF bs t else mixF ((schedF bs t).getD (t - 15) 9) ((schedF bs t).getD (t - 2) 9) ((schedF bs t).getD (t - 16) 9) ((schedF bs t).getD (t - 7) 9))

theorem schedF_len (bs : List UInt8) : ∀ t, (schedF bs t).length = 64
  | 0 => by simp [schedF]
  | t + 1 => by rw [schedF, List.length_set]; exact schedF_len bs t

set_option maxRecDepth 100000 in
theorem zeros64 : (#[.int .u32 0, .int .u32 0, .int .u32 0, .int .u32 0, .int .u32 0, .int .u32 0, .int .u32 0, .int .u32 0, .int .u32 0, .int .u32 0, .int .u32 0, .int .u32 0, .int .u32 0, .int .u32 0, .int .u32 0, .int .u32 0, .int .u32 0, .int .u32 0, .int .u32 0, .int .u32 0, .int .u32 0, .int .u32 0, .int .u32 0, .int .u32 0, .int .u32 0, .int .u32 0, .int .u32 0, .int .u32 0, .int .u32 0, .int .u32 0, .int .u32 0, .int .u32 0, .int .u32 0, .int .u32 0, .int .u32 0, .int .u32 0, .int .u32 0, .int .u32 0, .int .u32 0, .int .u32 0, .int .u32 0, .int .u32 0, .int .u32 0, .int .u32 0, .int .u32 0, .int .u32 0, .int .u32 0, .int .u32 0, .int .u32 0, .int .u32 0, .int .u32 0, .int .u32 0, .int .u32 0, .int .u32 0, .int .u32 0, .int .u32 0, .int .u32 0, .int .u32 0, .int .u32 0, .int .u32 0, .int .u32 0, .int .u32 0, .int .u32 0, .int .u32 0] : Array Value) = (EU.flat (List.replicate 64 0)).toArray := by kernel_rfl

set_option maxRecDepth 100000 in
set_option maxHeartbeats 1000000 in
theorem sched_c (v : Value) (bs : List UInt8) (w : World) (hv : EB.Rd w v bs) (hl : bs.length = 64) :
    Calls Tryz.prog 88 #[v] w fun e w' => e = .returned (.agg ((schedF bs 64).map (Value.int .u32)).toArray) ∧ Ext [] w w' := by
  obtain ⟨p, cap, rfl, hcap⟩ := hv.len_eq
  obtain ⟨g, o, rfl⟩ : ∃ g o, p = some ⟨g, o, none⟩ := by
    rcases hv with ⟨_, h⟩ | ⟨g, o, c, h, _⟩
    · rw [h] at hl; cases hl
    · simp only [Value.slice.injEq] at h; exact ⟨g, o, h.1⟩
  rw [hl] at hv hcap
  rw [hl]
  have HV := Lib.hid hv
  clear hv
  go_enter Tryz.func88, Tryz.ntmps88
  go_wp2_with fail
  rw [zeros64]
  have hE0 : Ext [] w ((w.alloc (.cells (EU.flat (List.replicate 64 0)).toArray 130)).alloc (.cells (EU.flat (List.replicate 64 0)).toArray 130)) := ((Ext.refl [] w).alloc _).alloc _
  have hg0 := heap_alloc_new (w.alloc (.cells (EU.flat (List.replicate 64 0)).toArray 130)) (.cells (EU.flat (List.replicate 64 0)).toArray 130)
  have hr0 := ((Ext.refl [] (w.alloc (.cells (EU.flat (List.replicate 64 0)).toArray 130))).alloc (.cells (EU.flat (List.replicate 64 0)).toArray 130)).blk (heap_alloc_new w (.cells (EU.flat (List.replicate 64 0)).toArray 130)) (by simp)
  have e1 : (w.alloc (.cells (EU.flat (List.replicate 64 0)).toArray 130)).heap.size = w.heap.size + 1 := by simp
  rw [e1] at hg0
  obtain ⟨g2, hg2⟩ : ∃ g, g = w.heap.size := ⟨_, rfl⟩
  obtain ⟨g3, hg3⟩ : ∃ g, g = w.heap.size + 1 := ⟨_, rfl⟩
  simp only [← hg3] at hg0 ⊢
  simp only [← hg2] at hr0 ⊢
  have HG0 := Lib.hid hg0
  have HR0 := Lib.hid hr0
  clear hg0 hr0 e1
  revert hE0 HG0 HR0
  generalize World.alloc _ _ = W0
  intro hE0 HG0 HR0
  have l2 : w.heap.size ≤ g2 := by omega
  have l3 : w.heap.size ≤ g3 := by omega
  have l23 : g2 ≠ g3 := by omega
  clear hg2 hg3
  have hgl : g < w.heap.size := HV.out.lt g (by simp [blkL])
  go_loopw [4, 5, 6, 7] (fun _ _ _ c wr => ∃ (t : Nat) (L : List Int), t ≤ 64 ∧ c = .int .i64 t ∧ Ext [g3] W0 wr ∧ L.length = 64 ∧ Hid (L = schedF bs t) ∧ Hid (wr.heap[g3]? = some (.cells (EU.flat L).toArray 130 (0, 0)))) (fun _ _ _ c _ => 64 - (intOf c).toNat)
  case atStart => exact ⟨0, List.replicate 64 0, by omega, rfl, Ext.refl _ _, by simp, rfl, HG0⟩
  case round =>
    obtain ⟨t, L, ht, rfl, hE, hL, HL, HG⟩ := hrel
    have hEw : Ext [] w wr := hE0.trans' hE (by simp) (fun y hy => .inr (by simp at hy; omega))
    by_cases hlt : t < 64
    · have z1 : (t : Int) < 64 := by omega
      have hfz : ∀ j, wr.frozen? ⟨g3, j, none⟩ = false := fun j => frozen_of_row _ _ _ _ _ HG.out
      have hct := rowU_get HG.out (j := t) (by omega)
      by_cases h16 : t < 16
      · have z2 : (t : Int) < 16 := by omega
        have hm0 := EB_cell (HV.out.ext0 hEw) (4 * t) (by omega)
        have hm1 := EB_cell (HV.out.ext0 hEw) (4 * t + 1) (by omega)
        have hm2 := EB_cell (HV.out.ext0 hEw) (4 * t + 2) (by omega)
        have hm3 := EB_cell (HV.out.ext0 hEw) (4 * t + 3) (by omega)
        obtain ⟨b0, hb0⟩ : ∃ b : Int, b = (bs.getD (4 * t) 0).toNat := ⟨_, rfl⟩
        obtain ⟨b1, hb1⟩ : ∃ b : Int, b = (bs.getD (4 * t + 1) 0).toNat := ⟨_, rfl⟩
        obtain ⟨b2, hb2⟩ : ∃ b : Int, b = (bs.getD (4 * t + 2) 0).toNat := ⟨_, rfl⟩
        obtain ⟨b3, hb3⟩ : ∃ b : Int, b = (bs.getD (4 * t + 3) 0).toNat := ⟨_, rfl⟩
        rw [← hb0] at hm0
        rw [← hb1] at hm1
        rw [← hb2] at hm2
        rw [← hb3] at hm3
        have HB0 := Lib.hid hb0
        have HB1 := Lib.hid hb1
        have HB2 := Lib.hid hb2
        have HB3 := Lib.hid hb3
        clear hb0 hb1 hb2 hb3
        have e0 : IntKind.i64.wrap (4 * (t : Int)) = 4 * (t : Int) := IntWalk.i64_in _ (by omega)
        have e1 : IntKind.i64.wrap (4 * (t : Int) + 1) = 4 * (t : Int) + 1 := IntWalk.i64_in _ (by omega)
        have e2 : IntKind.i64.wrap (4 * (t : Int) + 2) = 4 * (t : Int) + 2 := IntWalk.i64_in _ (by omega)
        have e3 : IntKind.i64.wrap (4 * (t : Int) + 3) = 4 * (t : Int) + 3 := IntWalk.i64_in _ (by omega)
        have n0 : (4 * (t : Int)).toNat = 4 * t := by omega
        have n1 : (4 * (t : Int) + 1).toNat = 4 * t + 1 := by omega
        have n2 : (4 * (t : Int) + 2).toNat = 4 * t + 2 := by omega
        have n3 : (4 * (t : Int) + 3).toNat = 4 * t + 3 := by omega
        have p0 : 4 * (t : Int) < 64 := by omega
        have p1 : 4 * (t : Int) + 1 < 64 := by omega
        have p2 : 4 * (t : Int) + 2 < 64 := by omega
        have p3 : 4 * (t : Int) + 3 < 64 := by omega
        have q0 : 0 ≤ 4 * (t : Int) := by omega
        have q1 : 0 ≤ 4 * (t : Int) + 1 := by omega
        have q2 : 0 ≤ 4 * (t : Int) + 2 := by omega
        have q3 : 0 ≤ 4 * (t : Int) + 3 := by omega
        go_wp2_with fail
        go_still_tail 35, (by kernel_rfl)
        change wpList _ _ _ _ _ wr.drew
        go_wp2_with fail
        go_roundw
        case rel =>
          refine ⟨t + 1, _, by omega, by go_num, (hE.setCell (.inl (by simp)) _).drew, ?_, ?_, rowU_set HG.out t _⟩
          · rw [List.length_set]; exact hL
          · show L.set t _ = schedF bs (t + 1)
            rw [schedF, if_pos h16, ← HL.out, wordF]
            simp only [byteAt, ← HB0.out, ← HB1.out, ← HB2.out, ← HB3.out]
        case measure => simp [intOf]; omega
      · have z2 : ¬ ((t : Int) < 16) := by omega
        have hc15 := rowU_get HG.out (j := t - 15) (by omega)
        have hc2 := rowU_get HG.out (j := t - 2) (by omega)
        have hc16 := rowU_get HG.out (j := t - 16) (by omega)
        have hc7 := rowU_get HG.out (j := t - 7) (by omega)
        obtain ⟨x, hx⟩ : ∃ x, x = L.getD (t - 15) 9 := ⟨_, rfl⟩
        obtain ⟨y, hy⟩ : ∃ x, x = L.getD (t - 2) 9 := ⟨_, rfl⟩
        obtain ⟨u, hu⟩ : ∃ x, x = L.getD (t - 16) 9 := ⟨_, rfl⟩
        obtain ⟨z, hz⟩ : ∃ x, x = L.getD (t - 7) 9 := ⟨_, rfl⟩
        rw [← hx] at hc15
        rw [← hy] at hc2
        rw [← hu] at hc16
        rw [← hz] at hc7
        have HX := Lib.hid hx
        have HY := Lib.hid hy
        have HUu := Lib.hid hu
        have HZ := Lib.hid hz
        clear hx hy hu hz
        have e0 : IntKind.i64.wrap ((t : Int) - 15) = (t : Int) - 15 := IntWalk.i64_in _ (by omega)
        have e1 : IntKind.i64.wrap ((t : Int) - 2) = (t : Int) - 2 := IntWalk.i64_in _ (by omega)
        have e2 : IntKind.i64.wrap ((t : Int) - 16) = (t : Int) - 16 := IntWalk.i64_in _ (by omega)
        have e3 : IntKind.i64.wrap ((t : Int) - 7) = (t : Int) - 7 := IntWalk.i64_in _ (by omega)
        have n0 : ((t : Int) - 15).toNat = t - 15 := by omega
        have n1 : ((t : Int) - 2).toNat = t - 2 := by omega
        have n2 : ((t : Int) - 16).toNat = t - 16 := by omega
        have n3 : ((t : Int) - 7).toNat = t - 7 := by omega
        have p0 : (t : Int) - 15 < 64 := by omega
        have p1 : (t : Int) - 2 < 64 := by omega
        have p2 : (t : Int) - 16 < 64 := by omega
        have p3 : (t : Int) - 7 < 64 := by omega
        have q0 : 0 ≤ (t : Int) - 15 := by omega
        have q1 : 0 ≤ (t : Int) - 2 := by omega
        have q2 : 0 ≤ (t : Int) - 16 := by omega
        have q3 : 0 ≤ (t : Int) - 7 := by omega
        have r0 : 15 ≤ (t : Int) := by omega
        have r1 : 2 ≤ (t : Int) := by omega
        have r2 : 16 ≤ (t : Int) := by omega
        have r3 : 7 ≤ (t : Int) := by omega
        go_wp2_with fail
        go_big_quiet (fail)
        go_wp2_with fail
        have hE2 : Ext [] wr (wr.drewN nq) := (Ext.refl [] _).drewN _
        have k16 := hE2.cell hc16 (by simp)
        have k7 := hE2.cell hc7 (by simp)
        have kt := hE2.cell hct (by simp)
        have hg2 := hE2.blk HG.out (by simp)
        have HG2 := Lib.hid hg2
        clear hg2
        revert hE2 k16 k7 kt HG2
        generalize wr.drewN nq = W2
        intro hE2 k16 k7 kt HG2
        have hfz2 : ∀ j, W2.frozen? ⟨g3, j, none⟩ = false := fun j => frozen_of_row _ _ _ _ _ HG2.out
        clear hc15 hc2 hc16 hc7 hct hfz
        refine wp_region_still_tail 29 (by kernel_rfl) (by kernel_rfl) ?_
        simp only [List.take_succ_cons, List.take_zero, List.drop_succ_cons, List.drop_zero]
        iterate 6 still_step
        still_call (ror7_c _ _)
        still_step
        still_call (ror18_c _ _)
        iterate 11 still_step
        still_call (ror17_c _ _)
        still_step
        still_call (ror19_c _ _)
        iterate 6 still_step
        refine wpStill_nil ?_
        change wpList _ _ _ _ _ W2.drew
        go_wp2_with fail
        go_roundw
        case rel =>
          refine ⟨t + 1, _, by omega, by go_num, ((hE.trans hE2.nil).setCell (.inl (by simp)) _).drew, ?_, ?_, rowU_set HG2.out t _⟩
          · rw [List.length_set]; exact hL
          · show L.set t _ = schedF bs (t + 1)
            rw [schedF, if_neg h16, ← HL.out, ← HX.out, ← HY.out, ← HUu.out, ← HZ.out, mixF]
        case measure => simp [intOf]; omega
    · obtain rfl : t = 64 := by omega
      have z1 : ¬ (((64 : Nat) : Int) < 64) := by omega
      have hsz : (EU.flat L).toArray.size = 64 := by rw [List.size_toArray, EU.length_flat, hL]; rfl
      have hi : (Tryz.prog.info? 130).map (·.size) = some (EU.flat L).toArray.size := by rw [hsz]; kernel_rfl
      have hsz0 : (EU.flat (List.replicate 64 0)).toArray.size = (EU.flat L).toArray.size := by rw [hsz]; rfl
      have hone : (EU.flat L).toArray.all (·.oneCell') = true := Array.all_eq_true_iff_forall_mem.2 (fun v hv => EU.one_flat L v (by simpa using hv))
      have hr2 := hE.blk HR0.out (by simpa using l23)
      have HR2 := Lib.hid hr2
      have HI := Lib.hid hi
      have HZ0 := Lib.hid hsz0
      have HON := Lib.hid hone
      clear hr2 hi hsz0 hone hsz
      go_wp2_with (with_reducible refine hold_at (d := 85) ?_)
      unfold Hold
      refine wpList_load_row rfl 130 (.tmp 3) rfl g3 rfl 130 _ (0, 0) _ HG.out Tryz.underlying130 rfl HI.out ?_
      refine wpList_store_row rfl 130 (.tmp 2) (.tmp 85) rfl g2 _ rfl rfl 130 _ HR2.out HI.out HZ0.out HON.out ?_
      go_wp2_with fail
      refine bodyPost_ret (results_cell_row rfl _ _ g2 130 _ (0, 0) _ rfl (setRow_heap _ g2 _ _ 130 _ HR2.out) Tryz.underlying130 rfl HI.out) rfl ?_
      refine ⟨by rw [flatU, HL.out], ?_⟩
      exact hEw.setRow (.inr l2) _

end Go.Proofs.YtgfajlaibgbdoaaGreat

