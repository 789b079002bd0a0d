
import Derived.Test.YtgfajlaibgbdoaaGreatBy
import Derived.Tactics2
import Derived.Defers
import Derived.Laws.Pointers
import Derived.Laws.LoneSync
import Derived.RegionTactic
import Derived.RegionCalls
import Derived.ChangeAlike
import Derived.Deep.CutBlock
import Derived.BigQuiet
import Derived.Laws.NewBlocks
namespace Go.Proofs.YtgfajlaibgbdoaaGreat
open Go.RowKit

/-! sync.Once, one goroutine: the parts. -/
theorem race_disable (w : World) : (callFunc 158 #[]).run Tryz.prog w = .ok (.value (.tuple #[])) w := run_call_mark0 Tryz.func158 (by kernel_rfl) (by kernel_rfl) (by kernel_rfl) .disable (by kernel_rfl) w
theorem race_enable (w : World) : (callFunc 160 #[]).run Tryz.prog w = .ok (.value (.tuple #[])) w := run_call_mark0 Tryz.func160 (by kernel_rfl) (by kernel_rfl) (by kernel_rfl) .enable (by kernel_rfl) w
theorem race_acquire (a : Addr) (w : World) : (callFunc 161 #[.pointer (some a)]).run Tryz.prog w = .ok (.value (.tuple #[])) w := run_call_marked Tryz.func161 (by kernel_rfl) (by kernel_rfl) (by kernel_rfl) .acquire (by kernel_rfl) a w
theorem race_release (a : Addr) (w : World) : (callFunc 163 #[.pointer (some a)]).run Tryz.prog w = .ok (.value (.tuple #[])) w := run_call_marked Tryz.func163 (by kernel_rfl) (by kernel_rfl) (by kernel_rfl) .releaseMerge (by kernel_rfl) a w

theorem bstore_deferred (a : Addr) (x : Value) (u : FrameMode) (w : World) (hc : w.cell? a = some x) (hz : w.frozen? a = false) :
    CallsD Tryz.prog 153 #[.pointer (some a), .bool true] u w fun e u' w' => u' = u ∧ (e = .returned (.tuple #[]) ∧ w' = w.drew.setCell a (.int .u32 1)) := by
  have hc' : w.drew.cell? a = some x := by go_simp
  have hz' : w.drew.frozen? a = false := by go_simp
  have hst := run_call_store (P := Tryz.prog) Tryz.func156 (by kernel_rfl) (by kernel_rfl) (by kernel_rfl) (by kernel_rfl) (k := .u32) (y := 1) hc' hz'
  go_enter_d Tryz.func153, Tryz.ntmps153
  go_wp2
  go_region_calls
  all_goals (go_end0; exact ⟨rfl, rfl⟩)

set_option maxRecDepth 100000 in
theorem iunlock_c (a : Addr) (w : World) (hc : w.cell? a = some (.int .i32 1)) (hz : w.frozen? a = false) :
    Calls Tryz.prog 155 #[.pointer (some a)] w fun e w' => e = .returned (.tuple #[]) ∧ w' = w.setCell a (.int .i32 0) := by
  have hd := race_disable
  have he := race_enable
  have hr := race_release
  have hadd := run_call_add (P := Tryz.prog) Tryz.func164 (by kernel_rfl) (by kernel_rfl) (by kernel_rfl) .i32 (by kernel_rfl) (y := -1) (s := 0) hc hz (by simp [go_sem]; rfl)
  have hcv := run_convert_to_unsafe (P := Tryz.prog) (src := 264) (dst := 268) Tryz.underlying264 Tryz.underlying268 (by kernel_rfl) hc
  go_enter Tryz.func155, Tryz.ntmps155
  go_wp2
  go_end0
  exact ⟨rfl, rfl⟩

end Go.Proofs.YtgfajlaibgbdoaaGreat

namespace Go.Proofs.YtgfajlaibgbdoaaGreat
open Go.RowKit

theorem unlock_deferred (a : Addr) (u : FrameMode) (w : World) (hc : w.cell? a = some (.int .i32 1)) (hz : w.frozen? a = false) :
    CallsD Tryz.prog 152 #[.pointer (some a)] u w fun e u' w' => u' = u ∧ (e = .returned (.tuple #[]) ∧ w' = w.setCell a (.int .i32 0)) := by
  go_enter_d Tryz.func152, Tryz.ntmps152
  go_wp2_with fail
  refine (iunlock_c a _ hc hz).mono ?_
  rintro e w' ⟨rfl, rfl⟩
  go_wp2
  go_end0
  exact ⟨rfl, rfl⟩

set_option maxRecDepth 100000 in
theorem ilock_c (a : Addr) (w : World) (hc : w.cell? a = some (.int .i32 0)) (hz : w.frozen? a = false) :
    Calls Tryz.prog 154 #[.pointer (some a)] w fun e w' => e = .returned (.tuple #[]) ∧ w' = w.setCell a (.int .i32 1) := by
  have hd := race_disable
  have he := race_enable
  have ha := race_acquire
  have hcas := run_call_cas_hit (P := Tryz.prog) Tryz.func159 (by kernel_rfl) (by kernel_rfl) (by kernel_rfl) .i32 (by kernel_rfl) (y := 1) hc hz
  have hc' : (w.setCell a (.int .i32 1)).cell? a = some (.int .i32 1) := World.cell?_setCell_same w a _ hc
  have hcv := run_convert_to_unsafe (P := Tryz.prog) (src := 264) (dst := 268) Tryz.underlying264 Tryz.underlying268 (by kernel_rfl) hc'
  go_enter Tryz.func154, Tryz.ntmps154
  go_wp2
  refine bodyPost_ret (results_none rfl _ _ _) rfl ?_
  exact ⟨rfl, rfl⟩

theorem lock_c (a : Addr) (w : World) (hc : w.cell? a = some (.int .i32 0)) (hz : w.frozen? a = false) :
    Calls Tryz.prog 151 #[.pointer (some a)] w fun e w' => e = .returned (.tuple #[]) ∧ w' = w.setCell a (.int .i32 1) := by
  go_enter Tryz.func151, Tryz.ntmps151
  go_wp2_with fail
  refine (ilock_c a _ hc hz).mono ?_
  rintro e w' ⟨rfl, rfl⟩
  go_wp2
  go_end0
  exact ⟨rfl, rfl⟩

theorem bload_c (a : Addr) (d : Int) (w : World) (h0 : w.cell? a = some (.int .u32 d)) :
    Calls Tryz.prog 148 #[.pointer (some a)] w fun e w' => e = .returned (.bool (d != 0)) ∧ w' = w := by
  have hl := run_call_load (P := Tryz.prog) Tryz.func150 (by kernel_rfl) (by kernel_rfl) (by kernel_rfl) .u32 (by kernel_rfl) h0
  go_enter Tryz.func148, Tryz.ntmps148
  go_wp2
  go_ret
  exact ⟨rfl, rfl⟩

/-! The field's tables. -/
/-- the cells of a field: the Once (its word, the lock's two), 510 powers, 256 logarithms. -/
structure FGood (c : Array Value) : Prop where
  size : c.size = 769
  exp : ∀ i, i < 510 → ∃ b : UInt8, c[3 + i]? = some (.int .u8 b.toNat)
  log : ∀ i, i < 256 → ∃ n : Int, 0 ≤ n ∧ n ≤ 254 ∧ c[513 + i]? = some (.int .i64 n)

theorem FGood.setExp {c : Array Value} (h : FGood c) {i : Nat} (hi : i < 510) (b : UInt8) : FGood (c.setIfInBounds (3 + i) (.int .u8 b.toNat)) := by
  refine ⟨by simp [h.size], fun j hj => ?_, fun j hj => ?_⟩
  · by_cases hij : i = j
    · subst hij; exact ⟨b, by rw [Array.getElem?_setIfInBounds_self_of_lt (by rw [h.size]; omega)]⟩
    · obtain ⟨x, hx⟩ := h.exp j hj
      exact ⟨x, by rw [Array.getElem?_setIfInBounds_ne (by omega)]; exact hx⟩
  · obtain ⟨x, h1, h2, hx⟩ := h.log j hj
    exact ⟨x, h1, h2, by rw [Array.getElem?_setIfInBounds_ne (by omega)]; exact hx⟩
theorem FGood.setLog {c : Array Value} (h : FGood c) {i : Nat} (hi : i < 256) {n : Int} (h0 : 0 ≤ n) (h1 : n ≤ 254) : FGood (c.setIfInBounds (513 + i) (.int .i64 n)) := by
  refine ⟨by simp [h.size], fun j hj => ?_, fun j hj => ?_⟩
  · obtain ⟨x, hx⟩ := h.exp j hj
    exact ⟨x, by rw [Array.getElem?_setIfInBounds_ne (by omega)]; exact hx⟩
  · by_cases hij : i = j
    · subst hij; exact ⟨n, h0, h1, by rw [Array.getElem?_setIfInBounds_self_of_lt (by rw [h.size]; omega)]⟩
    · obtain ⟨x, h2, h3, hx⟩ := h.log j hj
      exact ⟨x, h2, h3, by rw [Array.getElem?_setIfInBounds_ne (by omega)]; exact hx⟩
theorem FGood.setHead {c : Array Value} (h : FGood c) {i : Nat} (hi : i < 3) (v : Value) : FGood (c.setIfInBounds i v) := by
  refine ⟨by simp [h.size], fun j hj => ?_, fun j hj => ?_⟩
  · obtain ⟨x, hx⟩ := h.exp j hj
    exact ⟨x, by rw [Array.getElem?_setIfInBounds_ne (by omega)]; exact hx⟩
  · obtain ⟨x, h1, h2, hx⟩ := h.log j hj
    exact ⟨x, h1, h2, by rw [Array.getElem?_setIfInBounds_ne (by omega)]; exact hx⟩

theorem xor_ok : ∀ x : Nat, x < 256 → 128 ≤ x → 0 ≤ bits .xor .i64 ((x : Int) * 2) 285 ∧ bits .xor .i64 ((x : Int) * 2) 285 ≤ 255 := by decide +kernel

set_option maxRecDepth 100000 in
set_option maxHeartbeats 1000000 in
theorem tables1_c (pl : Addr) (f : Nat) (c : Array Value) (w : World) (hpb : pl.block ≠ f) (hp : w.cell? pl = some (.pointer (some ⟨f, 0, none⟩))) (hf : w.heap[f]? = some (.cells c 216 (0, 0))) (hc : FGood c) :
    Calls Tryz.prog 147 #[.pointer (some pl)] w fun e w' => e = .returned (.tuple #[]) ∧ ∃ c', w'.heap[f]? = some (.cells c' 216 (0, 0)) ∧ FGood c' ∧ (∀ i, i < 3 → c'[i]? = c[i]?) ∧ Ext [f] w w' := by
  go_enter Tryz.func147, Tryz.ntmps147
  have hu8 : ∀ x : Nat, x ≤ 255 → (x : Int) = ((UInt8.ofNat x).toNat : Int) := fun x hx => by
    simp only [UInt8.toNat_ofNat', Nat.reducePow]
    rw [Nat.mod_eq_of_lt (by omega)]
  have HU8 := Lib.hid hu8
  have HF := Lib.hid hf
  have HC := Lib.hid hc
  obtain ⟨pb, po, ps⟩ := pl
  obtain rfl : ps = none := World.cell?_spot hp
  have hpb' : pb ≠ f := hpb
  clear hu8 hf hc hpb
  go_wp2_with fail
  go_loopw [1, 2, 3] (fun xv _ kv wr => ∃ (k x : Nat) (c' : Array Value), k ≤ 255 ∧ x ≤ 255 ∧ xv = .int .i64 x ∧ kv = .int .i64 k ∧ Ext [f] w wr ∧ Hid (wr.heap[f]? = some (.cells c' 216 (0, 0))) ∧ Hid (FGood c' ∧ ∀ i, i < 3 → c'[i]? = c[i]?)) (fun _ _ kv _ => 255 - (intOf kv).toNat)
  case atStart => exact ⟨0, 1, c, by omega, by omega, rfl, rfl, Ext.refl _ _, HF, HC.out, fun i _ => rfl⟩
  case round =>
    obtain ⟨k, x, c', hk, hx, rfl, rfl, hE, HG, HGC⟩ := hrel
    have hpc := hE.cell hp (by simpa using hpb')
    have hsz := HGC.out.1.size
    by_cases hlt : k < 255
    · have z1 : (k : Int) < 255 := by omega
      have w1 : IntKind.u8.wrap (x : Int) = x := by simp [IntKind.wrap, IntKind.signed, IntKind.bits]; omega
      have w2 : IntKind.i64.wrap ((k : Int) + 255) = (k : Int) + 255 := IntWalk.i64_in _ (by omega)
      have w3 : ((k : Int) + 255).toNat = k + 255 := by omega
      have w4 : (k : Int) + 255 < 510 := by omega
      have w5 : (0 : Int) ≤ (k : Int) + 255 := by omega
      have w6 : (k : Int) < 510 := by omega
      have w7 : (x : Int) < 256 := by omega
      have w8 : IntKind.i64.wrap ((x : Int) * 2) = (x : Int) * 2 := IntWalk.i64_in _ (by omega)
      have hd := (Ext.refl [] wr).drew.cell hpc (by simp)
      have hG := HGC.out.1
      obtain ⟨e1, he1⟩ := hG.exp k (by omega)
      obtain ⟨e2, he2⟩ := hG.exp (k + 255) (by omega)
      have m1 : wr.cell? ⟨f, 3 + k, none⟩ = some (.int .u8 e1.toNat) := by rw [cell_of_row wr f _ _ _ _ HG.out]; exact he1
      have m2 : wr.cell? ⟨f, 3 + (k + 255), none⟩ = some (.int .u8 e2.toNat) := by rw [cell_of_row wr f _ _ _ _ HG.out]; exact he2
      have hfz : ∀ j, wr.frozen? ⟨f, j, none⟩ = false := fun j => frozen_of_row _ _ _ _ _ HG.out
      clear he1 he2 hG
      go_wp2_with fail
      refine wp_region_u (fun W => W.cell? ⟨pb, po, none⟩ = some (.pointer (some ⟨f, 0, none⟩))) (fun _ => true) (by kernel_rfl) hd (fun hS => ?_)
      (refine wpAnyU_take (i := 0) rfl (by kernel_rfl) (by kernel_rfl) (by kernel_rfl) (by kernel_rfl) (by exact fun _ _ _ h => h) (by assumption) (Or.inl ⟨by rfl, fun W hW => by (have hWW := hW; clear hW; go_split_ands; go_simp; try rfl)⟩) ?_); (try go_frame)
      (refine wpAnyU_take (i := 1) rfl (by kernel_rfl) (by kernel_rfl) (by kernel_rfl) (by kernel_rfl) (by exact fun _ _ _ h => h) (by assumption) (Or.inl ⟨by rfl, fun W hW => by (have hWW := hW; clear hW; go_split_ands; go_simp; try rfl)⟩) ?_); (try go_frame)
      (refine wpAnyU_take (i := 2) rfl (by kernel_rfl) (by kernel_rfl) (by kernel_rfl) (by kernel_rfl) (by exact fun _ _ _ h => h) (by assumption) (Or.inl ⟨by rfl, fun W hW => by (have hWW := hW; clear hW; go_split_ands; go_simp; try rfl)⟩) ?_); (try go_frame)
      (refine wpAnyU_take (i := 3) rfl (by kernel_rfl) (by kernel_rfl) (by kernel_rfl) (by kernel_rfl) (by exact fun _ _ _ h => h) (by assumption) (Or.inl ⟨by rfl, fun W hW => by (have hWW := hW; clear hW; go_split_ands; go_simp; try rfl)⟩) ?_); (try go_frame)
      (refine wpAnyU_take (i := 4) rfl (by kernel_rfl) (by kernel_rfl) (by kernel_rfl) (by kernel_rfl) (by exact fun _ _ _ h => h) (by assumption) (Or.inl ⟨by rfl, fun W hW => by (have hWW := hW; clear hW; go_split_ands; go_simp; try rfl)⟩) ?_); (try go_frame)
      (refine wpAnyU_take (i := 5) rfl (by kernel_rfl) (by kernel_rfl) (by kernel_rfl) (by kernel_rfl) (by exact fun _ _ _ h => h) (by assumption) (Or.inl ⟨by rfl, fun W hW => by (have hWW := hW; clear hW; go_split_ands; go_simp; try rfl)⟩) ?_); (try go_frame)
      (refine wpAnyU_take (i := 6) rfl (by kernel_rfl) (by kernel_rfl) (by kernel_rfl) (by kernel_rfl) (by exact fun _ _ _ h => h) (by assumption) (Or.inl ⟨by rfl, fun W hW => by (have hWW := hW; clear hW; go_split_ands; go_simp; try rfl)⟩) ?_); (try go_frame)
      (refine wpAnyU_take (i := 7) rfl (by kernel_rfl) (by kernel_rfl) (by kernel_rfl) (by kernel_rfl) (by exact fun _ _ _ h => h) (by assumption) (Or.inl ⟨by rfl, fun W hW => by (have hWW := hW; clear hW; go_split_ands; go_simp; try rfl)⟩) ?_); (try go_frame)
      (refine wpAnyU_take (i := 8) rfl (by kernel_rfl) (by kernel_rfl) (by kernel_rfl) (by kernel_rfl) (by exact fun _ _ _ h => h) (by assumption) (Or.inl ⟨by rfl, fun W hW => by (have hWW := hW; clear hW; go_split_ands; go_simp; try rfl)⟩) ?_); (try go_frame)
      (refine wpAnyU_take (i := 9) rfl (by kernel_rfl) (by kernel_rfl) (by kernel_rfl) (by kernel_rfl) (by exact fun _ _ _ h => h) (by assumption) (Or.inl ⟨by rfl, fun W hW => by (have hWW := hW; clear hW; go_split_ands; go_simp; try rfl)⟩) ?_); (try go_frame)
      (refine wpAnyU_take (i := 10) rfl (by kernel_rfl) (by kernel_rfl) (by kernel_rfl) (by kernel_rfl) (by exact fun _ _ _ h => h) (by assumption) (Or.inl ⟨by rfl, fun W hW => by (have hWW := hW; clear hW; go_split_ands; go_simp; try rfl)⟩) ?_); (try go_frame); (simp only [List.getElem_toArray, List.getElem_cons_zero, List.getElem_cons_succ, List.set_cons_zero, List.set_cons_succ])
      (refine wpAnyU_take (i := 11) rfl (by kernel_rfl) (by kernel_rfl) (by kernel_rfl) (by kernel_rfl) (by exact fun _ _ _ h => h) (by assumption) (Or.inl ⟨by rfl, fun W hW => by (have hWW := hW; clear hW; go_split_ands; go_simp; try rfl)⟩) ?_); (try go_frame); (simp only [List.getElem_toArray, List.getElem_cons_zero, List.getElem_cons_succ, List.set_cons_zero, List.set_cons_succ])
      (refine wpAnyU_take (i := 13) rfl (by kernel_rfl) (by kernel_rfl) (by kernel_rfl) (by kernel_rfl) (by exact fun _ _ _ h => h) (by assumption) (Or.inl ⟨by rfl, fun W hW => by (have hWW := hW; clear hW; go_split_ands; go_simp; try rfl)⟩) ?_); (try go_frame); (simp only [List.getElem_toArray, List.getElem_cons_zero, List.getElem_cons_succ, List.set_cons_zero, List.set_cons_succ])
      (refine wpAnyU_take (i := 14) rfl (by kernel_rfl) (by kernel_rfl) (by kernel_rfl) (by kernel_rfl) (by exact fun _ _ _ h => h) (by assumption) (Or.inl ⟨by rfl, fun W hW => by (have hWW := hW; clear hW; go_split_ands; go_simp; try rfl)⟩) ?_); (try go_frame); (simp only [List.getElem_toArray, List.getElem_cons_zero, List.getElem_cons_succ, List.set_cons_zero, List.set_cons_succ])
      refine wpAnyU_one (i := 12) (by kernel_rfl) rfl (fun K hK => ?_)
      rw [if_pos (show Region.wanted _ _ = true from rfl)]
      go_simp
      refine hK.out _ _ (fun _ => (Ext.setCell (S := [f]) (p := ⟨f, 3 + k, none⟩) (Ext.refl [f] _) (.inl (by simp)) _).cell hS (by simpa using hpb')) (fun hS1 => ?_)
      have hS2 := hS1 rfl
      clear hK hS hS1
      (refine wpAnyU_take (i := 15) rfl (by kernel_rfl) (by kernel_rfl) (by kernel_rfl) (by kernel_rfl) (by exact fun _ _ _ h => h) (by assumption) (Or.inl ⟨by rfl, fun W hW => by (have hWW := hW; clear hW; go_split_ands; go_simp; try rfl)⟩) ?_); (try go_frame); (simp only [List.getElem_toArray, List.getElem_cons_zero, List.getElem_cons_succ, List.set_cons_zero, List.set_cons_succ])
      refine wpAnyU_one (i := 16) (by kernel_rfl) rfl (fun K hK => ?_)
      rw [if_pos (show Region.wanted _ _ = true from rfl)]
      go_simp
      have hE4 : Ext [f] wr (((wr.setCell ⟨f, 3 + k, none⟩ (.int .u8 x)).setCell ⟨f, 3 + (k + 255), none⟩ (.int .u8 x)).drew) := (((Ext.refl [f] wr).setCell (.inl (by simp)) _).setCell (.inl (by simp)) _).drew
      have hg4 : (((wr.setCell ⟨f, 3 + k, none⟩ (.int .u8 x)).setCell ⟨f, 3 + (k + 255), none⟩ (.int .u8 x)).drew).heap[f]? = some (.cells ((c'.setIfInBounds (3 + k) (.int .u8 x)).setIfInBounds (3 + (k + 255)) (.int .u8 x)) 216 (0, 0)) := heap_setCell_same _ f _ _ _ _ (heap_setCell_same wr f (3 + k) _ _ _ HG.out)
      have hx8 := HU8.out x hx
      have hgood4 : FGood ((c'.setIfInBounds (3 + k) (.int .u8 x)).setIfInBounds (3 + (k + 255)) (.int .u8 x)) := by
        rw [hx8]; exact (HGC.out.1.setExp (by omega) _).setExp (by omega) _
      have hhead4 : ∀ i, i < 3 → ((c'.setIfInBounds (3 + k) (Value.int .u8 x)).setIfInBounds (3 + (k + 255)) (.int .u8 x))[i]? = c[i]? := fun i hi => by
        rw [Array.getElem?_setIfInBounds_ne (by omega), Array.getElem?_setIfInBounds_ne (by omega)]; exact HGC.out.2 i hi
      refine hK.out _ _ (fun _ => hE4.cell hpc (by simpa using hpb')) (fun _ => ?_)
      clear hK hS2 m1 m2 hfz hx8
      refine wpAnyU_done (by kernel_rfl) ?_ _
      revert hE4 hg4 hgood4 hhead4
      generalize World.drew _ = W4
      generalize (c'.setIfInBounds (3 + k) (Value.int .u8 x)).setIfInBounds (3 + (k + 255)) (.int .u8 x) = c4
      intro hE4 hg4 hgood4 hhead4
      obtain ⟨n5, h50, h51, h5⟩ := hgood4.log x (by omega)
      have m5 : W4.cell? ⟨f, 513 + x, none⟩ = some (.int .i64 n5) := by rw [cell_of_row W4 f _ _ _ _ hg4]; exact h5
      have hp4 := hE4.cell hpc (by simpa using hpb')
      have hfz4 : ∀ j, W4.frozen? ⟨f, j, none⟩ = false := fun j => frozen_of_row _ _ _ _ _ hg4
      have hE5 : Ext [f] w (W4.setCell ⟨f, 513 + x, none⟩ (.int .i64 k)) := (hE.trans hE4).setCell (.inl (by simp)) _
      have hg5 : (W4.setCell ⟨f, 513 + x, none⟩ (.int .i64 k)).heap[f]? = some (.cells (c4.setIfInBounds (513 + x) (.int .i64 k)) 216 (0, 0)) := heap_setCell_same _ f _ _ _ _ hg4
      have hgood5 : FGood (c4.setIfInBounds (513 + x) (.int .i64 k)) := hgood4.setLog (by omega) (by omega) (by omega)
      have hhead5 : ∀ i, i < 3 → (c4.setIfInBounds (513 + x) (Value.int .i64 k))[i]? = c[i]? := fun i hi => by
        rw [Array.getElem?_setIfInBounds_ne (by omega)]; exact hhead4 i hi
      have HG5 := Lib.hid hg5
      have HC5 := Lib.hid (And.intro hgood5 hhead5)
      have HE5 := Lib.hid hE5
      clear hg4 hgood4 hhead4 h5 hg5 hgood5 hhead5 hE5 hE4
      by_cases hbig : 128 ≤ x
      · have hxo := xor_ok x (by omega) hbig
        obtain ⟨y, hy⟩ : ∃ y : Nat, (y : Int) = bits .xor .i64 ((x : Int) * 2) 285 := ⟨(bits .xor .i64 ((x : Int) * 2) 285).toNat, by omega⟩
        have hy1 : y ≤ 255 := by omega
        have hb1 : (255 : Int) < (x : Int) * 2 := by omega
        have hy' := hy.symm
        clear hxo hy
        go_wp2_with fail
        go_roundw
        case rel => exact ⟨k + 1, y, _, by omega, hy1, rfl, by go_num, HE5.out, HG5, HC5⟩
        case measure => simp [intOf]; omega
      · have hb1 : ¬ ((255 : Int) < (x : Int) * 2) := by omega
        go_wp2_with fail
        go_roundw
        case rel => exact ⟨k + 1, x * 2, _, by omega, by omega, by go_num, by go_num, HE5.out, HG5, HC5⟩
        case measure => simp [intOf]; omega
    · have z1 : ¬ ((k : Int) < 255) := by omega
      go_wp2
      go_end0
      exact ⟨rfl, c', HG.out, HGC.out.1, HGC.out.2, hE⟩

end Go.Proofs.YtgfajlaibgbdoaaGreat

namespace Go.Proofs.YtgfajlaibgbdoaaGreat
open Go.RowKit

/-- a field; d: its Once's word. -/
def FldR (w : World) (f : Nat) : Prop := ∃ (c : Array Value) (d : Int), w.heap[f]? = some (.cells c 216 (0, 0)) ∧ FGood c ∧ c[0]? = some (.int .u32 d) ∧ c[1]? = some (.int .i32 0)

set_option maxRecDepth 100000 in
set_option maxHeartbeats 1600000 in
theorem slow_c (pb f : Nat) (c : Array Value) (w : World) (hpb : pb ≠ f) (hp : w.cell? ⟨pb, 0, none⟩ = some (.pointer (some ⟨f, 0, none⟩))) (hf : w.heap[f]? = some (.cells c 216 (0, 0))) (hc : FGood c)
    (h0 : c[0]? = some (.int .u32 0)) (h1 : c[1]? = some (.int .i32 0)) :
    Calls Tryz.prog 149 #[.pointer (some ⟨f, 0, none⟩), .func (.func 147) #[] #[.pointer (some ⟨pb, 0, none⟩)]] w fun e w' => e = .returned (.tuple #[]) ∧ FldR w' f ∧ Ext [f] w w' := by
  have hnot : ∀ (x : Bool) (w : World), (Op.unary .not (.bool x)).run Tryz.prog w = .ok (.bool (!x)) w := fun _ _ => rfl
  have HF := Lib.hid hf
  have HC := Lib.hid hc
  have f1 : w.frozen? ⟨f, 1, none⟩ = false := frozen_of_row _ _ _ _ _ hf
  have q1 : w.cell? ⟨f, 1, none⟩ = some (.int .i32 0) := by rw [cell_of_row w f 1 _ _ _ hf]; exact h1
  go_enter_defers Tryz.func149, Tryz.ntmps149
  go_wp2_with fail
  refine (lock_c ⟨f, 1, none⟩ _ q1 f1).mono ?_
  rintro e W1 ⟨rfl, rfl⟩
  have hg1 := heap_setCell_same w f 1 _ _ (.int .i32 1) HF.out
  have hE1 : Ext [f] w (w.setCell ⟨f, 1, none⟩ (.int .i32 1)) := (Ext.refl [f] w).setCell (.inl (by simp)) _
  have hgood1 : FGood (c.setIfInBounds 1 (.int .i32 1)) := HC.out.setHead (by omega) _
  have e10 : (c.setIfInBounds 1 (Value.int .i32 1))[0]? = some (.int .u32 0) := by rw [Array.getElem?_setIfInBounds_ne (by omega)]; exact h0
  have e11 : (c.setIfInBounds 1 (Value.int .i32 1))[1]? = some (.int .i32 1) := by rw [Array.getElem?_setIfInBounds_self_of_lt (by rw [HC.out.size]; omega)]
  revert hg1 hE1 hgood1 e10 e11
  generalize World.setCell _ _ _ = W1
  generalize c.setIfInBounds 1 (Value.int .i32 1) = c1
  intro hg1 hE1 hgood1 e10 e11
  have hp1 := hE1.cell hp (by simpa using hpb)
  have q10 : W1.cell? ⟨f, 0, none⟩ = some (.int .u32 0) := by rw [cell_of_row W1 f 0 _ _ _ hg1]; exact e10
  have HG1 := Lib.hid hg1
  clear hg1 h0 h1 q1 f1
  go_wp2_with fail
  refine (bload_c ⟨f, 0, none⟩ 0 _ q10).mono ?_
  rintro e W2 ⟨rfl, rfl⟩
  go_wp2_with fail
  refine (tables1_c ⟨pb, 0, none⟩ f c1 _ hpb hp1 HG1.out hgood1).mono ?_
  rintro e W3 ⟨rfl, c3, hg3, hgood3, hhead3, hE3⟩
  have d0 : W3.cell? ⟨f, 0, none⟩ = some (.int .u32 0) := by rw [cell_of_row W3 f 0 _ _ _ hg3, hhead3 0 (by omega)]; exact e10
  have fz3 : ∀ j, W3.frozen? ⟨f, j, none⟩ = false := fun j => frozen_of_row _ _ _ _ _ hg3
  have hE03 : Ext [f] w W3 := hE1.trans hE3
  have HG3 := Lib.hid hg3
  have HH3 := Lib.hid hhead3
  clear hg3 hhead3
  go_wp2
  refine leaves_cons (f := 153) (args := #[.pointer (some ⟨f, 0, none⟩), .bool true]) (by simp) (by simp [go_sem]) ?_
  refine (bstore_deferred ⟨f, 0, none⟩ (.int .u32 0) .returning _ d0 (fz3 0)).mono ?_
  rintro e u' w'' ⟨rfl, rfl, rfl⟩
  have hg4 : (W3.drew.setCell ⟨f, 0, none⟩ (.int .u32 1)).heap[f]? = some (.cells (c3.setIfInBounds 0 (.int .u32 1)) 216 (0, 0)) := heap_setCell_same W3.drew f 0 _ _ _ HG3.out
  have hE4 : Ext [f] w (W3.drew.setCell ⟨f, 0, none⟩ (.int .u32 1)) := (hE03.drew).setCell (.inl (by simp)) _
  have e40 : (c3.setIfInBounds 0 (Value.int .u32 1))[0]? = some (.int .u32 1) := by rw [Array.getElem?_setIfInBounds_self_of_lt (by rw [hgood3.size]; omega)]
  have e41 : (c3.setIfInBounds 0 (Value.int .u32 1))[1]? = some (.int .i32 1) := by rw [Array.getElem?_setIfInBounds_ne (by omega), HH3.out 1 (by omega)]; exact e11
  have hgood4 : FGood (c3.setIfInBounds 0 (.int .u32 1)) := hgood3.setHead (by omega) _
  refine leaves_cons (f := 152) (args := #[.pointer (some ⟨f, 1, none⟩)]) (by simp [settle]) (by simp [go_sem]) ?_
  refine (unlock_deferred ⟨f, 1, none⟩ _ _ (by rw [cell_of_row _ f 1 _ _ _ hg4]; exact e41) (frozen_of_row _ _ _ _ _ hg4)).mono ?_
  rintro e u' w'' ⟨rfl, rfl, rfl⟩
  have hg5 := heap_setCell_same _ f 1 _ _ (.int .i32 0) hg4
  have hE5 : Ext [f] w ((W3.drew.setCell ⟨f, 0, none⟩ (.int .u32 1)).setCell ⟨f, 1, none⟩ (.int .i32 0)) := hE4.setCell (.inl (by simp)) _
  have hgood5 : FGood ((c3.setIfInBounds 0 (.int .u32 1)).setIfInBounds 1 (.int .i32 0)) := hgood4.setHead (by omega) _
  have e50 : ((c3.setIfInBounds 0 (Value.int .u32 1)).setIfInBounds 1 (.int .i32 0))[0]? = some (.int .u32 1) := by rw [Array.getElem?_setIfInBounds_ne (by omega)]; exact e40
  have e51 : ((c3.setIfInBounds 0 (Value.int .u32 1)).setIfInBounds 1 (.int .i32 0))[1]? = some (.int .i32 0) := by rw [Array.getElem?_setIfInBounds_self_of_lt (by rw [hgood4.size]; omega)]
  have hfin : FldR ((W3.drew.setCell ⟨f, 0, none⟩ (.int .u32 1)).setCell ⟨f, 1, none⟩ (.int .i32 0)) f := ⟨_, 1, hg5, hgood5, e50, e51⟩
  simp [Leaves, settle, results, Tryz.results149]
  exact ⟨hfin, hE5⟩

set_option maxRecDepth 100000 in
set_option maxHeartbeats 1600000 in
theorem do_c (pb f : Nat) (w : World) (hpb : pb ≠ f) (hp : w.cell? ⟨pb, 0, none⟩ = some (.pointer (some ⟨f, 0, none⟩))) (hf : FldR w f) :
    Calls Tryz.prog 146 #[.pointer (some ⟨f, 0, none⟩), .func (.func 147) #[] #[.pointer (some ⟨pb, 0, none⟩)]] w fun e w' => e = .returned (.tuple #[]) ∧ FldR w' f ∧ Ext [f] w w' := by
  have hnot : ∀ (x : Bool) (w : World), (Op.unary .not (.bool x)).run Tryz.prog w = .ok (.bool (!x)) w := fun _ _ => rfl
  have HF := Lib.hid hf
  obtain ⟨c, d, hg, hc, h0, h1⟩ := hf
  have q0 : w.cell? ⟨f, 0, none⟩ = some (.int .u32 d) := by rw [cell_of_row w f 0 _ _ _ hg]; exact h0
  by_cases hd : d = 0
  · subst hd
    have HG := Lib.hid hg
    have HC := Lib.hid hc
    have H0 := Lib.hid h0
    have H1 := Lib.hid h1
    clear hg hc h0 h1
    go_enter Tryz.func146, Tryz.ntmps146
    go_wp2_with fail
    refine (bload_c ⟨f, 0, none⟩ 0 _ q0).mono ?_
    rintro e W2 ⟨rfl, rfl⟩
    go_wp2_with fail
    refine (slow_c pb f c _ hpb hp HG.out HC.out H0.out H1.out).mono ?_
    rintro e W3 ⟨rfl, hr3, hE3⟩
    go_wp2
    go_end0
    exact ⟨rfl, hr3, hE3⟩
  · have hd' : (d != 0) = true := by simp [hd]
    clear hg hc h0 h1
    go_enter Tryz.func146, Tryz.ntmps146
    go_wp2_with fail
    refine (bload_c ⟨f, 0, none⟩ d _ q0).mono ?_
    rintro e W2 ⟨rfl, rfl⟩
    rw [hd']
    go_wp2
    go_end0
    exact ⟨rfl, HF.out, Ext.refl _ _⟩

theorem FldR.lt {w : World} {f : Nat} (h : FldR w f) : f < w.heap.size := by obtain ⟨c, d, hg, _⟩ := h; exact lt_of_blk hg
theorem FldR.ext0 {w w' : World} {f : Nat} (h : FldR w f) (he : Ext [] w w') : FldR w' f := by
  obtain ⟨c, d, hg, h⟩ := h
  exact ⟨c, d, he.blk hg (by simp), h⟩

set_option maxRecDepth 100000 in
theorem ready_c (f : Nat) (w : World) (hf : FldR w f) :
    Calls Tryz.prog 140 #[.pointer (some ⟨f, 0, none⟩)] w fun e w' => e = .returned (.pointer (some ⟨f, 0, none⟩)) ∧ FldR w' f ∧ Ext [f] w w' := by
  have hmf : ∀ (fn : Fn) (first cap : Array Value) (w : World), (Instr.makeFunc fn first cap).run Tryz.prog w = .ok (.func fn first cap) w := fun _ _ _ _ => rfl
  have HF := Lib.hid hf
  have hfl := hf.lt
  clear hf
  have ht : Calls Tryz.prog 145 #[.pointer (some ⟨f, 0, none⟩)] w fun e w' => e = .returned (.tuple #[]) ∧ FldR w' f ∧ Ext [f] w w' := by
    go_enter Tryz.func145, Tryz.ntmps145
    go_wp2_with fail
    refine (do_c w.heap.size f _ (by omega) (by go_simp) (HF.out.ext0 ((Ext.refl [] w).alloc _))).mono ?_
    rintro e W3 ⟨rfl, hr3, hE3⟩
    go_wp2
    go_end0
    exact ⟨rfl, hr3, (((Ext.refl [] w).alloc _).nil).trans hE3⟩
  have HT := Lib.hid ht
  clear ht
  go_enter Tryz.func140, Tryz.ntmps140
  go_wp2_with fail
  refine HT.out.mono ?_
  rintro e W3 ⟨rfl, hr3, hE3⟩
  go_wp2
  go_ret
  exact ⟨rfl, hr3, hE3⟩

end Go.Proofs.YtgfajlaibgbdoaaGreat

namespace Go.Proofs.YtgfajlaibgbdoaaGreat
open Go.RowKit

theorem FldR.logs {w : World} {f : Nat} (h : FldR w f) (a : UInt8) : ∃ n : Nat, n ≤ 254 ∧ w.cell? ⟨f, 513 + a.toNat, none⟩ = some (.int .i64 n) := by
  obtain ⟨c, d, hg, hc, _⟩ := h
  obtain ⟨n, h0, h1, h2⟩ := hc.log a.toNat (UInt8.toNat_lt a)
  obtain ⟨m, rfl⟩ : ∃ m : Nat, n = m := ⟨n.toNat, by omega⟩
  exact ⟨m, by omega, by rw [cell_of_row w f _ _ _ _ hg]; exact h2⟩
theorem FldR.exps {w : World} {f : Nat} (h : FldR w f) {i : Nat} (hi : i < 510) : ∃ b : UInt8, w.cell? ⟨f, 3 + i, none⟩ = some (.int .u8 b.toNat) := by
  obtain ⟨c, d, hg, hc, _⟩ := h
  obtain ⟨b, hb⟩ := hc.exp i hi
  exact ⟨b, by rw [cell_of_row w f _ _ _ _ hg]; exact hb⟩

set_option maxRecDepth 100000 in
theorem mul_c (f : Nat) (a b : UInt8) (w : World) (hf : FldR w f) :
    Calls Tryz.prog 136 #[.pointer (some ⟨f, 0, none⟩), .int .u8 a.toNat, .int .u8 b.toNat] w fun e w' => ∃ z : UInt8, e = .returned (.int .u8 z.toNat) ∧ FldR w' f ∧ Ext [f] w w' := by
  have HF := Lib.hid hf
  have ha := UInt8.toNat_lt a
  have hb := UInt8.toNat_lt b
  clear hf
  obtain ⟨x, hx⟩ : ∃ x, x = a.toNat := ⟨_, rfl⟩
  obtain ⟨y, hy⟩ : ∃ y, y = b.toNat := ⟨_, rfl⟩
  have HX := Lib.hid hx
  have HY := Lib.hid hy
  rw [← hx] at ha
  rw [← hy] at hb
  rw [← hx, ← hy]
  clear hx hy
  by_cases ha0 : x = 0
  · subst ha0
    go_enter Tryz.func136, Tryz.ntmps136
    go_wp2
    go_ret
    exact ⟨0, rfl, HF.out, Ext.refl _ _⟩
  · have a1 : ¬ ((x : Int) = 0) := by omega
    have a2 : ((x : Int) == 0) = false := by simpa using a1
    by_cases hb0 : y = 0
    · subst hb0
      go_enter Tryz.func136, Tryz.ntmps136
      go_wp2
      go_ret
      exact ⟨0, rfl, HF.out, Ext.refl _ _⟩
    · have b1 : ¬ ((y : Int) = 0) := by omega
      have b2 : ((y : Int) == 0) = false := by simpa using b1
      go_enter Tryz.func136, Tryz.ntmps136
      go_wp2_with fail
      refine (ready_c f _ HF.out).mono ?_
      rintro e W1 ⟨rfl, hr1, hE1⟩
      obtain ⟨n, hn, hl1⟩ := hr1.logs a
      obtain ⟨m, hm, hl2⟩ := hr1.logs b
      obtain ⟨z, hz⟩ := hr1.exps (i := n + m) (by omega)
      rw [← HX.out] at hl1
      rw [← HY.out] at hl2
      have HR1 := Lib.hid hr1
      have w1 : IntKind.i64.wrap ((n : Int) + (m : Int)) = (n : Int) + (m : Int) := IntWalk.i64_in _ (by omega)
      have w2 : ((n : Int) + (m : Int)).toNat = n + m := by omega
      have w3 : (n : Int) + (m : Int) < 510 := by omega
      have w4 : (0 : Int) ≤ (n : Int) + (m : Int) := by omega
      have w5 : (x : Int) < 256 := by omega
      have w6 : (y : Int) < 256 := by omega
      clear hr1
      go_wp2_with fail
      go_big_quiet (fail)
      go_wp2
      go_ret
      exact ⟨z, rfl, HR1.out.ext0 ((Ext.refl [] _).drewN _), hE1.drewN _⟩

set_option maxRecDepth 100000 in
theorem pow2_c (f : Nat) (k : Nat) (hk : k ≤ 1000) (w : World) (hf : FldR w f) :
    Calls Tryz.prog 138 #[.pointer (some ⟨f, 0, none⟩), .int .u8 2, .int .i64 k] w fun e w' => ∃ z : UInt8, e = .returned (.tuple #[.int .u8 z.toNat, .int .i64 0]) ∧ FldR w' f ∧ Ext [f] w w' := by
  have HF := Lib.hid hf
  clear hf
  by_cases h0 : k = 0
  · subst h0
    go_enter Tryz.func138, Tryz.ntmps138
    go_wp2
    go_ret2
    exact ⟨1, rfl, HF.out, Ext.refl _ _⟩
  · have a0 : ¬ ((k : Int) < 0) := by omega
    have a1 : ¬ ((k : Int) = 0) := by omega
    have a2 : ((k : Int) == 0) = false := by simpa using a1
    go_enter Tryz.func138, Tryz.ntmps138
    go_wp2_with fail
    refine (ready_c f _ HF.out).mono ?_
    rintro e W1 ⟨rfl, hr1, hE1⟩
    obtain ⟨n, hn, hl1⟩ := hr1.logs 2
    have e2 : (2 : UInt8).toNat = 2 := rfl
    rw [e2] at hl1
    have t1 : ((k : Nat) : Int).tmod 255 = ((k % 255 : Nat) : Int) := by rw [Int.tmod_eq_emod_of_nonneg (by omega)]; omega
    obtain ⟨r, hr⟩ : ∃ r, r = k % 255 := ⟨_, rfl⟩
    have hr2 : r ≤ 254 := by omega
    rw [← hr] at t1
    have hnr : n * r ≤ 254 * 254 := Nat.mul_le_mul hn hr2
    have w1 : IntKind.i64.wrap ((n : Int) * (r : Int)) = ((n * r : Nat) : Int) := by rw [← Int.natCast_mul]; exact IntWalk.i64_in _ (by omega)
    obtain ⟨p, hp⟩ : ∃ p, p = n * r := ⟨_, rfl⟩
    rw [← hp] at w1 hnr
    have t2 : ((p : Nat) : Int).tmod 255 = ((p % 255 : Nat) : Int) := by rw [Int.tmod_eq_emod_of_nonneg (by omega)]; omega
    obtain ⟨s, hs⟩ : ∃ s, s = p % 255 := ⟨_, rfl⟩
    have hs2 : s ≤ 254 := by omega
    rw [← hs] at t2
    obtain ⟨z, hz⟩ := hr1.exps (i := s) (by omega)
    have w3 : (s : Int) < 510 := by omega
    have HR1 := Lib.hid hr1
    clear hr1 hr hp hs
    go_wp2_with fail
    go_big_quiet (fail)
    go_wp2
    go_ret2
    exact ⟨z, rfl, HR1.out.ext0 ((Ext.refl [] _).drewN _), hE1.drewN _⟩

end Go.Proofs.YtgfajlaibgbdoaaGreat

