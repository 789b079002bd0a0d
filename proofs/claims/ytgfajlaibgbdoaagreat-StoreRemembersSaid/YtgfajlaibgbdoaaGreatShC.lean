
import Derived.Test.YtgfajlaibgbdoaaGreatShB
import Derived.Laws.IdiomStrings
namespace Go.Proofs.YtgfajlaibgbdoaaGreat
open Go.RowKit

def roundsK : List Int := [1116352408, 1899447441, 3049323471, 3921009573, 961987163, 1508970993, 2453635748, 2870763221, 3624381080, 310598401, 607225278, 1426881987, 1925078388, 2162078206, 2614888103, 3248222580, 3835390401, 4022224774, 264347078, 604807628, 770255983, 1249150122, 1555081692, 1996064986, 2554220882, 2821834349, 2952996808, 3210313671, 3336571891, 3584528711, 113926993, 338241895, 666307205, 773529912, 1294757372, 1396182291, 1695183700, 1986661051, 2177026350, 2456956037, 2730485921, 2820302411, 3259730800, 3345764771, 3516065817, 3600352804, 4094571909, 275423344, 430227734, 506948616, 659060556, 883997877, 958139571, 1322822218, 1537002063, 1747873779, 1955562222, 2024104815, 2227730452, 2361852424, 2428436474, 2756734187, 3204031479, 3329325298]
def beginS : List Int := [1779033703, 3144134277, 1013904242, 2773480762, 1359893119, 2600822924, 528734635, 1541459225]

theorem begin_c (w : World) : Calls Tryz.prog 54 #[] w fun e w' => e = .returned (.agg (EU.flat beginS).toArray) ∧ Ext [] w w' := by
  go_enter Tryz.func54, Tryz.ntmps54
  go_wp2_with (with_reducible refine hold_at (d := 1) ?_)
  rw [zeros8]
  have hg := heap_alloc_new w (.cells (EU.flat (List.replicate 8 0)).toArray 128)
  have hE : Ext [] w (w.alloc (.cells (EU.flat (List.replicate 8 0)).toArray 128)) := (Ext.refl [] w).alloc _
  revert hg hE
  generalize World.alloc _ _ = W1
  intro hg hE
  obtain ⟨g, hge⟩ : ∃ g, g = w.heap.size := ⟨_, rfl⟩
  rw [← hge] at hg
  simp only [← hge]
  have lg : w.heap.size ≤ g := by omega
  clear hge
  unfold Hold
  refine wpList_build rfl 128 _ rfl (by kernel_rfl) ?_
  refine wpList_store_row rfl 128 (.tmp 0) (.tmp 1) rfl g (EU.flat beginS).toArray rfl (by kernel_rfl) 128 _ hg (by rw [rowU_size (n := 8) rfl]; exact infoS) (by rw [rowU_size (n := 8) rfl]; rfl) (rowU_one _) ?_
  go_wp2_with fail
  refine bodyPost_ret (results_cell_row rfl _ _ g 128 _ (0, 0) _ rfl (setRow_heap _ g _ _ 128 _ hg) Tryz.underlying128 rfl (by rw [rowU_size (n := 8) rfl]; exact infoS)) rfl ?_
  exact ⟨rfl, hE.setRow (.inr lg) _⟩

set_option maxRecDepth 100000 in
theorem rounds_c (w : World) : Calls Tryz.prog 55 #[] w fun e w' => e = .returned (.agg (EU.flat roundsK).toArray) ∧ Ext [] w w' := by
  go_enter Tryz.func55, Tryz.ntmps55
  go_wp2_with (with_reducible refine hold_at (d := 1) ?_)
  rw [zeros64]
  have hg := heap_alloc_new w (.cells (EU.flat (List.replicate 64 0)).toArray 130)
  have hE : Ext [] w (w.alloc (.cells (EU.flat (List.replicate 64 0)).toArray 130)) := (Ext.refl [] w).alloc _
  revert hg hE
  generalize World.alloc _ _ = W1
  intro hg hE
  obtain ⟨g, hge⟩ : ∃ g, g = w.heap.size := ⟨_, rfl⟩
  rw [← hge] at hg
  simp only [← hge]
  have lg : w.heap.size ≤ g := by omega
  clear hge
  unfold Hold
  refine wpList_build rfl 130 _ rfl (by kernel_rfl) ?_
  refine wpList_store_row rfl 130 (.tmp 0) (.tmp 1) rfl g (EU.flat roundsK).toArray rfl (by kernel_rfl) 130 _ hg (by rw [rowU_size (n := 64) rfl]; exact infoW) (by rw [rowU_size (n := 64) rfl]; rfl) (rowU_one _) ?_
  go_wp2_with fail
  refine bodyPost_ret (results_cell_row rfl _ _ g 130 _ (0, 0) _ rfl (setRow_heap _ g _ _ 130 _ hg) Tryz.underlying130 rfl (by rw [rowU_size (n := 64) rfl]; exact infoW)) rfl ?_
  exact ⟨rfl, hE.setRow (.inr lg) _⟩

end Go.Proofs.YtgfajlaibgbdoaaGreat

namespace Go.Proofs.YtgfajlaibgbdoaaGreat
open Go.RowKit

theorem EB_take {w : World} {a : Addr} {n cap k : Nat} {s : List UInt8} (h : EB.Rd w (.slice (some a) n cap) s) (hk : k ≤ s.length) : EB.Rd w (.slice (some a) k cap) (s.take k) := by
  rcases h with ⟨h, _⟩ | ⟨g, o, c, h, h1, h2, h3⟩
  · cases h
  · simp only [Value.slice.injEq, Option.some.injEq] at h
    obtain ⟨rfl, rfl, rfl⟩ := h
    refine .inr ⟨g, o, cap, by simp [hk], by simp; omega, h2, fun j u hj => h3 j u ?_⟩
    rw [EB.flat_take] at hj
    rw [List.getElem?_take] at hj
    split at hj
    · exact hj
    · cases hj

theorem EB_drop {w : World} {g o n cap k : Nat} {s : List UInt8} (h : EB.Rd w (.slice (some ⟨g, o, none⟩) n cap) s) : EB.Rd w (.slice (if cap = k then some ⟨g, o, none⟩ else some ⟨g, o + k, none⟩) (n - k) (cap - k)) (s.drop k) := by
  rcases h with ⟨h, _⟩ | ⟨g', o', c, h, h1, h2, h3⟩
  · cases h
  · simp only [Value.slice.injEq, Option.some.injEq, Addr.mk.injEq] at h
    obtain ⟨⟨rfl, rfl, _⟩, rfl, rfl⟩ := h
    by_cases hc : cap = k
    · rw [if_pos hc]
      have e : s.drop k = [] := List.drop_eq_nil_of_le (by omega)
      rw [e]
      exact .inr ⟨g, o, cap - k, by simp; omega, by simp, h2, fun j u hj => by simp [Enc.flat] at hj⟩
    · rw [if_neg hc]
      refine .inr ⟨g, o + k, cap - k, by simp, by simp; omega, h2, fun j u hj => ?_⟩
      rw [EB.flat_drop, List.getElem?_drop] at hj
      rw [← h3 (k * 1 + j) u hj]
      congr 2
      omega

/-- the state behind so many blocks of a message. -/
def stF (P : List UInt8) : Nat → List Int
  | 0 => beginS
  | q + 1 => mixF8 (stF P q) roundsK ((P.drop (64 * q)).take 64)
theorem stF_len (P : List UInt8) : ∀ q, (stF P q).length = 8
  | 0 => rfl
  | q + 1 => mixF8_len _ _ _ (stF_len P q)

def fourB (x : Int) : List UInt8 := [UInt8.ofNat (x / 16777216 % 256).toNat, UInt8.ofNat (x / 65536 % 256).toNat, UInt8.ofNat (x / 256 % 256).toNat, UInt8.ofNat (x % 256).toNat]
/-- the sum of bytes. -/
def shaF (bs : List UInt8) : List UInt8 := (stF (padF bs) ((padF bs).length / 64)).flatMap fourB
theorem shaF_len (bs : List UInt8) : (shaF bs).length = 32 := by
  have h := stF_len (padF bs) ((padF bs).length / 64)
  rw [shaF, List.length_flatMap]
  match stF (padF bs) ((padF bs).length / 64), h with
  | [_, _, _, _, _, _, _, _], _ => simp [fourB]

theorem flat_le (l : List Int) (h : l.length ≤ 8) : (l.map (fun a => (fourB a).length)).sum ≤ 32 := by
  have e : ∀ l : List Int, (l.map (fun a => (fourB a).length)).sum = 4 * l.length := fun l => by
    induction l with
    | nil => rfl
    | cons a l ih =>
      have h4 : (fourB a).length = 4 := rfl
      simp only [List.map_cons, List.sum_cons, ih, List.length_cons]
      omega
  rw [e]; omega

theorem byte_of (y : Int) : y % 256 = ((UInt8.ofNat (y % 256).toNat).toNat : Int) := by
  have h1 := Int.emod_nonneg y (show (256 : Int) ≠ 0 by decide)
  have h2 := Int.emod_lt_of_pos y (show (0 : Int) < 256 by decide)
  have e : (UInt8.ofNat (y % 256).toNat).toNat = (y % 256).toNat := by
    simp only [UInt8.toNat_ofNat', Nat.reducePow]
    exact Nat.mod_eq_of_lt (by omega)
  rw [e, Int.toNat_of_nonneg h1]

theorem flatB (l : List UInt8) : EB.flat l = l.map (fun b => Value.int .u8 b.toNat) := by
  induction l with
  | nil => rfl
  | cons a l ih => simp [ih]; rfl

theorem make_bytes (n c : Nat) (hn : n ≤ c) (hc : c ≤ 65536) (w : World) :
    (Instr.makeSlice 40 (.int .i64 (n : Int)) (.int .i64 (c : Int))).run Tryz.prog w = .ok (.slice (some ⟨w.heap.size, 0, none⟩) n c) (w.alloc (.cells (EB.flat (List.replicate c 0)).toArray 5)) := by
  obtain ⟨i, z, hi, hz, hsize, hby, hzz⟩ := tiB.row
  have hr := run_make (P := Tryz.prog) w 40 5 i z Tryz.underlying40 hi hz .i64 .i64 n c (by omega) (by omega) (by rw [hby]; omega) (by omega)
  simp only [Int.toNat_natCast] at hr
  rw [hr]
  have e : z.cells = #[.int .u8 0] := Array.ext' hzz
  have e2 : madeCells z.cells (c * i.size) = (EB.flat (List.replicate c 0)).toArray := by
    rw [e, hsize, show c * EB.k = c from Nat.mul_one c, flatB]
    apply Array.ext'
    apply List.ext_getElem?
    intro j
    simp only [madeCells, Array.toList_map, Array.toList_range, List.getElem?_map, List.map_replicate, List.getElem?_replicate]
    by_cases hj : j < c
    · simp [hj, Nat.mod_one]
    · simp [hj]
  rw [e2]

theorem idx_state (L : List Int) (hL : L.length = 8) (i : Nat) (hi : i < 8) (W : World) : (Instr.index 128 (.agg (EU.flat L).toArray) (.int .i64 i)).run Tryz.prog W = .ok (.int .u32 (L.getD i 9)) W := by
  have h1 : (0 : Int) ≤ (i : Int) ∧ (i : Int) < 8 := by omega
  have h2 : (EU.flat L)[i]? = some (.int .u32 (L.getD i 9)) := by rw [flatU]; simp [List.getD, hL, hi]
  simp [Instr.index, run_underlying Tryz.underlying128, asIntOf, h1, h2, go_sem, hi]

theorem four_bytes (W : World) (z0 z1 z2 z3 : Int) (b0 b1 b2 b3 : UInt8) (h0 : z0 = b0.toNat) (h1 : z1 = b1.toNat) (h2 : z2 = b2.toNat) (h3 : z3 = b3.toNat) : EB.Rd (W.alloc (.cells #[.int .u8 z0, .int .u8 z1, .int .u8 z2, .int .u8 z3] 5)) (.slice (some ⟨W.heap.size, 0, none⟩) 4 4) [b0, b1, b2, b3] := by
  subst h0 h1 h2 h3
  refine .inr ⟨W.heap.size, 0, 4, rfl, Nat.le_refl _, by simp, fun j u hj => ?_⟩
  rw [cell_of_row _ W.heap.size _ _ _ _ (heap_alloc_new _ _)]
  match j, hj with
  | 0, hj => exact hj
  | 1, hj => exact hj
  | 2, hj => exact hj
  | 3, hj => exact hj
  | j + 4, hj => simp [EB, Enc.flat] at hj

set_option maxRecDepth 100000 in
set_option maxHeartbeats 1000000 in
theorem sum_c (v : Value) (bs : List UInt8) (w : World) (hv : EB.Rd w v bs) (hl : bs.length ≤ 100000) :
    Calls Tryz.prog 29 #[v] w fun e w' => e = .returned (.string ⟨(shaF bs).toArray⟩) ∧ Ext [] w w' := by
  obtain ⟨p, cap, rfl, _⟩ := hv.len_eq
  have HV := Lib.hid hv
  clear hv
  go_enter Tryz.func29, Tryz.ntmps29
  go_wp2_with fail
  refine (begin_c _).mono ?_
  rintro e W1 ⟨rfl, hE1⟩
  go_wp2_with fail
  refine (rounds_c _).mono ?_
  rintro e W2 ⟨rfl, hE2⟩
  have hE12 := hE1.trans hE2
  clear hE1 hE2
  go_wp2_with (with_reducible refine hold_at (d := 3) ?_)
  refine wpl_of rfl fun K hK => ?_
  go_simp
  rw [zeros8]
  refine hK _ _ ?_
  clear hK
  have ga0 := heap_alloc_new W2 (.cells (EU.flat (List.replicate 8 0)).toArray 128)
  have hE2 : Ext [] w (W2.alloc (.cells (EU.flat (List.replicate 8 0)).toArray 128)) := hE12.alloc _
  have l0 := hE12.size
  obtain ⟨gs, hgs⟩ : ∃ g, g = W2.heap.size := ⟨_, rfl⟩
  simp only [← hgs] at ga0 ⊢
  have ls : w.heap.size ≤ gs := by omega
  have GA0 := Lib.hid ga0
  have lsa := lt_of_blk ga0
  clear ga0 hgs l0 hE12
  revert GA0 hE2 lsa
  generalize World.alloc _ _ = W2a
  intro hE2 GA0 lsa
  refine wpl_of rfl fun K hK => ?_
  go_simp
  rw [zeros64]
  refine hK _ _ ?_
  clear hK
  have ga := ((Ext.refl [] W2a).alloc (.cells (EU.flat (List.replicate 64 0)).toArray 130)).blk GA0.out (by simp)
  have gb := heap_alloc_new W2a (.cells (EU.flat (List.replicate 64 0)).toArray 130)
  have hE3 : Ext [] w (W2a.alloc (.cells (EU.flat (List.replicate 64 0)).toArray 130)) := hE2.alloc _
  have l0 := hE2.size
  obtain ⟨gk, hgk⟩ : ∃ g, g = W2a.heap.size := ⟨_, rfl⟩
  simp only [← hgk] at gb ⊢
  have lk : w.heap.size ≤ gk := by omega
  have lsk : gs ≠ gk := by omega
  have GA := Lib.hid ga
  have GB := Lib.hid gb
  clear ga gb hgk l0 hE2 GA0 lsa
  revert GA GB hE3
  generalize World.alloc _ _ = W3
  intro hE3 GA GB
  refine wpList_store_row rfl 128 (.tmp 3) (.tmp 9) rfl gs (EU.flat beginS).toArray rfl rfl 128 _ GA.out (by rw [rowU_size (n := 8) rfl]; exact infoS) (by rw [rowU_size (n := 8) rfl]; rfl) (rowU_one _) ?_
  have ga := setRow_heap W3 gs _ (EU.flat beginS).toArray 128 _ GA.out
  have hE4 : Ext [] w (W3.setRow gs (EU.flat beginS).toArray) := hE3.setRow (.inr ls) _
  have gb := (Ext.setRow (g := gs) (Ext.refl [gs] W3) (.inl (by simp)) (EU.flat beginS).toArray).blk GB.out (by simpa using lsk.symm)
  have GA4 := Lib.hid ga
  have GB4 := Lib.hid gb
  clear ga gb GA GB hE3
  revert GA4 GB4 hE4
  generalize World.setRow _ _ _ = W4
  intro hE4 GA4 GB4
  refine wpList_store_row rfl 130 (.tmp 4) (.tmp 10) rfl gk (EU.flat roundsK).toArray rfl rfl 130 _ GB4.out (by rw [rowU_size (n := 64) rfl]; exact infoW) (by rw [rowU_size (n := 64) rfl]; rfl) (rowU_one _) ?_
  have gb := setRow_heap W4 gk _ (EU.flat roundsK).toArray 130 _ GB4.out
  have hE5 : Ext [] w (W4.setRow gk (EU.flat roundsK).toArray) := hE4.setRow (.inr lk) _
  have ga := (Ext.setRow (g := gk) (Ext.refl [gk] W4) (.inl (by simp)) (EU.flat roundsK).toArray).blk GA4.out (by simpa using lsk)
  have GA5 := Lib.hid ga
  have GB5 := Lib.hid gb
  clear ga gb GA4 GB4 hE4
  revert GA5 GB5 hE5
  generalize World.setRow _ _ _ = W5
  intro hE5 GA5 GB5
  go_wp2_with fail
  refine (pad_c _ bs _ (HV.out.ext0 hE5) hl).mono ?_
  rintro e W6 ⟨v6, rfl, how6, hE6, hn6⟩
  have hE06 := hE5.trans hE6
  have hsg : gs ∉ blkL v6 := fun h => by have := hn6 gs h; have := lt_of_blk GA5.out; omega
  have GA6 := Lib.hid (hE6.blk GA5.out (by simp))
  have GB6 := Lib.hid (hE6.blk GB5.out (by simp))
  have hPl := padF_len bs
  have hPm := padF_mod bs
  obtain ⟨P, hP⟩ : ∃ P, P = padF bs := ⟨_, rfl⟩
  rw [← hP] at how6 hPl hPm
  have hPb : P.length ≤ 200000 := by rw [hPl, padZ]; omega
  have HO6 := Lib.hid how6.rd
  have HP := Lib.hid hP
  clear how6 hP hPl hE6 hn6 GA5 GB5 hE5
  go_wp2_with fail
  go_loopw [5] (fun m wr => ∃ q : Nat, 64 * q ≤ P.length ∧ Ext [gs] W6 wr ∧ Hid (wr.heap[gs]? = some (.cells (EU.flat (stF P q)).toArray 128 (0, 0))) ∧ Hid (EB.Rd wr m (P.drop (64 * q)) ∧ gs ∉ blkL m)) (fun m _ => lenV m)
  case atStart => exact ⟨0, by omega, Ext.refl _ _, GA6, HO6.out, hsg⟩
  case round =>
    obtain ⟨q, hq, hE, HG, HM⟩ := hrel
    obtain ⟨p5, c5, e5, l5⟩ := HM.out.1.len_eq
    obtain ⟨l, hle⟩ : ∃ l, l = (P.drop (64 * q)).length := ⟨_, rfl⟩
    rw [← hle] at e5 l5
    subst e5
    have hl2 : l = P.length - 64 * q := by rw [hle, List.length_drop]
    have HLE := Lib.hid hle
    clear hle
    by_cases h0 : 0 < l
    · have h64 : 64 ≤ l := by omega
      obtain ⟨g5, o5, rfl⟩ : ∃ g o, p5 = some ⟨g, o, none⟩ := by
        rcases HM.out.1 with ⟨_, h⟩ | ⟨g, o, c, h, _⟩
        · have := HLE.out; rw [h] at this; simp at this; omega
        · simp only [Value.slice.injEq] at h; exact ⟨g, o, h.1⟩
      have z0 : (0 : Int) < (l : Int) := by omega
      have z1 : (64 : Int) ≤ (c5 : Int) := by omega
      have z2 : (64 : Int) ≤ (l : Int) := by omega
      have z3 : 64 ≤ c5 := by omega
      have ht := EB_take (k := 64) HM.out.1 (by rw [← HLE.out]; exact h64)
      have hd := EB_drop (k := 64) HM.out.1
      have HT := Lib.hid ht
      have HD := Lib.hid hd
      clear ht hd hl2
      go_wp2_with fail
      refine (mix_c gs gk _ (stF P q) roundsK ((P.drop (64 * q)).take 64) _ HG.out (stF_len P q) (hE.blk GB6.out (by simpa using lsk.symm)) rfl HT.out (by rw [List.length_take, ← HLE.out]; omega)).mono ?_
      rintro e W7 ⟨rfl, hE7, hg7⟩
      have HG7 := Lib.hid hg7
      clear hg7
      have hd := HD.out
      have zc : (64 : Int) ≤ (c5 : Int) := z1
      by_cases hc : c5 = 64
      · rw [if_pos hc] at hd
        have HD2 := Lib.hid (hd.ext hE7 (fun y hy hy2 => HM.out.2 (by simp at hy2; subst hy2; exact hy)))
        clear hd
        go_wp2_with fail
        go_roundw
        case rel =>
          refine ⟨q + 1, by have := HLE.out; rw [List.length_drop] at this; omega, hE.trans hE7, HG7, ?_, by simpa [blkL] using HM.out.2⟩
          have h := HD2.out
          rw [List.drop_drop] at h
          rw [show 64 * (q + 1) = 64 * q + 64 by omega]
          rw [show c5 - 64 = 0 by omega] at h
          exact h
        case measure => simp [lenV]; omega
      · rw [if_neg hc] at hd
        have HD2 := Lib.hid (hd.ext hE7 (fun y hy hy2 => HM.out.2 (by simp at hy2; subst hy2; exact hy)))
        clear hd
        go_wp2_with fail
        go_roundw
        case rel =>
          refine ⟨q + 1, by have := HLE.out; rw [List.length_drop] at this; omega, hE.trans hE7, HG7, ?_, by simpa [blkL] using HM.out.2⟩
          have h := HD2.out
          rw [List.drop_drop] at h
          rw [show 64 * (q + 1) = 64 * q + 64 by omega]
          exact h
        case measure => simp [lenV]; omega
    · have hq8 : q = P.length / 64 := by omega
      have hl0 : l = 0 := by omega
      have HQ8 := Lib.hid hq8
      clear hl2 hq8
      subst hl0
      have z0 : ¬ ((0 : Int) < ((0 : Nat) : Int)) := by omega
      obtain ⟨Z32, hZ32⟩ : ∃ Z : List UInt8, Z = List.replicate 32 0 := ⟨_, rfl⟩
      have hmk : ∀ W : World, (Instr.makeSlice 40 (.int .i64 0) (.int .i64 32)).run Tryz.prog W = .ok (.slice (some ⟨W.heap.size, 0, none⟩) 0 32) (W.alloc (.cells (EB.flat Z32).toArray 5)) := fun W => by rw [hZ32]; exact make_bytes 0 32 (by omega) (by omega) W
      have hEw : Ext [] w wr := hE06.trans' hE (by simp) (fun y hy => .inr (by simp at hy; omega))
      have HZ := Lib.hid hZ32
      clear h0 hZ32
      go_wp2_with (with_reducible refine hold_at (d := 22) ?_)
      have hE8 : Ext [] w (wr.alloc (.cells (EB.flat Z32).toArray 5)) := hEw.alloc _
      have hb8 := heap_alloc_new wr (.cells (EB.flat Z32).toArray 5)
      have hg8 := ((Ext.refl [] wr).alloc (.cells (EB.flat Z32).toArray 5)).blk HG.out (by simp)
      have lb := hEw.size
      obtain ⟨gb, hgb⟩ : ∃ g, g = wr.heap.size := ⟨_, rfl⟩
      simp only [← hgb] at hb8 lb ⊢
      have hO8 : EB.Ow 5 (wr.alloc (.cells (EB.flat Z32).toArray 5)) (.slice (some ⟨gb, 0, none⟩) 0 32) [] := .inr ⟨gb, 0, 32, Z32, rfl, hb8, by simp, by rw [HZ.out]; simp, by simp⟩
      have HG8 := Lib.hid hg8
      have HO8 := Lib.hid hO8
      clear hg8 hb8 hO8 hgb hmk
      revert HG8 HO8 hE8
      generalize World.alloc _ _ = W8
      intro hE8 HG8 HO8
      unfold Hold
      refine wpList_load_row rfl 128 (.tmp 3) rfl gs rfl 128 _ (0, 0) _ HG8.out Tryz.underlying128 rfl (by rw [rowU_size (stF_len P q)]; exact infoS) ?_
      obtain ⟨L, hLe⟩ : ∃ L, L = stF P q := ⟨_, rfl⟩
      have hL : L.length = 8 := by rw [hLe]; exact stF_len P q
      rw [← hLe]
      have HL := Lib.hid hLe
      clear hLe HG8
      go_wp2_with fail
      go_loopw [6, 8, 23] (fun m _ c w2 => ∃ i : Nat, i ≤ 8 ∧ c = .int .i64 i ∧ Ext [] w w2 ∧ Hid (EB.Ow 5 w2 m ((L.take i).flatMap fourB) ∧ ∀ y ∈ blkL m, w.heap.size ≤ y)) (fun _ _ c _ => 8 - (intOf c).toNat)
      case atStart => exact ⟨0, by omega, rfl, hE8, HO8.out, fun y hy => by simp [blkL] at hy; subst hy; exact lb⟩
      case round =>
        obtain ⟨i, hi, rfl, hE9, HM9⟩ := hrel
        by_cases hlt : i < 8
        · have z1 : (i : Int) < 8 := by omega
          have hidx := fun W => idx_state L hL i hlt W
          have hts : (L.take (i + 1)).flatMap fourB = (L.take i).flatMap fourB ++ fourB (L.getD i 9) := by
            have e : L.getD i 9 = L[i] := by simp [List.getD, hL, hlt]
            rw [e, List.take_succ_eq_append_getElem (by omega), List.flatMap_append]
            simp
          obtain ⟨x, hx⟩ : ∃ x, x = L.getD i 9 := ⟨_, rfl⟩
          rw [← hx] at hts
          simp only [← hx] at hidx
          have HTS := Lib.hid hts
          obtain ⟨p6, c6, e6, _⟩ := HM9.out.1.rd.len_eq
          obtain ⟨l6, hl6⟩ : ∃ l, l = ((L.take i).flatMap fourB).length := ⟨_, rfl⟩
          have hlb : l6 ≤ 32 := by rw [hl6, List.length_flatMap]; exact flat_le _ (by simp; omega)
          rw [← hl6] at e6
          subst e6
          have HL6 := Lib.hid hl6
          clear hx hts hl6
          go_wp2_with (with_reducible refine hold_at (d := 39) ?_)
          refine wpl_of rfl fun K hK => opw_append (E := EB) (T := 5) (zero := 0) (bytes := 1) (v := .slice p6 l6 c6) (xs := (L.take i).flatMap fourB) (ys := fourB x) tiB Tryz.underlying40 Tryz.underlying40 rfl rfl rfl (HM9.out.1.ext0 ((Ext.refl [] _).alloc _)) (four_bytes _ _ _ _ _ _ _ _ _ (byte_of _) (byte_of _) (byte_of _) (byte_of _)) (by rw [← HL6.out]; simp [fourB]; omega) (by rw [← HL6.out]; simp [fourB]; omega) ?_
          intro v7 W7 how7 hE7 hnear7 _
          refine hK _ _ ?_
          clear hK hidx
          have hw7 : Ext [] w W7 := (hE9.alloc _).trans' hE7 (by simp) (fun y hy => .inr (HM9.out.2 y hy))
          have hn7 : ∀ y ∈ blkL v7, w.heap.size ≤ y := fun y hy => by
            rcases hnear7 y hy with h | h
            · exact HM9.out.2 y h
            · have := hE9.size; simp at h; omega
          have HO7 := Lib.hid how7
          have HN7 := Lib.hid hn7
          clear how7 hE7 hnear7 hn7
          go_wp2_with fail
          go_roundw
          case rel => exact ⟨i + 1, by omega, by go_num, hw7, by rw [HTS.out]; exact HO7.out, HN7.out⟩
          case measure => simp [intOf]; omega
        · obtain rfl : i = 8 := by omega
          have z1 : ¬ (((8 : Nat) : Int) < 8) := by omega
          have hfin : (L.take 8).flatMap fourB = shaF bs := by
            rw [List.take_of_length_le (by omega), HL.out, HQ8.out, HP.out]; rfl
          have ho := HM9.out.1
          rw [hfin] at ho
          have hsl := shaF_len bs
          obtain ⟨p6, c6, e6, l6⟩ := ho.rd.len_eq
          have hrd := ho.rd
          obtain ⟨B, hBe⟩ : ∃ B, B = shaF bs := ⟨_, rfl⟩
          rw [← hBe] at hrd e6 hsl l6
          subst e6
          obtain ⟨g6, o6, rfl⟩ : ∃ g o, p6 = some ⟨g, o, none⟩ := by
            rcases hrd with ⟨_, h⟩ | ⟨g, o, c, h, _⟩
            · rw [h] at hsl; simp at hsl
            · simp only [Value.slice.injEq] at h; exact ⟨g, o, h.1⟩
          have hcv := run_convert_bytes_back (P := Tryz.prog) wr 40 9 5 ⟨g6, o6, none⟩ c6 B Tryz.underlying40 Tryz.underlying5 Tryz.underlying9 (fun j hj => by
            have h := hrd.cells j 0 hj (by decide)
            have e : (⟨g6, o6, none⟩ : Addr).add j = ⟨g6, o6 + j, none⟩ := by
              simp only [Addr.add]
              split
              · rename_i h; subst h; rfl
              · rfl
            rw [e]
            simpa [EB] using h)
          have HBE := Lib.hid hBe
          clear hfin ho hrd hBe hsl l6
          go_wp2
          go_ret
          refine ⟨?_, hE9⟩
          rw [← HBE.out]
          rfl

end Go.Proofs.YtgfajlaibgbdoaaGreat

