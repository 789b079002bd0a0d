
import Derived.Test.YtgfajlaibgbdoaaGreatRdA
namespace Go.Proofs.YtgfajlaibgbdoaaGreat
open Go.RowKit

/-! What reading a block meets where no drive is lost: nil lists. -/
set_option maxRecDepth 100000 in
theorem sortn_c (w : World) : Calls Tryz.prog 66 #[.slice none 0 0] w fun e w' => e = .returned (.tuple #[]) ∧ w' = w := by
  have z2 : IntKind.i64.wrap ((0 : Int) - 0) = (0 : Int) := IntWalk.i64_in _ (by omega)
  have hi : Calls Tryz.prog 111 #[.slice none 0 0, .int .i64 0, .int .i64 0] w fun e w' => e = .returned (.tuple #[]) ∧ w' = w := by
    go_enter Tryz.func111, Tryz.ntmps111
    go_wp2_with fail
    go_loopw [6, 7] (fun iv _ wr => iv = .int .i64 1 ∧ wr = w) (fun _ _ _ => 0)
    case atStart => exact ⟨rfl, rfl⟩
    case round =>
      obtain ⟨rfl, rfl⟩ := hrel
      go_wp2
      go_end0
      exact ⟨rfl, rfl⟩
  have HI := Lib.hid hi
  have hpd : ∀ m : Int, Calls Tryz.prog 93 #[.slice none 0 0, .int .i64 0, .int .i64 0, .int .i64 m] w fun e w' => e = .returned (.tuple #[]) ∧ w' = w := by
    intro m
    clear hi
    go_enter Tryz.func93, Tryz.ntmps93
    go_wp2_with fail
    go_loopw [1, 2] (fun av bv wr => av = .int .i64 0 ∧ bv = .int .i64 0 ∧ wr = w) (fun _ _ _ => 0)
    case atStart => exact ⟨rfl, rfl, rfl⟩
    case round =>
      obtain ⟨rfl, rfl, rfl⟩ := hrel
      go_wp2_with fail
      refine HI.out.mono ?_
      rintro e W2 ⟨rfl, rfl⟩
      go_wp2
      refine bodyPost_ret (results_none rfl _ _ _) rfl ?_
      exact ⟨rfl, rfl⟩
  have HPD := Lib.hid hpd
  clear hpd hi
  go_enter Tryz.func66, Tryz.ntmps66
  go_wp2_with fail
  have hbl : Calls Tryz.prog 94 #[.int .u64 (0 : Nat)] w fun e w' => ∃ m : Int, e = .returned (.int .i64 m) ∧ w' = w := by
    clear HPD z2
    go_enter Tryz.func94, Tryz.ntmps94
    go_wp2_with fail
    refine (len64_c 0 (by omega) _).mono ?_
    rintro e W2 ⟨m, rfl, rfl⟩
    go_wp2
    go_ret
    exact ⟨m, rfl, rfl⟩
  refine hbl.mono ?_
  rintro e W2 ⟨m, rfl, rfl⟩
  clear hbl
  go_wp2_with fail
  refine (HPD.out m).mono ?_
  rintro e W3 ⟨rfl, rfl⟩
  go_wp2
  go_end0
  exact ⟨rfl, rfl⟩

set_option maxRecDepth 100000 in
theorem growz_c (w : World) : Calls Tryz.prog 92 #[.slice none 0 0, .int .i64 0] w fun e w' => e = .returned (.slice none 0 0) ∧ w' = w := by
  go_enter Tryz.func92, Tryz.ntmps92
  go_wp2
  go_ret
  exact ⟨rfl, rfl⟩

set_option maxRecDepth 100000 in
theorem heal0_c (f out k n : Value) (w : World) : Calls Tryz.prog 123 #[f, out, k, n, .slice none 0 0] w fun e w' => e = .returned (.int .i64 0) ∧ w' = w := by
  go_enter Tryz.func123, Tryz.ntmps123
  go_wp2
  go_ret
  exact ⟨rfl, rfl⟩

set_option maxRecDepth 100000 in
theorem right_c (n : Nat) (v : Value) (cols : List Slc2) (w : World) (hv : ES.Rd w v cols) (hn1 : 1 ≤ n) (hn : n ≤ 4096) (h4 : 4 ≤ cols.length) (h16 : cols.length ≤ 16) (hcols : ∀ x ∈ cols, x.2.1 = n) :
    Calls Tryz.prog 122 #[v, .slice none 0 0] w fun e w' => e = .returned (.tuple #[.int .i64 n, .int .i64 0]) ∧ Ext [] w w' := by
  have hl := length_c n v cols w hv hn1 hn (by intro h; rw [h] at h4; simp at h4) (by omega) hcols
  obtain ⟨p, c, rfl, _⟩ := hv.len_eq
  have HL := Lib.hid hl
  obtain ⟨m, hm⟩ : ∃ m, m = cols.length := ⟨_, rfl⟩
  rw [← hm] at h4 h16 HL ⊢
  have z1 : ¬ ((m : Int) < 4) := by omega
  have z2 : ¬ ((16 : Int) < (m : Int)) := by omega
  have z3 : ¬ ((n : Int) < 0) := by omega
  clear hv hl hm hcols
  go_enter Tryz.func122, Tryz.ntmps122
  go_wp2_with fail
  go_loopw [6, 7, 19] (fun _ _ iv wr => iv = .int .i64 0 ∧ wr = w) (fun _ _ _ _ => 0)
  case atStart => exact ⟨rfl, rfl⟩
  case round =>
    obtain ⟨rfl, rfl⟩ := hrel
    go_wp2_with fail
    refine HL.out.mono ?_
    rintro e W1 ⟨rfl, hE⟩
    go_wp2
    go_ret2
    exact ⟨rfl, hE⟩

set_option maxRecDepth 100000 in
theorem read1_c (x : Int) (pc : Nat) (w : World) (hc : w.cell? ⟨pc, 0, none⟩ = some (.slice none 0 0)) :
    Calls Tryz.prog 62 #[.int .i64 x, .pointer (some ⟨pc, 0, none⟩)] w fun e w' => e = .returned (.bool false) ∧ Ext [] w w' := by
  go_enter Tryz.func62, Tryz.ntmps62
  go_wp2_with fail
  refine (containsI_c _ [] x _ (.inl ⟨rfl, rfl⟩) (by simp)).mono ?_
  rintro e W1 ⟨rfl, hE⟩
  simp only [List.not_mem_nil, decide_false]
  go_wp2
  go_ret
  exact ⟨rfl, hE⟩

set_option maxRecDepth 100000 in
set_option maxHeartbeats 1000000 in
theorem delfi_c (v : Value) (xs : List Int) (pc : Nat) (w : World) (hv : EI.Rd w v xs) (hl : xs.length ≤ 1000000) (hc : w.cell? ⟨pc, 0, none⟩ = some (.slice none 0 0)) :
    Calls Tryz.prog 61 #[v, .func (.func 62) #[] #[.pointer (some ⟨pc, 0, none⟩)]] w fun e w' => e = .returned v ∧ Ext [] w w' := by
  obtain ⟨p, cap, rfl, _⟩ := hv.len_eq
  have HV := Lib.hid hv
  have HC := Lib.hid hc
  obtain ⟨n, hn⟩ : ∃ n, n = xs.length := ⟨_, rfl⟩
  rw [← hn] at HV hl ⊢
  have HN := Lib.hid hn
  clear hv hc hn
  have hidx : Calls Tryz.prog 90 #[.slice p n cap, .func (.func 62) #[] #[.pointer (some ⟨pc, 0, none⟩)]] w fun e w' => e = .returned (.int .i64 (-1)) ∧ Ext [] w w' := by
    go_enter Tryz.func90, Tryz.ntmps90
    go_wp2_with fail
    go_loopw [4, 5, 8] (fun _ _ iv wr => ∃ i : Nat, i ≤ n ∧ iv = .int .i64 i ∧ Ext [] w wr) (fun _ _ iv _ => n - (intOf iv).toNat)
    case atStart => exact ⟨0, Nat.zero_le _, rfl, Ext.refl _ _⟩
    case round =>
      obtain ⟨i, hi, rfl, hE⟩ := hrel
      by_cases hlt : i < n
      · have z1 : (i : Int) < (n : Int) := by omega
        obtain ⟨g, o, rfl⟩ : ∃ g o, p = some ⟨g, o, none⟩ := by
          rcases HV.out with ⟨_, h⟩ | ⟨g, o, c, h, _⟩
          · have := HN.out; rw [h] at this; simp at this; omega
          · simp only [Value.slice.injEq] at h; exact ⟨g, o, h.1⟩
        have hcell := EI_cell (HV.out.ext0 hE) i (by rw [← HN.out]; exact hlt)
        obtain ⟨x, hx⟩ : ∃ x, x = xs.getD i 0 := ⟨_, rfl⟩
        rw [← hx] at hcell
        clear hx
        go_wp2_with fail
        refine (read1_c x pc _ (hE.cell HC.out (by simp))).mono ?_
        rintro e W1 ⟨rfl, hE1⟩
        have hE01 := hE.trans hE1
        clear hcell hE1 hE
        go_wp2_with fail
        go_roundw
        case rel => exact ⟨i + 1, by omega, by go_num, hE01⟩
        case measure => simp [intOf]; omega
      · have z1 : ¬ ((i : Int) < (n : Int)) := by omega
        go_wp2
        go_ret
        exact ⟨rfl, hE⟩
  have HI := Lib.hid hidx
  clear hidx
  go_enter Tryz.func61, Tryz.ntmps61
  go_wp2_with fail
  refine HI.out.mono ?_
  rintro e W1 ⟨rfl, hE⟩
  go_wp2
  go_ret
  exact ⟨rfl, hE⟩

set_option maxRecDepth 100000 in
set_option maxHeartbeats 1000000 in
theorem concat2_c (b c : Nat) (w : World) (hb : w.heap[b]? = some (.cells #[.slice none 0 0, .slice none 0 0] 22 (0, 0))) :
    Calls Tryz.prog 65 #[.slice (some ⟨b, 0, none⟩) 2 c] w fun e w' => e = .returned (.slice none 0 0) ∧ Ext [] w w' := by
  have HB := Lib.hid hb
  clear hb
  go_enter Tryz.func65, Tryz.ntmps65
  go_wp2_with fail
  go_loopw [3, 5, 11] (fun sv _ iv wr => ∃ i : Nat, i ≤ 2 ∧ iv = .int .i64 i ∧ sv = .int .i64 0 ∧ Ext [] w wr) (fun _ _ iv _ => 2 - (intOf iv).toNat)
  case atStart => exact ⟨0, Nat.zero_le _, rfl, rfl, Ext.refl _ _⟩
  case round =>
    obtain ⟨i, hi, rfl, rfl, hE⟩ := hrel
    have hb1 := hE.blk HB.out (by simp)
    by_cases hlt : i < 2
    · have z1 : (i : Int) < 2 := by omega
      have hcell : wr.cell? ⟨b, i, none⟩ = some (.slice none 0 0) := by
        rw [cell_of_row _ _ i _ _ _ hb1]
        match i, hlt with
        | 0, _ => rfl
        | 1, _ => rfl
      clear hb1
      go_wp2_with fail
      go_roundw
      case rel => exact ⟨i + 1, by omega, by go_num, rfl, hE⟩
      case measure => simp [intOf]; omega
    · have z1 : ¬ ((i : Int) < 2) := by omega
      have hi2 : i = 2 := by omega
      subst hi2
      clear hb1
      go_wp2_with fail
      refine (growz_c _).mono ?_
      rintro e W1 ⟨rfl, rfl⟩
      go_wp2_with fail
      go_loopw [6, 8, 27] (fun sv _ iv wr => ∃ i : Nat, i ≤ 2 ∧ iv = .int .i64 i ∧ sv = .slice none 0 0 ∧ Ext [] w wr) (fun _ _ iv _ => 2 - (intOf iv).toNat)
      case atStart => exact ⟨0, Nat.zero_le _, rfl, rfl, hE⟩
      case round =>
        clear hE
        obtain ⟨i, hi, rfl, rfl, hE⟩ := hrel
        have hb1 := hE.blk HB.out (by simp)
        by_cases hlt : i < 2
        · have z1 : (i : Int) < 2 := by omega
          have hcell : ∀ W : World, W = wr → W.cell? ⟨b, i, none⟩ = some (.slice none 0 0) := by
            rintro W rfl
            rw [cell_of_row _ _ i _ _ _ hb1]
            match i, hlt with
            | 0, _ => rfl
            | 1, _ => rfl
          have hcell := hcell _ rfl
          clear hb1
          go_wp2_with (with_reducible refine hold_at (d := 33) ?_)
          refine wpl_of rfl fun K hK => opw_append (E := EI) (T := 3) (zero := 0) (bytes := 8) (v := .slice none 0 0) (u := .slice none 0 0) (xs := []) (ys := []) tiI Tryz.underlying22 Tryz.underlying22 rfl rfl rfl (.inl ⟨rfl, rfl⟩) (.inl ⟨rfl, rfl⟩) (by simp) (by simp) ?_
          intro v' w' how hext hnear hnn
          have hv' := hnn.1 rfl
          subst hv'
          have hE' := hE.trans hext
          refine hK _ _ ?_
          clear hK hcell hext hnear hnn how hE
          go_wp2_with fail
          go_roundw
          case rel => exact ⟨i + 1, by omega, by go_num, rfl, hE'⟩
          case measure => simp [intOf]; omega
        · have z1 : ¬ ((i : Int) < 2) := by omega
          clear hb1
          go_wp2
          go_ret
          exact ⟨rfl, hE⟩

end Go.Proofs.YtgfajlaibgbdoaaGreat

namespace Go.Proofs.YtgfajlaibgbdoaaGreat
open Go.RowKit

/-! parity.Rebuild with nothing lost: all columns, copied. -/
theorem ES_rd_row {w : World} {g : Nat} {L : List Slc2} (hg : w.heap[g]? = some (.cells (ES.flat L).toArray 40 (0, 0))) (c : Nat) (hc : L.length ≤ c) : ES.Rd w (.slice (some ⟨g, 0, none⟩) L.length c) L := by
  refine .inr ⟨g, 0, c, rfl, hc, lt_of_blk hg, fun j u hj => ?_⟩
  rw [Nat.zero_add, cell_of_row _ _ _ _ _ _ hg, List.getElem?_toArray]
  exact hj
theorem ES_rd_row_take {w : World} {g : Nat} {L : List Slc2} (hg : w.heap[g]? = some (.cells (ES.flat L).toArray 40 (0, 0))) (k c : Nat) (hk : k ≤ L.length) (hc : k ≤ c) : ES.Rd w (.slice (some ⟨g, 0, none⟩) k c) (L.take k) := by
  have hl : (L.take k).length = k := by rw [List.length_take]; omega
  refine .inr ⟨g, 0, c, by rw [hl], by rw [hl]; exact hc, lt_of_blk hg, fun j u hj => ?_⟩
  rw [Nat.zero_add, cell_of_row _ _ _ _ _ _ hg, List.getElem?_toArray]
  rw [flatS, List.map_take] at hj
  rw [flatS]
  have h2 := List.getElem?_eq_some_iff.1 hj
  obtain ⟨h3, h4⟩ := h2
  rw [List.getElem_take] at h4
  exact List.getElem?_eq_some_iff.2 ⟨by rw [List.length_take] at h3; omega, h4⟩

def RebPost (m : Nat) (zc : List (Slc2 × List UInt8)) (w : World) (e : Ending) (w' : World) : Prop := ∃ (g : Nat) (zs : List (Slc2 × List UInt8)), e = .returned (.tuple #[.slice (some ⟨g, 0, none⟩) m m, .int .i64 0]) ∧ w'.heap[g]? = some (.cells (ES.flat (zs.map (·.1))).toArray 40 (0, 0)) ∧ zs.map (·.2) = zc.map (·.2) ∧ CellsOk w' w.heap.size zs ∧ Ext [] w w'

theorem Sec.some {w : World} {B : Nat} {x : Slc2} {b : List UInt8} (h : Sec w B x b) (hb : b.length = 128) : ∃ g o, x.1 = some ⟨g, o, none⟩ := by
  rcases h.1 with ⟨_, h1⟩ | ⟨g, o, c, h1, _⟩
  · rw [h1] at hb; simp at hb
  · simp only [Value.slice.injEq] at h1; exact ⟨g, o, h1.1⟩

set_option maxRecDepth 100000 in
set_option maxHeartbeats 4000000 in
theorem rebuild_c (k m B : Nat) (v : Value) (zc : List (Slc2 × List UInt8)) (w : World) (hv : ES.Rd w v (zc.map (·.1))) (hk1 : 1 ≤ k) (hk : k ≤ 13) (hm : m = k + 3) (hzl : zc.length = m) (hz : CellsOk w B zc) :
    Calls Tryz.prog 95 #[v, .slice none 0 0] w (RebPost m zc w) := by
  have hri := right_c 128 v _ w hv (by omega) (by omega) (by rw [List.length_map]; omega) (by rw [List.length_map]; omega) (fun x hx => by
    obtain ⟨z, h1, rfl⟩ := List.mem_map.1 hx
    exact (hz z h1).1)
  have hm3 : ∀ W : World, (Instr.makeSlice 119 (.int .i64 m) (.int .i64 m)).run Tryz.prog W = .ok (.slice (some ⟨W.heap.size, 0, none⟩) m m) (W.alloc (.cells (ES.flat (List.replicate m (none, 0, 0))).toArray 40)) := fun W => make_of (P := Tryz.prog) tiS rfl rfl Tryz.underlying119 m m (by omega) (by omega) (by omega) W
  obtain ⟨p, c, rfl, _⟩ := hv.len_eq
  rw [List.length_map, hzl] at hri ⊢
  have HRI := Lib.hid hri
  rw [List.length_map, hzl] at hv
  have HV := Lib.hid hv
  have HZ := Lib.hid hz
  have HZL := Lib.hid hzl
  obtain ⟨Z0, hZ0⟩ : ∃ Z : List Slc2, Z = List.replicate m (none, 0, 0) := ⟨_, rfl⟩
  rw [← hZ0] at hm3
  have HZ0 := Lib.hid hZ0
  have z1 : IntKind.i64.wrap ((m : Int) - 3) = (k : Int) := by rw [show (m : Int) - 3 = (k : Int) by omega]; exact IntWalk.i64_in _ (by omega)
  have hm16 : m ≤ 16 := by omega
  have HM := Lib.hid hm
  obtain ⟨Bw, hBw⟩ : ∃ x, x = w.heap.size := ⟨_, rfl⟩
  have HBw := Lib.hid hBw
  clear hri hv hz hzl hZ0 hm hBw
  go_enter Tryz.func95, Tryz.ntmps95
  go_wp2_with fail
  refine HRI.out.mono ?_
  rintro e W1 ⟨rfl, hE1⟩
  have HE1 := Lib.hid hE1
  have hB1 := hE1.size
  clear hE1 HRI
  go_wp2_with (with_reducible refine hold_at (d := 31) ?_)
  unfold Hold
  refine wpl_of rfl fun K hK => ?_
  go_simp
  refine hK _ _ ?_
  clear hK hm3
  have hgt := heap_alloc_new W1 (.cells (ES.flat Z0).toArray 40)
  have hE := (Ext.refl [] W1).alloc (.cells (ES.flat Z0).toArray 40)
  have hE2 := HE1.out.trans hE
  obtain ⟨g, hge⟩ : ∃ g, g = W1.heap.size := ⟨_, rfl⟩
  simp only [← hge] at hgt ⊢
  have lgt : w.heap.size ≤ g := by omega
  have HG := Lib.hid hgt
  have HE2 := Lib.hid hE2
  clear hge hgt hE hE2 HE1
  revert HG HE2
  generalize World.alloc _ _ = W2
  intro HG HE2
  go_wp2_with fail
  go_loopw [10, 11, 12, 34, 39] (fun lv _ _ iv _ wr => ∃ (i : Nat) (zs : List (Slc2 × List UInt8)), i ≤ m ∧ iv = .int .i64 i ∧ lv = .slice none 0 0 ∧ zs.length = i ∧ Hid (Ext [] w wr) ∧ Hid (wr.heap[g]? = some (.cells (ES.flat (zs.map (·.1) ++ List.replicate (m - i) (none, 0, 0))).toArray 40 (0, 0))) ∧ Hid (zs.map (·.2) = (zc.take i).map (·.2)) ∧ Hid (CellsOk wr Bw zs)) (fun _ _ _ iv _ _ => m - (intOf iv).toNat)
  case atStart => exact ⟨0, [], by omega, rfl, rfl, rfl, HE2, by rw [HZ0.out] at HG; exact HG, Lib.hid rfl, Lib.hid (fun z hz => by cases hz)⟩
  case round =>
    obtain ⟨i, zs, hi, rfl, rfl, hzsl, HE3, HG3, HB3, HC3⟩ := hrel
    clear HG HE2
    by_cases hlt : i < m
    · have x1 : (i : Int) < (m : Int) := by omega
      obtain ⟨z, hz⟩ : ∃ z, zc[i]? = some z := ⟨zc[i]'(by rw [HZL.out]; exact hlt), List.getElem?_eq_getElem _⟩
      obtain ⟨⟨pz, nz, cz⟩, bz⟩ := z
      have hcz := HZ.out _ (List.mem_of_getElem? hz)
      have hv3 := HV.out.ext0 HE3.out
      obtain ⟨gv, ov, rfl⟩ : ∃ g o, p = some ⟨g, o, none⟩ := by
        rcases hv3 with ⟨_, h⟩ | ⟨g, o, c, h, _⟩
        · have h2 := congrArg List.length h; rw [List.length_map, HZL.out] at h2; simp at h2; omega
        · simp only [Value.slice.injEq] at h; exact ⟨g, o, h.1⟩
      have hzl2 : (zc.map (·.1)).length = m := by rw [List.length_map, HZL.out]
      have hcell := ES_cell hv3 i (pz, nz, cz) (by rw [List.getElem?_map, hz]; rfl)
      simp only at hcell
      have HCZ := Lib.hid hcz
      have HZI := Lib.hid hz
      have hset : ∀ x, (zs.map (·.1) ++ List.replicate (m - i) ((none, 0, 0) : Slc2)).set i x = zs.map (·.1) ++ [x] ++ List.replicate (m - (i + 1)) (none, 0, 0) := fun x => by
        rw [List.set_append_right _ _ (by simp; omega), show m - i = (m - (i + 1)) + 1 by omega, List.replicate_succ, List.length_map, hzsl, Nat.sub_self, List.set_cons_zero]
        simp
      have HSET := Lib.hid hset
      have hold : (ES.flat (zs.map (·.1) ++ List.replicate (m - i) (none, 0, 0)))[i]? = some (.slice none 0 0) := by
        rw [flatS, List.getElem?_map, List.getElem?_append_right (by simp; omega), List.length_map, hzsl, Nat.sub_self, show m - i = (m - (i + 1)) + 1 by omega, List.replicate_succ]
        rfl
      have HOLDH := Lib.hid hold
      clear hz hcz hv3 hzl2 hset hold
      go_wp2_with fail
      refine (containsI_c _ [] (i : Int) _ (.inl ⟨rfl, rfl⟩) (by simp)).mono ?_
      rintro e W4 ⟨rfl, hE4⟩
      simp only [List.not_mem_nil, decide_false]
      have HG4 := Lib.hid (hE4.blk HG3.out (by simp))
      have HC4 := Lib.hid (HC3.out.ext hE4 (by simp))
      have HE4 := Lib.hid (HE3.out.trans hE4)
      clear hE4 HG3 HC3 HE3 hcell
      go_wp2_with fail
      refine (bclone_c _ bz _ (by have := HCZ.out.2.1; omega) (HCZ.out.2.2.1.ext0 HE4.out)).mono ?_
      rintro e W5 ⟨u, rfl, how, hE5, hnew, -⟩
      obtain ⟨pu, cu, rfl, _⟩ := how.rd.len_eq
      have hb128 : bz.length = 128 := HCZ.out.2.1
      rw [hb128] at how hnew ⊢
      have hsec : Sec W5 Bw (pu, 128, cu) bz := ⟨how.rd, fun y hy => ⟨by have h1 := hnew y hy; have h2 := HE4.out.size; rw [HBw.out]; omega, by
        obtain ⟨c, hc⟩ := how.tag y hy
        exact tagOf_of hc⟩⟩
      have hg5 := hE5.blk HG4.out (by simp)
      have hc5 := HC4.out.ext hE5 (by simp)
      have hE05 := HE4.out.trans hE5
      have hs := rowS_set hg5 i (pu, 128, cu)
      rw [HSET.out] at hs
      have hEs : Ext [g] W5 (W5.setCell ⟨g, i, none⟩ (.slice pu 128 cu)) := (Ext.refl _ _).setCell (.inl (by simp)) _
      have htg := tagOf_of hg5
      have hc6 := (hc5.append (fun z hz => by
        rw [List.mem_singleton] at hz; subst hz
        exact ⟨rfl, hb128, hsec⟩) : CellsOk W5 Bw (zs ++ [((pu, 128, cu), bz)])).ext hEs (fun y hy => by simp at hy; subst hy; rw [htg]; decide)
      have hE06 : Ext [] w (W5.setCell ⟨g, i, none⟩ (.slice pu 128 cu)) := hE05.trans' hEs (by simp) (fun y hy => .inr (by simp at hy; omega))
      have c0 : W5.cell? ⟨g, i, none⟩ = some (.slice none 0 0) := by
        rw [cell_of_row _ _ i _ _ _ hg5, List.getElem?_toArray]
        exact HOLDH.out
      have hfz : W5.frozen? ⟨g, i, none⟩ = false := frozen_of_row _ _ _ _ _ hg5
      have HG6 := Lib.hid hs
      have HC6 := Lib.hid hc6
      have HE6 := Lib.hid hE06
      clear how hnew hsec hg5 hc5 hE05 hs hEs htg hc6 hE06 hE5 HG4 HC4 HE4
      go_wp2_with fail
      go_roundw
      case rel => exact ⟨i + 1, zs ++ [((pu, 128, cu), bz)], by omega, by go_num, rfl, by simp [hzsl], HE6, by rw [List.map_append]; exact HG6, Lib.hid (by
        have h1 := HZI.out
        obtain ⟨h2, h3⟩ := List.getElem?_eq_some_iff.1 h1
        rw [List.take_succ_eq_append_getElem h2, h3, List.map_append, List.map_append, HB3.out]
        rfl), HC6⟩
      case measure => simp [intOf]; omega
    · have x1 : ¬ ((i : Int) < (m : Int)) := by omega
      have him : i = m := by omega
      have hb3 := HB3.out
      rw [him, ← HZL.out, List.take_length] at hb3
      have hg3 := HG3.out
      rw [him, Nat.sub_self, List.replicate_zero, List.append_nil] at hg3
      have HG4 := Lib.hid hg3
      have HB4 := Lib.hid hb3
      have HZM := Lib.hid (hzsl.trans him)
      clear hb3 hg3 HG3 HB3 hzsl
      go_wp2_with (with_reducible refine hold_at (d := 63) ?_)
      unfold Hold
      refine wpList_build0 rfl 216 rfl _ zeroF_built ?_
      refine Go.Great.wpList_boxTo rfl 216 (.tmp 63) rfl (some 64) rfl _ rfl zeroFL.toArray (by rfl) ?_
      have hgf := heap_alloc_new wr (.cells zeroFL.toArray 216)
      have hEa := (Ext.refl [] wr).alloc (.cells zeroFL.toArray 216)
      have hg5 := hEa.blk HG4.out (by simp)
      have hc5 := HC3.out.ext hEa (by simp)
      have hE5 := HE3.out.trans hEa
      obtain ⟨f, hfe⟩ : ∃ f, f = wr.heap.size := ⟨_, rfl⟩
      have lgf := lt_of_blk HG4.out
      have HCL : Hid (∀ z ∈ zs, ∀ y ∈ blkL (.slice z.1.1 z.1.2.1 z.1.2.2), y < f) := Lib.hid (fun z hz y hy => by rw [hfe]; exact (HC3.out z hz).2.2.1.lt y hy)
      rw [← hfe] at lgf
      simp only [← hfe] at hgf ⊢
      have hEf := hE5.size
      have HFR := Lib.hid (zeroF_rel hgf)
      have HG5 := Lib.hid hg5
      have HC5 := Lib.hid hc5
      have HE5 := Lib.hid hE5
      have lwf : w.heap.size ≤ f := by rw [hfe]; exact HE3.out.size
      clear hgf hfe hEa hg5 hc5 hE5 hEf HG4 HC3 HE3
      revert HFR HG5 HC5 HE5
      obtain ⟨ZL, hZL⟩ : ∃ Z, Z = zeroFL.toArray := ⟨_, rfl⟩
      rw [← hZL]
      clear hZL
      generalize World.alloc _ _ = W6
      intro HFR HG5 HC5 HE5
      simp only [Act.put, List.setIfInBounds_toArray, List.set_cons_zero, List.set_cons_succ]
      go_wp2_with fail
      refine (heal0_c _ _ _ _ _).mono ?_
      rintro e W7 ⟨rfl, rfl⟩
      have y1 : (0 : Int) ≤ (k : Int) := by omega
      have y2 : (k : Int) ≤ (m : Int) := by have := HM.out; omega
      go_wp2_with fail
      have hzm : (zs.map (·.1)).length = m := by rw [List.length_map, HZM.out]
      have hrd := ES_rd_row_take HG5.out k m (by rw [hzm]; have := HM.out; omega) (by have := HM.out; omega)
      refine (psums_c f 128 _ _ _ HFR.out hrd (by simp [blkL]; omega) (by rw [List.length_take]; omega) (by omega) (by omega) (fun x hx => ?_)).mono ?_
      · obtain ⟨z, h1, rfl⟩ := List.mem_map.1 (List.mem_of_mem_take hx)
        obtain ⟨h2, h3, h4⟩ := HC5.out z h1
        have h5 := h4.1
        rw [h2] at h5
        exact ⟨h2, ⟨z.2, h3, h5⟩, fun h => by
          have h6 := HCL.out z h1 f (by rw [h2]; exact h)
          omega⟩
      rintro e W8 ⟨gt, gs, rfl, hgl, hgt, hgs, lgt2, -, hE8⟩
      have hg8 := hE8.blk HG5.out (by simp; omega)
      have hc8 : CellsOk W8 Bw zs := fun z hz => by
        obtain ⟨h2, h3, h4⟩ := HC5.out z hz
        refine ⟨h2, h3, h4.1.ext hE8 (fun y hy h => ?_), fun y hy => ⟨(h4.2 y hy).1, tagOf_ext (h4.2 y hy).2 hE8 (fun h => ?_)⟩⟩
        · have := HCL.out z hz y hy; simp at h; omega
        · have := HCL.out z hz y hy; simp at h; omega
      have hE08 : Ext [] w W8 := HE5.out.trans' hE8 (by simp) (fun y hy => .inr (by simp at hy; omega))
      have HG8 := Lib.hid hg8
      have HC8 := Lib.hid hc8
      have HE8 := Lib.hid hE08
      have HGT := Lib.hid hgt
      have HGLL := Lib.hid hgl
      clear hzm hrd hgl hgt hgs lgt2 hE8 hg8 hc8 hE08 HG5 HC5 HE5 HFR HCL
      go_wp2_with fail
      go_loopw [15, 16, 81] (fun _ _ iv wr => ∃ r : Nat, r ≤ 3 ∧ iv = .int .i64 r ∧ wr = W8) (fun _ _ iv _ => 3 - (intOf iv).toNat)
      case atStart => exact ⟨0, by omega, rfl, rfl⟩
      case round =>
        obtain ⟨r, hr, rfl, rfl⟩ := hrel
        by_cases hlt : r < 3
        · have x1 : (r : Int) < 3 := by omega
          obtain ⟨⟨⟨px, nx, cx⟩, bx⟩, hz⟩ : ∃ z, zs[k + r]? = some z := ⟨zs[k + r]'(by rw [HZM.out, HM.out]; omega), List.getElem?_eq_getElem _⟩
          obtain ⟨h2, h3, h4⟩ := HC8.out _ (List.mem_of_getElem? hz)
          obtain ⟨gx, ox, hpx⟩ := h4.some h3
          simp only at h2 hpx
          subst h2 hpx
          have c1 : wr.cell? ⟨g, k + r, none⟩ = some (.slice (some ⟨gx, ox, none⟩) 128 cx) := by
            rw [cell_of_row _ _ (k + r) _ _ _ HG8.out, List.getElem?_toArray, flatS, List.getElem?_map, List.getElem?_map, hz]
            rfl
          obtain ⟨gr, hgr⟩ : ∃ g, gs[r]? = some g := ⟨gs[r]'(by rw [HGLL.out]; exact hlt), List.getElem?_eq_getElem _⟩
          have c2 : wr.cell? ⟨gt, r, none⟩ = some (.slice (some ⟨gr, 0, none⟩) 128 128) := by
            rw [cell_of_row _ _ r _ _ _ HGT.out, List.getElem?_toArray, flatS, List.getElem?_map, List.getElem?_map, hgr]
            rfl
          have hn := fun w => Lib.run_eql_slice_nil (P := Tryz.prog) w 40 5 (some ⟨gx, ox, none⟩) 128 cx 0 0 Tryz.underlying40
          have y3 : (0 : Int) ≤ (k : Int) + (r : Int) := by omega
          have y4 : (k : Int) + (r : Int) < (m : Int) := by have := HM.out; omega
          have y5 : ((k : Int) + (r : Int)).toNat = k + r := by omega
          clear h3 h4 hz hgr
          go_wp2_with fail
          go_roundw
          case rel => exact ⟨r + 1, by omega, by go_num, trivial⟩
          case measure => simp [intOf]; omega
        · have x1 : ¬ ((r : Int) < 3) := by omega
          go_wp2
          go_ret2
          exact ⟨g, zs, rfl, HG8.out, HB4.out, by rw [← HBw.out]; exact HC8.out, HE8.out⟩

end Go.Proofs.YtgfajlaibgbdoaaGreat

namespace Go.Proofs.YtgfajlaibgbdoaaGreat
open Go.RowKit

/-! array.data with no drive left out. -/
/-- a stripe's bytes: its columns but the last three. -/
def dataOf (cs : List (List UInt8)) : List UInt8 := (cs.take (cs.length - 3)).flatten
theorem secsOf_flat (P : List UInt8) (m : Nat) : (secsOf P m).flatten = P.take (128 * m) := by
  induction m with
  | zero => rfl
  | succ m ih =>
    rw [secsOf_succ, List.flatten_append, ih, List.flatten_singleton, show 128 * (m + 1) = 128 * m + 128 by omega, List.take_add]
theorem dataOf_row (P p1 p2 p3 : List UInt8) (m : Nat) : dataOf (secsOf P m ++ [p1, p2, p3]) = P.take (128 * m) := by
  rw [dataOf, List.length_append, secsOf_len]
  simp only [List.length_cons, List.length_nil, Nat.add_sub_cancel]
  rw [List.take_append_of_le_length (by rw [secsOf_len]; exact Nat.le_refl _), List.take_of_length_le (by rw [secsOf_len]; exact Nat.le_refl _), secsOf_flat]
theorem StripesOf.data {k : Nat} {P : List UInt8} {l : Nat} {css : List (List (List UInt8))} (h : StripesOf k P l css) : (css.map dataOf).flatten = P.take (128 * l) := by
  induction h with
  | nil P => rfl
  | row P l p1 p2 p3 rest hl _ ih =>
    rw [List.map_cons, List.flatten_cons, ih, dataOf_row, ← List.take_add]
    congr 1
    omega
theorem StripesOf.mem {k : Nat} {P : List UInt8} {l : Nat} {css : List (List (List UInt8))} (h : StripesOf k P l css) : ∀ cs ∈ css, 4 ≤ cs.length ∧ cs.length ≤ k + 4 := by
  induction h with
  | nil P => intro cs hc; cases hc
  | row P l p1 p2 p3 rest hl _ ih =>
    intro cs hc
    rcases List.mem_cons.1 hc with rfl | hc
    · rw [List.length_append, secsOf_len]
      simp
      omega
    · exact ih cs hc

def DataPost (size : Nat) (P : List UInt8) (w : World) (e : Ending) (w' : World) : Prop := ∃ (p : Option Addr) (c : Nat), e = .returned (.tuple #[.slice p size c, .bool true]) ∧ EB.Rd w' (.slice p size c) (P.take size) ∧ (∀ y ∈ blkL (.slice p size c), w.heap.size ≤ y ∧ tagOf w' y = some 5) ∧ Ext [] w w'

set_option maxRecDepth 100000 in
set_option maxHeartbeats 8000000 in
theorem data_c (k l size B : Nat) (P : List UInt8) (v : Value) (ss : List (Str × List (List UInt8))) (w : World) (hv : EST.Rd w v (ss.map (·.1))) (hs : ∀ x ∈ ss, StrOk w B x.1 x.2) (hst : StripesOf k P l (ss.map (·.2))) (h8 : ss.length ≤ 8) (hk : k ≤ 8) (h1 : 1 ≤ size) (hsz : size ≤ 128 * l) (hP : 128 * l ≤ P.length) :
    Calls Tryz.prog 67 #[v, .int .i64 size, .slice none 0 0] w (DataPost size P w) := by
  have hdat := hst.data
  have hmem := hst.mem
  obtain ⟨p, c, rfl, _⟩ := hv.len_eq
  rw [List.length_map] at hv ⊢
  obtain ⟨ns, hns⟩ : ∃ n, n = ss.length := ⟨_, rfl⟩
  rw [← hns] at hv h8 ⊢
  have HV := Lib.hid hv
  have HS := Lib.hid hs
  have HDAT := Lib.hid hdat
  have HMEM := Lib.hid hmem
  have HNS := Lib.hid hns
  have HP := Lib.hid hP
  obtain ⟨Bw, hBw⟩ : ∃ x, x = w.heap.size := ⟨_, rfl⟩
  have HBw := Lib.hid hBw
  clear hv hs hst hdat hmem hns hP hBw
  go_enter Tryz.func67, Tryz.ntmps67
  go_wp2_with fail
  go_loopw [8, 20] (fun ov iv wr => ∃ (q : Nat) (xs : List UInt8), q ≤ ns ∧ iv = .int .i64 q ∧ Hid (xs.length ≤ 10000 * q) ∧ (∃ po co, ov = .slice po xs.length co) ∧ Hid (Ext [] w wr) ∧ Hid (EB.Ow 5 wr ov xs ∧ ∀ y ∈ blkL ov, Bw ≤ y) ∧ Hid (xs = ((ss.take q).map (fun x => dataOf x.2)).flatten)) (fun _ iv _ => ns - (intOf iv).toNat)
  case atStart => exact ⟨0, [], by omega, rfl, Lib.hid (by simp), ⟨none, 0, rfl⟩, Lib.hid (Ext.refl _ _), Lib.hid ⟨.inl ⟨rfl, rfl⟩, by simp [blkL]⟩, Lib.hid rfl⟩
  case round =>
    obtain ⟨q, xs, hq, rfl, HXL, ⟨po, co, rfl⟩, HE, HO, HX⟩ := hrel
    by_cases hlt : q < ns
    · have x1 : (q : Int) < (ns : Int) := by omega
      obtain ⟨⟨x, cs⟩, hx⟩ : ∃ x, ss[q]? = some x := ⟨ss[q]'(by rw [← HNS.out]; exact hlt), List.getElem?_eq_getElem _⟩
      have hmx := List.mem_of_getElem? hx
      obtain ⟨zc, ds, a1, a2, a3, a4, a5⟩ := (HS.out _ hmx).ext HE.out (by simp)
      have hcl := HMEM.out cs (List.mem_map.2 ⟨_, hmx, rfl⟩)
      obtain ⟨gv, ov, rfl⟩ : ∃ g o, p = some ⟨g, o, none⟩ := by
        rcases HV.out with ⟨_, h⟩ | ⟨g, o, c, h, _⟩
        · have h2 := congrArg List.length h; rw [List.length_map, ← HNS.out] at h2; simp at h2; omega
        · simp only [Value.slice.injEq] at h; exact ⟨g, o, h.1⟩
      obtain ⟨c1, c2⟩ := EST_cells (HV.out.ext0 HE.out) q x (by rw [List.getElem?_map, hx]; rfl)
      simp only at a1 a2 a3 a4 a5
      obtain ⟨⟨pa, na, ca⟩, ⟨pd, nd, cd⟩⟩ := x
      simp only at a1 a4 c1 c2
      have hna := a1.rd.len_eq
      have hnd := a4.rd.len_eq
      obtain ⟨_, _, h2, _⟩ := hna
      obtain ⟨_, _, h3, _⟩ := hnd
      simp only [Value.slice.injEq] at h2 h3
      obtain ⟨rfl, h2, rfl⟩ := h2
      obtain ⟨rfl, h3, rfl⟩ := h3
      rw [List.length_map] at h2
      have hzcl : zc.length = cs.length := by rw [← a3, List.length_map]
      obtain ⟨m, hm⟩ : ∃ m, m = cs.length := ⟨_, rfl⟩
      rw [← hm] at hcl a5 hzcl
      have h2' : na = m := by omega
      have h3' : nd = m := by omega
      subst h2'
      subst h3'
      have HHX := Lib.hid hx
      have HHM := Lib.hid hm
      have HA1 := Lib.hid a1.rd
      have HA2 := Lib.hid a2
      have HA3 := Lib.hid a3
      have HA4 := Lib.hid a4.rd
      have HZL := Lib.hid hzcl
      have HDL := Lib.hid a5
      clear hx hmx a1 a2 a3 a4 a5 h2 h3 hzcl hm
      go_wp2_with fail
      have hrow := heap_alloc_new wr (.cells #[.slice pa nd ca, .slice pd nd cd] 180)
      have hEa := (Ext.refl [] wr).alloc (.cells #[.slice pa nd ca, .slice pd nd cd] 180)
      have HE1 := Lib.hid (HE.out.trans hEa)
      have HO1 := Lib.hid (HO.out.1.ext0 hEa)
      have HA1' := Lib.hid (HA1.out.ext0 hEa)
      have HA2' := Lib.hid (HA2.out.ext hEa (by simp))
      have HA4' := Lib.hid (HA4.out.ext0 hEa)
      have HLO := Lib.hid HO.out.2
      obtain ⟨b, hbe⟩ : ∃ b, b = wr.heap.size := ⟨_, rfl⟩
      simp only [← hbe] at hrow ⊢
      have HROW := Lib.hid hrow
      clear hrow hEa hbe HA1 HA2 HA4 HO HE c1 c2
      revert HROW HE1 HO1 HA1' HA2' HA4'
      generalize World.alloc _ _ = W1
      intro HE1 HO1 HA1 HA2 HA4 HROW
      go_loopw [11, 12, 13, 27] (fun lv _ _ iv w2 => ∃ i : Nat, i ≤ nd ∧ iv = .int .i64 i ∧ lv = .slice none 0 0 ∧ Ext [] W1 w2) (fun _ _ _ iv _ => nd - (intOf iv).toNat)
      case atStart => exact ⟨0, by omega, rfl, rfl, Ext.refl _ _⟩
      case round =>
        obtain ⟨i, hi, rfl, rfl, hE2⟩ := hrel
        by_cases hil : i < nd
        · have x2 : (i : Int) < (nd : Int) := by omega
          obtain ⟨gd, od, rfl⟩ : ∃ g o, pd = some ⟨g, o, none⟩ := by
            rcases HA4.out with ⟨_, h⟩ | ⟨g, o, c, h, _⟩
            · rw [h] at HDL; have := HDL.out; simp at this; omega
            · simp only [Value.slice.injEq] at h; exact ⟨g, o, h.1⟩
          have hcell := EI_cell (HA4.out.ext0 hE2) i (by rw [HDL.out]; exact hil)
          obtain ⟨d, hd⟩ : ∃ d, d = ds.getD i 0 := ⟨_, rfl⟩
          rw [← hd] at hcell
          clear hd
          go_wp2_with fail
          refine (containsI_c _ [] d _ (.inl ⟨rfl, rfl⟩) (by simp)).mono ?_
          rintro e W3 ⟨rfl, hE3⟩
          simp only [List.not_mem_nil, decide_false]
          have hE4 := hE2.trans hE3
          clear hE3 hE2 hcell
          go_wp2_with fail
          go_roundw
          case rel => exact ⟨i + 1, by omega, by go_num, rfl, hE4⟩
          case measure => simp [intOf]; omega
        · have x2 : ¬ ((i : Int) < (nd : Int)) := by omega
          have HE2 := Lib.hid (HE1.out.trans hE2)
          have HO2 := Lib.hid (HO1.out.ext0 hE2)
          have HA1' := Lib.hid (HA1.out.ext0 hE2)
          have HA2' := Lib.hid (HA2.out.ext hE2 (by simp))
          have hrow := hE2.blk HROW.out (by simp)
          have d1 : wr.cell? ⟨b, 0, none⟩ = some (.slice pa nd ca) := by rw [cell_of_row _ _ 0 _ _ _ hrow]; rfl
          clear hE2 HO1 HE1 HA1 HA2 HA4 HROW hrow
          go_wp2_with fail
          obtain ⟨kk, hkk⟩ : ∃ kk, nd = kk + 3 := ⟨nd - 3, by omega⟩
          refine (rebuild_c kk nd B _ zc _ HA1'.out (by omega) (by omega) hkk HZL.out HA2'.out).mono ?_
          rintro e W3 ⟨g, zs, rfl, hg3, hz3, hc3, hE3⟩
          have y0 : IntKind.i64.wrap ((nd : Int) - 3) = (kk : Int) := by rw [show (nd : Int) - 3 = (kk : Int) by omega]; exact IntWalk.i64_in _ (by omega)
          have y1 : (0 : Int) ≤ (kk : Int) := by omega
          have y2 : (kk : Int) ≤ (nd : Int) := by omega
          have HG3 := Lib.hid hg3
          have HZ3 := Lib.hid (hz3.trans HA3.out)
          have HC3 := Lib.hid hc3
          have HO3 := Lib.hid (HO2.out.ext0 hE3)
          have HE3 := Lib.hid (HE2.out.trans hE3)
          have HAP : Hid (∀ z ∈ zs, ∀ y ∈ blkL (.slice z.1.1 z.1.2.1 z.1.2.2), y ∉ blkL (.slice po xs.length co)) := Lib.hid (fun z hz y hy h => by
            have h1 := ((hc3 z hz).2.2.2 y hy).1
            have h2 := HO2.out.lt y h
            omega)
          have HZSL : Hid (zs.length = nd) := Lib.hid (by have := congrArg List.length hz3; rw [List.length_map, List.length_map, HZL.out] at this; exact this)
          clear hg3 hz3 hc3 hE3 HE2 HO2 HA1' HA2' d1 HA3
          go_wp2_with fail
          go_loopw [8, 17, 55] (fun uv _ iv w4 => ∃ (j : Nat) (ys : List UInt8), j ≤ kk ∧ iv = .int .i64 j ∧ (∃ po co, uv = .slice po ys.length co) ∧ Hid (ys.length = xs.length + 128 * j) ∧ Hid (Ext [] w w4) ∧ Hid (EB.Ow 5 w4 uv ys ∧ (∀ y ∈ blkL uv, Bw ≤ y) ∧ ∀ z ∈ zs, ∀ y ∈ blkL (.slice z.1.1 z.1.2.1 z.1.2.2), y ∉ blkL uv) ∧ Hid (w4.heap[g]? = some (.cells (ES.flat (zs.map (·.1))).toArray 40 (0, 0)) ∧ ∀ z ∈ zs, z.1.2.1 = 128 ∧ z.2.length = 128 ∧ EB.Rd w4 (.slice z.1.1 z.1.2.1 z.1.2.2) z.2) ∧ Hid (ys = xs ++ (cs.take j).flatten)) (fun _ _ iv _ => kk - (intOf iv).toNat)
          case atStart => exact ⟨0, xs, by omega, rfl, ⟨_, _, rfl⟩, Lib.hid (by simp), HE3, Lib.hid ⟨HO3.out, HLO.out, HAP.out⟩, Lib.hid ⟨HG3.out, fun z hz => ⟨(HC3.out z hz).1, (HC3.out z hz).2.1, (HC3.out z hz).2.2.1⟩⟩, Lib.hid (by simp)⟩
          case round =>
            clear HO3 HLO HAP HG3 HC3 HE3
            obtain ⟨j, ys, hj, rfl, ⟨pu, cu, rfl⟩, HYL, HE4, HO4, HG4, HY⟩ := hrel
            by_cases hjl : j < kk
            · have x3 : (j : Int) < (kk : Int) := by omega
              obtain ⟨⟨⟨px, nx, cx⟩, bx⟩, hz⟩ : ∃ z, zs[j]? = some z := ⟨zs[j]'(by rw [HZSL.out]; omega), List.getElem?_eq_getElem _⟩
              have hzm := List.mem_of_getElem? hz
              obtain ⟨h2, h3, h4⟩ := HG4.out.2 _ hzm
              have h5 := HO4.out.2.2 _ hzm
              simp only at h2 h3 h4 h5
              subst h2
              have c1 : wr.cell? ⟨g, j, none⟩ = some (.slice px 128 cx) := by
                rw [cell_of_row _ _ j _ _ _ HG4.out.1, List.getElem?_toArray, flatS, List.getElem?_map, List.getElem?_map, hz]
                rfl
              have hcj : cs[j]? = some bx := by
                have h6 := HZ3.out
                have h7 : (zs.map (·.2))[j]? = some bx := by rw [List.getElem?_map, hz]; rfl
                rw [h6] at h7; exact h7
              have HCJ := Lib.hid hcj
              have H3 := Lib.hid h3
              have H4 := Lib.hid h4
              clear hz hzm h3 h4 h5 hcj
              go_wp2_with (with_reducible refine hold_at (d := 61) ?_)
              refine wpl_of rfl fun K hK => opw_append (E := EB) (T := 5) (zero := 0) (bytes := 1) (v := .slice pu ys.length cu) (u := .slice px 128 cx) (xs := ys) (ys := bx) tiB Tryz.underlying40 Tryz.underlying40 rfl rfl rfl HO4.out.1 H4.out (by rw [H3.out, HYL.out]; have := HXL.out; omega) (by rw [H3.out, HYL.out]; have := HXL.out; omega) ?_
              intro v5 W5 how5 hE5 hnear5 _
              obtain ⟨p5, c5, rfl, _⟩ := how5.rd.len_eq
              have hE05 : Ext [] w W5 := HE4.out.trans' hE5 (by simp) (fun y hy => .inr (by have := HO4.out.2.1 y hy; rw [HBw.out] at this; exact this))
              have hl5 : ∀ y ∈ blkL (.slice p5 (ys ++ bx).length c5), Bw ≤ y := fun y hy => by
                rcases hnear5 y hy with h | h
                · exact HO4.out.2.1 y h
                · have := HE4.out.size; rw [HBw.out]; omega
              have hz5 : ∀ z ∈ zs, ∀ y ∈ blkL (.slice z.1.1 z.1.2.1 z.1.2.2), y ∉ blkL (.slice p5 (ys ++ bx).length c5) := fun z hz y hy h => by
                rcases hnear5 y h with h | h
                · exact HO4.out.2.2 z hz y hy h
                · have := (HG4.out.2 z hz).2.2.lt y hy; omega
              have hg5 := hE5.blk HG4.out.1 (fun h => HO4.out.1.ne HG4.out.1 (by decide) g h rfl)
              have hr5 : ∀ z ∈ zs, z.1.2.1 = 128 ∧ z.2.length = 128 ∧ EB.Rd W5 (.slice z.1.1 z.1.2.1 z.1.2.2) z.2 := fun z hz => ⟨(HG4.out.2 z hz).1, (HG4.out.2 z hz).2.1, (HG4.out.2 z hz).2.2.ext hE5 (fun y hy => HO4.out.2.2 z hz y hy)⟩
              have HE5 := Lib.hid hE05
              have HO5 : Hid (EB.Ow 5 W5 (.slice p5 (ys ++ bx).length c5) (ys ++ bx) ∧ (∀ y ∈ blkL (.slice p5 (ys ++ bx).length c5), Bw ≤ y) ∧ ∀ z ∈ zs, ∀ y ∈ blkL (.slice z.1.1 z.1.2.1 z.1.2.2), y ∉ blkL (.slice p5 (ys ++ bx).length c5)) := Lib.hid ⟨how5, hl5, hz5⟩
              have HG5 := Lib.hid (And.intro hg5 hr5)
              have HYL5 : Hid ((ys ++ bx).length = xs.length + 128 * (j + 1)) := Lib.hid (by rw [List.length_append, H3.out, HYL.out]; omega)
              have HY5 : Hid (ys ++ bx = xs ++ (cs.take (j + 1)).flatten) := Lib.hid (by
                obtain ⟨h6, h7⟩ := List.getElem?_eq_some_iff.1 HCJ.out
                rw [List.take_succ_eq_append_getElem h6, h7, List.flatten_append, List.flatten_singleton, HY.out, List.append_assoc])
              refine hK _ _ ?_
              clear hK how5 hE5 hnear5 hE05 hl5 hz5 hg5 hr5 HO4 HG4 HE4 HYL HY c1
              revert HE5 HO5 HG5 HYL5 HY5
              generalize ys ++ bx = ys5
              intro HE5 HO5 HG5 HYL5 HY5
              go_wp2_with fail
              go_roundw
              case rel => exact ⟨j + 1, ys5, by omega, by go_num, ⟨_, _, rfl⟩, HYL5, HE5, HO5, HG5, HY5⟩
              case measure => simp [intOf]; omega
            · have x3 : ¬ ((j : Int) < (kk : Int)) := by omega
              have hjk : j = kk := by omega
              have HYf : Hid (ys = ((ss.take (q + 1)).map (fun x => dataOf x.2)).flatten) := Lib.hid (by
                obtain ⟨h6, h7⟩ := List.getElem?_eq_some_iff.1 HHX.out
                rw [List.take_succ_eq_append_getElem h6, h7, List.map_append, List.flatten_append, ← HX.out, HY.out, hjk]
                congr 1
                rw [List.map_singleton, List.flatten_singleton, dataOf, ← HHM.out, hkk, Nat.add_sub_cancel])
              have HXL5 : Hid (ys.length ≤ 10000 * (q + 1)) := Lib.hid (by rw [HYL.out]; have := HXL.out; omega)
              have HO5 := Lib.hid (And.intro HO4.out.1 HO4.out.2.1)
              clear HO4 HYL HY HG4
              go_wp2_with fail
              go_roundw
              case rel => exact ⟨q + 1, ys, by omega, by go_num, HXL5, ⟨_, _, rfl⟩, HE4, HO5, HYf⟩
              case measure => simp [intOf]; omega
    · have x1 : ¬ ((q : Int) < (ns : Int)) := by omega
      have hqn : q = ns := by omega
      have hxs : xs = P.take (128 * l) := by
        have h6 := HX.out
        rw [hqn, HNS.out, List.take_length] at h6
        rw [h6, ← HDAT.out, List.map_map]
        rfl
      have hxl : size ≤ xs.length := by rw [hxs, List.length_take]; have := HP.out; omega
      have hco := HO.out.1.rd.len_eq
      obtain ⟨_, _, h7, h8⟩ := hco
      simp only [Value.slice.injEq] at h7
      obtain ⟨rfl, -, rfl⟩ := h7
      have y1 : (0 : Int) ≤ (size : Int) := by omega
      have y2 : (size : Int) ≤ (co : Int) := by omega
      obtain ⟨gx, ox, rfl⟩ : ∃ g o, po = some ⟨g, o, none⟩ := by
        rcases HO.out.1.rd with ⟨_, h⟩ | ⟨g, o, c, h, _⟩
        · rw [h] at hxl; simp at hxl; omega
        · simp only [Value.slice.injEq] at h; exact ⟨g, o, h.1⟩
      have htk : xs.take size = P.take size := by rw [hxs, List.take_take, Nat.min_eq_left hsz]
      have HRD : Hid (EB.Rd wr (.slice (some ⟨gx, ox, none⟩) size co) (P.take size)) := Lib.hid (by
        have := EB_take HO.out.1.rd hxl
        rw [htk] at this; exact this)
      have HTG : Hid (∀ y ∈ blkL (.slice (some ⟨gx, ox, none⟩) size co), w.heap.size ≤ y ∧ tagOf wr y = some 5) := Lib.hid (fun y hy => by
        have hy2 : y ∈ blkL (.slice (some ⟨gx, ox, none⟩) xs.length co) := hy
        obtain ⟨c, hc⟩ := HO.out.1.tag y hy2
        exact ⟨by rw [← HBw.out]; exact HO.out.2 y hy2, tagOf_of hc⟩)
      clear hxs htk HO HX HXL HV HS hxl
      go_wp2
      go_ret2
      exact ⟨_, _, rfl, HRD.out, HTG.out, HE.out⟩

end Go.Proofs.YtgfajlaibgbdoaaGreat

namespace Go.Proofs.YtgfajlaibgbdoaaGreat
open Go.RowKit

/-! array.Read: the drives are there, the first reading fits. -/
def FitsPost (fn ln size : Nat) (P : List UInt8) (w : World) (e : Ending) (w' : World) : Prop := ∃ (p : Option Addr) (c : Nat), e = .returned (.bool true) ∧ w'.heap[fn]? = some (.cells #[.slice p size c] 40 (0, 0)) ∧ w'.heap[ln]? = some (.cells #[.slice none 0 0] 22 (0, 0)) ∧ EB.Rd w' (.slice p size c) (P.take size) ∧ (∀ y ∈ blkL (.slice p size c), w.heap.size ≤ y ∧ tagOf w' y = some 5) ∧ Ext [fn, ln] w w'

def Caps (gn sn zn un fn ln : Nat) : Array Value := #[.pointer (some ⟨gn, 0, none⟩), .pointer (some ⟨sn, 0, none⟩), .pointer (some ⟨zn, 0, none⟩), .pointer (some ⟨un, 0, none⟩), .pointer (some ⟨fn, 0, none⟩), .pointer (some ⟨ln, 0, none⟩)]

set_option maxRecDepth 100000 in
set_option maxHeartbeats 4000000 in
theorem fits_c (k l size B gn sn zn un fn ln : Nat) (P : List UInt8) (v : Value) (ss : List (Str × List (List UInt8))) (w : World) (hv : EST.Rd w v (ss.map (·.1))) (hs : ∀ x ∈ ss, StrOk w B x.1 x.2) (hst : StripesOf k P l (ss.map (·.2))) (h8 : ss.length ≤ 8) (hk : k ≤ 8) (h1 : 1 ≤ size) (h2 : size ≤ 1024) (hsz : size ≤ 128 * l) (hP : 128 * l ≤ P.length)
    (c1 : w.cell? ⟨gn, 0, none⟩ = some (.slice none 0 0)) (c2 : w.cell? ⟨sn, 0, none⟩ = some v) (c3 : w.cell? ⟨zn, 0, none⟩ = some (.int .i64 size)) (c4 : w.cell? ⟨un, 0, none⟩ = some (.string ⟨(shaF (P.take size)).toArray⟩)) (c5 : w.heap[fn]? = some (.cells #[.slice none 0 0] 40 (0, 0))) (c6 : w.heap[ln]? = some (.cells #[.slice none 0 0] 22 (0, 0))) :
    Calls Tryz.prog 64 #[.slice none 0 0, .pointer (some ⟨gn, 0, none⟩), .pointer (some ⟨sn, 0, none⟩), .pointer (some ⟨zn, 0, none⟩), .pointer (some ⟨un, 0, none⟩), .pointer (some ⟨fn, 0, none⟩), .pointer (some ⟨ln, 0, none⟩)] w (FitsPost fn ln size P w) := by
  have hEa := (Ext.refl [] w).alloc (.cells #[.slice none 0 0, .slice none 0 0] 22)
  have hb := heap_alloc_new w (.cells #[.slice none 0 0, .slice none 0 0] 22)
  have hfl : fn < w.heap.size := lt_of_blk c5
  have hll : ln < w.heap.size := lt_of_blk c6
  have hne : fn ≠ ln := fun h => by
    subst h
    rw [c5] at c6
    simp only [Option.some.injEq, Obj.cells.injEq] at c6
    exact absurd c6.2.1 (by decide)
  have C2 := Lib.hid c2
  have C3 := Lib.hid c3
  have C4 := Lib.hid c4
  have C5 := Lib.hid c5
  have C6 := Lib.hid c6
  have HV := Lib.hid hv
  have HS := Lib.hid hs
  have HST := Lib.hid hst
  have HB := Lib.hid hb
  have HEA := Lib.hid hEa
  have hptl : (P.take size).length = size := by rw [List.length_take]; omega
  have HPT := Lib.hid hptl
  have HPL := Lib.hid hP
  clear c2 c3 c4 c5 c6 hv hs hst hb hEa hptl hP
  go_enter Tryz.func64, Tryz.ntmps64
  go_wp2_with fail
  refine (concat2_c _ _ _ HB.out).mono ?_
  rintro e W1 ⟨rfl, hE1⟩
  have HE1 := Lib.hid (HEA.out.trans hE1)
  clear hE1 HEA HB c1
  go_wp2_with fail
  refine (sortn_c _).mono ?_
  rintro e W2 ⟨rfl, rfl⟩
  have d2 := HE1.out.cell C2.out (by simp)
  have d3 := HE1.out.cell C3.out (by simp)
  go_wp2_with fail
  refine (data_c k l size B P v ss _ (HV.out.ext0 HE1.out) (fun x hx => (HS.out x hx).ext HE1.out (by simp)) HST.out h8 hk h1 hsz HPL.out).mono ?_
  rintro e W3 ⟨p, c, rfl, hrd, htg, hE3⟩
  have hE03 := HE1.out.trans hE3
  have HRD := Lib.hid hrd
  have HTG : Hid (∀ y ∈ blkL (.slice p size c), w.heap.size ≤ y ∧ tagOf W3 y = some 5) := Lib.hid (fun y hy => ⟨Nat.le_trans HE1.out.size (htg y hy).1, (htg y hy).2⟩)
  have HE3 := Lib.hid hE03
  have d4 := hE03.cell C4.out (by simp)
  have hEd : Ext [] W3 W3.drew := (Ext.refl [] W3).drew
  clear hrd htg hE3 hE03 d2 d3 HE1 C2 C3 HV HS HST
  go_wp2_with fail
  go_region_held3 (fun W => W.cell? ⟨un, 0, none⟩ = some (.string ⟨(shaF (P.take size)).toArray⟩))
    (first | exact hE1'.cell d4 (by simp) | go_keep)
    (first | (go_at_call 29; refine (sum_c _ (P.take size) _ (HRD.out.ext0 hEd) (by rw [HPT.out]; omega)).mono ?_; rintro e W4 ⟨rfl, hE1'⟩; have hE4 : Ext [] W3 W4 := hEd.trans hE1'))
  have HE4 := Lib.hid (HE3.out.trans hE4)
  have HR4 := Lib.hid (HRD.out.ext0 hE4)
  have HT4 : Hid (∀ y ∈ blkL (.slice p size c), w.heap.size ≤ y ∧ tagOf W4 y = some 5) := Lib.hid (fun y hy => ⟨(HTG.out y hy).1, tagOf_ext (HTG.out y hy).2 hE4 (by simp)⟩)
  have hf4 := HE4.out.blk C5.out (by simp)
  have hl4 := HE4.out.blk C6.out (by simp)
  have e1 : W4.cell? ⟨fn, 0, none⟩ = some (.slice none 0 0) := by rw [cell_of_row _ _ 0 _ _ _ hf4]; rfl
  have e2 : W4.cell? ⟨ln, 0, none⟩ = some (.slice none 0 0) := by rw [cell_of_row _ _ 0 _ _ _ hl4]; rfl
  have e3 : W4.frozen? ⟨fn, 0, none⟩ = false := frozen_of_row _ _ _ _ _ hf4
  have e4 : W4.frozen? ⟨ln, 0, none⟩ = false := frozen_of_row _ _ _ _ _ hl4
  have hEs : Ext [fn, ln] W4 ((W4.setCell ⟨fn, 0, none⟩ (.slice p size c)).setCell ⟨ln, 0, none⟩ (.slice none 0 0)) := ((Ext.refl _ W4).setCell (.inl (by simp)) _).setCell (.inl (by simp)) _
  have hs1 := heap_setCell_same W4 fn 0 _ _ (.slice p size c) hf4
  have hs2 : (W4.setCell ⟨fn, 0, none⟩ (.slice p size c)).heap[ln]? = some (.cells #[.slice none 0 0] 22 (0, 0)) := ((Ext.refl [fn] W4).setCell (.inl (by simp)) _).blk hl4 (by simpa using hne.symm)
  have hs3 := heap_setCell_same _ ln 0 _ _ (.slice none 0 0) hs2
  have hs4 : ((W4.setCell ⟨fn, 0, none⟩ (.slice p size c)).setCell ⟨ln, 0, none⟩ (.slice none 0 0)).heap[fn]? = some (.cells #[.slice p size c] 40 (0, 0)) := ((Ext.refl [ln] _).setCell (.inl (by simp)) _).blk hs1 (by simpa using hne)
  have hk4 : ∀ y ∈ blkL (.slice p size c), y ∉ [fn, ln] := fun y hy h => by
    have h5 := (HT4.out y hy).1
    simp at h
    omega
  have HES := Lib.hid hEs
  have HS3 := Lib.hid hs3
  have HS4 := Lib.hid hs4
  have HK4 := Lib.hid hk4
  clear HRD HTG HE3 d4 hEs hs1 hs2 hs3 hs4 hk4 hf4 hl4 C4 C5 C6
  go_wp2
  go_ret
  exact ⟨p, c, rfl, HS4.out, HS3.out, HR4.out.ext HES.out HK4.out, fun y hy => ⟨(HT4.out y hy).1, tagOf_ext (HT4.out y hy).2 HES.out (HK4.out y hy)⟩, HE4.out.nil.trans HES.out⟩

end Go.Proofs.YtgfajlaibgbdoaaGreat

