
import Derived.Test.YtgfajlaibgbdoaaGreatPa3
import Derived.Test.YtgfajlaibgbdoaaGreatShC
import Derived.Great.Ranges
namespace Go.Proofs.YtgfajlaibgbdoaaGreat
open Go.RowKit

theorem make_of {α : Type} {P : Program} {E : Enc α} {T t : TypeId} {bytes : Nat} {zero : α} {z : Value} (ti : Ti P E T bytes zero) (hk : E.k = 1) (hz1 : E.enc zero = [z]) (hu : P.underlying t = some (.slice T)) (n c : Nat) (hn : n ≤ c) (hc : c ≤ 65536) (hb : bytes ≤ 64) (w : World) :
    (Instr.makeSlice t (.int .i64 (n : Int)) (.int .i64 (c : Int))).run P w = .ok (.slice (some ⟨w.heap.size, 0, none⟩) n c) (w.alloc (.cells (E.flat (List.replicate c zero)).toArray T)) := by
  obtain ⟨i, y, hi, hz, hsize, hby, hzz⟩ := ti.row
  have h3 : c * bytes ≤ 65536 * 64 := Nat.mul_le_mul hc hb
  have hr := run_make (P := P) w t T i y hu hi hz .i64 .i64 n c (by omega) (by omega) (by rw [hby]; rw [Nat.mul_comm] at h3; omega) (by omega)
  simp only [Int.toNat_natCast] at hr
  rw [hr]
  have e : y.cells = #[z] := Array.ext' (by rw [hzz, hz1])
  have e2 : madeCells y.cells (c * i.size) = (E.flat (List.replicate c zero)).toArray := by
    rw [e, hsize, hk, Nat.mul_one]
    have ef : E.flat (List.replicate c zero) = List.replicate c z := by
      clear h3 hr hc hn
      induction c with
      | zero => rfl
      | succ c ih => rw [List.replicate_succ, Enc.flat_cons, ih, hz1, List.replicate_succ]; rfl
    rw [ef]
    apply Array.ext'
    apply List.ext_getElem?
    intro j
    simp only [madeCells, Array.toList_map, Array.toList_range, List.getElem?_map, List.getElem?_replicate]
    by_cases hj : j < c
    · simp [hj, Nat.mod_one]
    · simp [hj]
  rw [e2]

/-- a column: n bytes, not in the field's block. -/
def ColOk (w : World) (f n : Nat) (x : Option Addr × Nat × Nat) : Prop := x.2.1 = n ∧ (∃ bs : List UInt8, bs.length = n ∧ EB.Rd w (.slice x.1 n x.2.2) bs) ∧ f ∉ blkL (.slice x.1 n x.2.2)

theorem flatS (l : List (Option Addr × Nat × Nat)) : ES.flat l = l.map (fun x => Value.slice x.1 x.2.1 x.2.2) := by
  induction l with
  | nil => rfl
  | cons a l ih => simp [ih]; rfl

theorem rowS_set {w : World} {g : Nat} {T : TypeId} {L : List (Option Addr × Nat × Nat)} (hg : w.heap[g]? = some (.cells (ES.flat L).toArray T (0, 0))) (i : Nat) (x : Option Addr × Nat × Nat) : (w.setCell ⟨g, i, none⟩ (.slice x.1 x.2.1 x.2.2)).heap[g]? = some (.cells (ES.flat (L.set i x)).toArray T (0, 0)) := by
  rw [heap_setCell_same w g i _ _ _ hg]
  congr 2
  apply Array.ext'
  rw [flatS, flatS]
  simp [List.map_set]

set_option maxRecDepth 100000 in
set_option maxHeartbeats 1000000 in
theorem psums_c (f n : Nat) (v : Value) (cols : List (Option Addr × Nat × Nat)) (w : World) (hf : FldR w f) (hv : ES.Rd w v cols) (hvf : f ∉ blkL v) (hcl : cols.length ≤ 13) (hn1 : 1 ≤ n) (hn : n ≤ 4096) (hcols : ∀ x ∈ cols, ColOk w f n x) :
    Calls Tryz.prog 108 #[.pointer (some ⟨f, 0, none⟩), v, .int .i64 n, .slice none 0 0] w fun e w' => ∃ (gt : Nat) (gs : List Nat), e = .returned (.slice (some ⟨gt, 0, none⟩) 3 3) ∧ gs.length = 3 ∧ w'.heap[gt]? = some (.cells (ES.flat (gs.map (rowOf n))).toArray 40 (0, 0)) ∧ (∀ g ∈ gs, U8 w' g n ∧ w.heap.size ≤ g) ∧ w.heap.size ≤ gt ∧ FldR w' f ∧ Ext [f] w w' := by
  have hm3 : ∀ W : World, (Instr.makeSlice 119 (.int .i64 3) (.int .i64 3)).run Tryz.prog W = .ok (.slice (some ⟨W.heap.size, 0, none⟩) 3 3) (W.alloc (.cells (ES.flat (List.replicate 3 (none, 0, 0))).toArray 40)) := fun W => make_of (P := Tryz.prog) tiS rfl rfl Tryz.underlying119 3 3 (by omega) (by omega) (by omega) W
  have lf := hf.lt
  obtain ⟨p, c, rfl, _⟩ := hv.len_eq
  have HF := Lib.hid hf
  have HCOLS := Lib.hid hcols
  obtain ⟨m, hm⟩ : ∃ m, m = cols.length := ⟨_, rfl⟩
  rw [← hm] at hcl hv hvf ⊢
  have HV := Lib.hid hv
  have HVF := Lib.hid hvf
  have HM := Lib.hid hm
  obtain ⟨z3, hz3⟩ : ∃ z : List (Option Addr × Nat × Nat), z = List.replicate 3 (none, 0, 0) := ⟨_, rfl⟩
  rw [← hz3] at hm3
  have HZ3 := Lib.hid hz3
  clear hf hv hvf hcols hm hz3
  go_enter Tryz.func108, Tryz.ntmps108
  go_wp2_with (with_reducible refine hold_at (d := 13) ?_)
  unfold Hold
  refine wpl_of rfl fun K hK => ?_
  go_simp
  refine hK _ _ ?_
  clear hK hm3
  have hgt := heap_alloc_new w (.cells (ES.flat z3).toArray 40)
  have hE := (Ext.refl [] w).alloc (.cells (ES.flat z3).toArray 40)
  have hf1 := HF.out.ext0 hE
  obtain ⟨gt, hge⟩ : ∃ g, g = w.heap.size := ⟨_, rfl⟩
  simp only [← hge] at hgt ⊢
  have lgt : w.heap.size ≤ gt := by omega
  have hgf : gt ≠ f := by omega
  have HG := Lib.hid hgt
  have HF1 := Lib.hid hf1
  clear hge hgt hf1
  revert HG HF1 hE
  generalize World.alloc _ _ = W1
  intro hE HG HF1
  go_wp2_with fail
  go_loopw [10, 16] (fun _ iv wr => ∃ (r : Nat) (gs : List Nat), r ≤ 3 ∧ iv = .int .i64 r ∧ gs.length = r ∧ Ext [] w wr ∧ Hid (FldR wr f) ∧ Hid (wr.heap[gt]? = some (.cells (ES.flat (gs.map (rowOf n) ++ List.replicate (3 - r) (none, 0, 0))).toArray 40 (0, 0))) ∧ Hid (∀ g ∈ gs, U8 wr g n ∧ w.heap.size ≤ g)) (fun _ iv _ => 3 - (intOf iv).toNat)
  case atStart => exact ⟨0, [], by omega, rfl, rfl, hE, HF1, by rw [HZ3.out] at HG; exact HG, Lib.hid (fun g hg => by cases hg)⟩
  case round =>
    obtain ⟨r, gs, hr, rfl, hgl, hE2, HF2, HG2, HGS2⟩ := hrel
    clear HG HF1 hE
    by_cases hlt : r < 3
    · have z1 : (r : Int) < 3 := by omega
      have z2 : (0 : Int) ≤ (r : Int) := by omega
      have hset : ∀ x, (gs.map (rowOf n) ++ List.replicate (3 - r) (none, 0, 0)).set r x = gs.map (rowOf n) ++ [x] ++ List.replicate (3 - (r + 1)) (none, 0, 0) := fun x => by
        rw [List.set_append_right _ _ (by simp; omega), show 3 - r = (3 - (r + 1)) + 1 by omega, List.replicate_succ, List.length_map, hgl, Nat.sub_self, List.set_cons_zero]
        simp
      have hold : (ES.flat (gs.map (rowOf n) ++ List.replicate (3 - r) (none, 0, 0)))[r]? = some (.slice none 0 0) := by
        rw [flatS, List.getElem?_map, List.getElem?_append_right (by simp; omega), List.length_map, hgl, Nat.sub_self, show 3 - r = (3 - (r + 1)) + 1 by omega, List.replicate_succ]
        rfl
      obtain ⟨L, hL⟩ : ∃ L, L = gs.map (rowOf n) ++ List.replicate (3 - r) (none, 0, 0) := ⟨_, rfl⟩
      rw [← hL] at hold
      simp only [← hL] at hset
      have HGL : Hid (wr.heap[gt]? = some (.cells (ES.flat L).toArray 40 (0, 0))) := by rw [hL]; exact HG2
      have HSET := Lib.hid hset
      have HOLDH := Lib.hid hold
      clear hset hold hL HG2
      go_wp2_with (with_reducible refine hold_at (d := 22) ?_)
      unfold Hold
      refine wpl_of rfl fun K hK => ?_
      go_simp
      rw [make_bytes n n (by omega) (by omega)]
      refine hK _ _ ?_
      clear hK
      have hgn := heap_alloc_new wr (.cells (EB.flat (List.replicate n 0)).toArray 5)
      have hEa := (Ext.refl [] wr).alloc (.cells (EB.flat (List.replicate n 0)).toArray 5)
      have lwr := hE2.size
      obtain ⟨gn, hge⟩ : ∃ g, g = wr.heap.size := ⟨_, rfl⟩
      have lgt2 := lt_of_blk HGL.out
      have hgsl : ∀ g ∈ gs, g < gn := fun g hg => by have := ((HGS2.out g hg).1).lt; omega
      simp only [← hge] at hgn ⊢
      have hun : U8 (wr.alloc (.cells (EB.flat (List.replicate n 0)).toArray 5)) gn n := ⟨List.replicate n 0, by simp, hgn⟩
      have hgl3 := hEa.blk HGL.out (by simp)
      have hf3 := HF2.out.ext0 hEa
      have hgs3 : ∀ g ∈ gs, U8 (wr.alloc (.cells (EB.flat (List.replicate n 0)).toArray 5)) g n ∧ w.heap.size ≤ g := fun g hg => ⟨((HGS2.out g hg).1).ext hEa (by simp), (HGS2.out g hg).2⟩
      have hE3 := hE2.trans hEa
      have n1 : gn ≠ gt := by omega
      have n2 : w.heap.size ≤ gn := by omega
      have HU3 := Lib.hid hun
      have HF3 := Lib.hid hf3
      have HGS3 := Lib.hid hgs3
      have HGSL := Lib.hid hgsl
      clear hge hgn hEa hun hf3 hgs3 HF2 HGS2 HGL hgsl hE2
      revert hgl3 HU3 HF3 HGS3 hE3
      generalize World.alloc _ _ = W3
      intro hgl3 hE3 HU3 HF3 HGS3
      have c1 : W3.cell? ⟨gt, r, none⟩ = some (.slice none 0 0) := by rw [cell_of_row _ gt r _ _ _ hgl3]; simpa using HOLDH.out
      have c2 : W3.frozen? ⟨gt, r, none⟩ = false := frozen_of_row _ _ _ _ _ hgl3
      have HGL3 := Lib.hid hgl3
      clear hgl3
      go_wp2_with fail
      have hs := rowS_set HGL3.out r (rowOf n gn)
      have hE4 : Ext [gt] W3 (W3.setCell ⟨gt, r, none⟩ (.slice (some ⟨gn, 0, none⟩) n n)) := (Ext.refl [gt] W3).setCell (.inl (by simp)) _
      have hE5 : Ext [] w (W3.setCell ⟨gt, r, none⟩ (.slice (some ⟨gn, 0, none⟩) n n)) := hE3.setCell (.inr lgt) _
      go_roundw
      case rel =>
        refine ⟨r + 1, gs ++ [gn], by omega, by go_num, by simp [hgl], hE5, Lib.hid ?_, Lib.hid ?_, Lib.hid ?_⟩
        · obtain ⟨c, d, h1, h2⟩ := HF3.out
          exact ⟨c, d, hE4.blk h1 (by simpa using hgf.symm), h2⟩
        · rw [HSET.out] at hs
          rw [List.map_append, List.map_singleton]
          exact hs
        · intro g hg
          rcases List.mem_append.1 hg with h | h
          · exact ⟨(HGS3.out g h).1.ext hE4 (by simpa using (HGS3.out g h).1.ne HGL3.out (by decide)), (HGS3.out g h).2⟩
          · simp at h
            subst h
            exact ⟨HU3.out.ext hE4 (by simpa using n1), n2⟩
      case measure => simp [intOf]; omega
    · obtain rfl : r = 3 := by omega
      have z1 : ¬ (((3 : Nat) : Int) < 3) := by omega
      go_wp2_with fail
      obtain ⟨w0, hw0⟩ : ∃ w0, w0 = wr := ⟨_, rfl⟩
      subst hw0
      have HE2 := Lib.hid hE2
      have lgs : ∀ g ∈ gs, g < w0.heap.size := fun g hg => (HGS2.out g hg).1.lt
      have hfgs : f ∉ gs := fun h => by have := (HGS2.out f h).2; omega
      have hgtn : gt ∉ f :: gs := fun h => by
        rcases List.mem_cons.1 h with h | h
        · omega
        · exact (HGS2.out gt h).1.ne HG2.out (by decide) rfl
      have HFGS := Lib.hid hfgs
      have HGTN := Lib.hid hgtn
      have HU2 : Hid (∀ g ∈ gs, U8 w0 g n) := Lib.hid (fun g hg => (HGS2.out g hg).1)
      have hgt2 : w0.heap[gt]? = some (.cells (ES.flat (gs.map (rowOf n))).toArray 40 (0, 0)) := by
        have := HG2.out; simpa using this
      have HG3 := Lib.hid hgt2
      clear hfgs hgtn lgs hgt2 HG2 hE2
      go_loopw [11, 12, 27] (fun _ _ iv w2 => ∃ k : Nat, k ≤ m ∧ iv = .int .i64 k ∧ Ext (f :: gs) w0 w2 ∧ Hid (FldR w2 f) ∧ Hid (∀ g ∈ gs, U8 w2 g n)) (fun _ _ iv _ => m - (intOf iv).toNat)
      case atStart => exact ⟨0, by omega, rfl, Ext.refl _ _, HF2, HU2⟩
      case round =>
        obtain ⟨k, hk, rfl, hE4, HF4, HGS4⟩ := hrel
        by_cases hlk : k < m
        · have z4 : (k : Int) < (m : Int) := by omega
          have hv4 : ES.Rd wr (.slice p m c) cols := by
            have h := HV.out.ext0 HE2.out
            refine h.ext hE4 (fun y hy hy2 => ?_)
            have hy3 := HV.out.lt y hy
            rcases List.mem_cons.1 hy2 with h1 | h1
            · subst h1; exact HVF.out hy
            · have := (HGS2.out y h1).2; omega
          obtain ⟨gv, ov, rfl⟩ : ∃ g o, p = some ⟨g, o, none⟩ := by
            rcases hv4 with ⟨_, h⟩ | ⟨g, o, c, h, _⟩
            · have := HM.out; rw [h] at this; simp at this; omega
            · simp only [Value.slice.injEq] at h; exact ⟨g, o, h.1⟩
          obtain ⟨x, hx⟩ : ∃ x, cols[k]? = some x := ⟨cols[k]'(by rw [← HM.out]; exact hlk), List.getElem?_eq_getElem _⟩
          obtain ⟨px, nx, cx⟩ := x
          have hcx := HCOLS.out _ (List.mem_of_getElem? hx)
          obtain ⟨hnx, ⟨bs, hbl, hrd⟩, hfx⟩ := hcx
          simp only at hnx hrd hfx
          subst hnx
          have hcell := ES_cell hv4 k _ hx
          simp only at hcell
          have hE04 : Ext (f :: gs) w wr := HE2.out.nil.trans' hE4 (fun _ h => .inl h) (fun _ h => .inl h)
          have hcn : ∀ y ∈ blkL (.slice px bs.length cx), y ∉ f :: gs := fun y hy hy2 => by
            rw [hbl] at hy
            have hy3 := hrd.lt y hy
            rcases List.mem_cons.1 hy2 with h1 | h1
            · subst h1; exact hfx hy
            · have := (HGS2.out y h1).2; omega
          have hrd4 : EB.Rd wr (.slice px nx cx) bs := hrd.ext hE04 (fun y hy => hcn y (by rw [hbl]; exact hy))
          have HRD4 := Lib.hid hrd4
          have HCN := Lib.hid hcn
          have HBL := Lib.hid hbl
          have HE04 := Lib.hid hE04
          clear hv4 hx hrd hrd4 hfx hcn hbl hE04
          go_wp2_with fail
          refine (containsI_c _ [] (k : Int) _ (.inl ⟨rfl, rfl⟩) (by simp)).mono ?_
          rintro e W5 ⟨rfl, hE5⟩
          simp only [List.not_mem_nil, decide_false]
          have HF5 := Lib.hid (HF4.out.ext0 hE5)
          have HGS5 : Hid (∀ g ∈ gs, U8 W5 g nx) := Lib.hid (fun g hg => (HGS4.out g hg).ext hE5 (by simp))
          have hE45 := hE4.andThen hE5
          have HRD5 := Lib.hid (HRD4.out.ext0 hE5)
          clear hcell hE4 hE5
          go_wp2_with fail
          have hto : ES.Rd W5 (.slice (some ⟨gt, 0, none⟩) 3 3) (gs.map (rowOf nx)) := .inr ⟨gt, 0, 3, by simp [hgl], by simp [hgl], by have := lt_of_blk (hE45.blk HG3.out HGTN.out); exact this, fun j u hj => by rw [cell_of_row _ gt _ _ _ _ (hE45.blk HG3.out HGTN.out)]; simp at hj ⊢; exact hj⟩
          refine (padd_c f k nx _ _ gs bs W5 (by omega) HF5.out hto hgl HGS5.out HRD5.out HBL.out (fun y hy => HCN.out y (by rw [HBL.out]; exact hy)) (fun y hy => by simp [blkL] at hy; subst hy; exact HGTN.out) (by omega)).mono ?_
          rintro e W6 ⟨rfl, hf6, hgs6, hE6⟩
          go_wp2_with fail
          go_roundw
          case rel => exact ⟨k + 1, by omega, by go_num, hE45.trans hE6, Lib.hid hf6, Lib.hid hgs6⟩
          case measure => simp [intOf]; omega
        · obtain rfl : k = m := by omega
          have z4 : ¬ ((k : Int) < (k : Int)) := by omega
          go_wp2
          go_ret
          exact ⟨gt, rfl, gs, hgl, hE4.blk HG3.out HGTN.out, fun g hg => ⟨HGS4.out g hg, (HGS2.out g hg).2⟩, lgt, HF4.out, HE2.out.trans' (S'' := [f]) hE4 (by simp) (fun y hy => by
            rcases List.mem_cons.1 hy with h | h
            · exact .inl (by simp [h])
            · exact .inr (HGS2.out y h).2)⟩

set_option maxRecDepth 100000 in
theorem length_c (n : Nat) (v : Value) (cols : List (Option Addr × Nat × Nat)) (w : World) (hv : ES.Rd w v cols) (hn1 : 1 ≤ n) (hn : n ≤ 4096) (hc1 : cols ≠ []) (hcl : cols.length ≤ 100) (hcols : ∀ x ∈ cols, x.2.1 = n) :
    Calls Tryz.prog 107 #[v, .slice none 0 0] w fun e w' => e = .returned (.int .i64 n) ∧ Ext [] w w' := by
  obtain ⟨p, c, rfl, _⟩ := hv.len_eq
  obtain ⟨m, hm⟩ : ∃ m, m = cols.length := ⟨_, rfl⟩
  have hm1 : 1 ≤ m := by
    rw [hm]; cases cols with
    | nil => exact absurd rfl hc1
    | cons _ _ => simp
  rw [← hm] at hcl hv ⊢
  have HV := Lib.hid hv
  have HM := Lib.hid hm
  have HCOLS := Lib.hid hcols
  clear hv hm hcols hc1
  go_enter Tryz.func107, Tryz.ntmps107
  go_wp2_with fail
  go_loopw [5, 6, 7, 10, 17, 21] (fun nv _ _ iv _ _ wr => ∃ k : Nat, k ≤ m ∧ iv = .int .i64 k ∧ nv = .int .i64 (if k = 0 then -1 else n) ∧ Ext [] w wr) (fun _ _ _ iv _ _ _ => m - (intOf iv).toNat)
  case atStart => exact ⟨0, by omega, rfl, rfl, Ext.refl _ _⟩
  case round =>
    obtain ⟨k, hk, rfl, rfl, hE⟩ := hrel
    by_cases hlk : k < m
    · have z4 : (k : Int) < (m : Int) := by omega
      have hv4 := HV.out.ext0 hE
      obtain ⟨gv, ov, rfl⟩ : ∃ g o, p = some ⟨g, o, none⟩ := by
        rcases hv4 with ⟨_, h⟩ | ⟨g, o, c, h, _⟩
        · have := HM.out; rw [h] at this; simp at this; omega
        · simp only [Value.slice.injEq] at h; exact ⟨g, o, h.1⟩
      obtain ⟨x, hx⟩ : ∃ x, cols[k]? = some x := ⟨cols[k]'(by rw [← HM.out]; exact hlk), List.getElem?_eq_getElem _⟩
      obtain ⟨px, nx, cx⟩ := x
      have hcx := HCOLS.out _ (List.mem_of_getElem? hx)
      simp only at hcx
      subst hcx
      have hcell := ES_cell hv4 k _ hx
      simp only at hcell
      clear hv4 hx
      by_cases h0 : k = 0
      · rw [if_pos h0]
        clear h0
        go_wp2_with fail
        refine (containsI_c _ [] (k : Int) _ (.inl ⟨rfl, rfl⟩) (by simp)).mono ?_
        rintro e W5 ⟨rfl, hE5⟩
        simp only [List.not_mem_nil, decide_false]
        have hE05 := hE.trans hE5
        have y1 : (0 : Int) ≤ (nx : Int) := by omega
        clear hcell
        go_wp2_with fail
        go_roundw
        case rel => exact ⟨k + 1, by omega, by go_num, by rw [if_neg (by omega)], hE05⟩
        case measure => simp [intOf]; omega
      · rw [if_neg h0]
        go_wp2_with fail
        refine (containsI_c _ [] (k : Int) _ (.inl ⟨rfl, rfl⟩) (by simp)).mono ?_
        rintro e W5 ⟨rfl, hE5⟩
        simp only [List.not_mem_nil, decide_false]
        have hE05 := hE.trans hE5
        have y1 : (0 : Int) ≤ (nx : Int) := by omega
        clear hcell
        go_wp2_with fail
        go_roundw
        case rel => exact ⟨k + 1, by omega, by go_num, by rw [if_neg (by omega)], hE05⟩
        case measure => simp [intOf]; omega
    · obtain rfl : k = m := by omega
      have z4 : ¬ ((k : Int) < (k : Int)) := by omega
      have z5 : ¬ (k = 0) := by omega
      have z6 : ¬ ((n : Int) < 1) := by omega
      have z7 : ¬ ((4096 : Int) < (n : Int)) := by omega
      rw [if_neg z5]
      go_wp2
      go_ret
      exact ⟨rfl, hE⟩

end Go.Proofs.YtgfajlaibgbdoaaGreat

namespace Go.Proofs.YtgfajlaibgbdoaaGreat
open Go.RowKit

/-- a new field's cells. -/
def zeroFL : List Value := [.int .u32 0, .int .i32 0, .int .u32 0] ++ (List.replicate 510 (.int .u8 0) ++ List.replicate 256 (.int .i64 0))
theorem zeroF_built : Tryz.prog.built 216 [] = some zeroFL.toArray := by kernel_rfl
theorem wpList_build0 {P : Program} {ops : Array Oper} {rest : List Oper} {o : Oper} {a : Act} {w : World} {Q : Exit → Act → World → Prop} (hg : o.guard = none) (t : TypeId) (ho : o.op = .build t #[]) (cs : Array Value) (hb : P.built t [] = some cs)
    (h : wpList P ops Q rest (a.put o.dst (.agg cs)) w) : wpList P ops Q (o :: rest) a w :=
  wpList_build hg t #[] ho (by simp [hb]) (by simpa [hb] using h)
theorem good_of (a b : Nat) (A : List Value) (hA : A.length = 3) (ha : a = 510) (hb : b = 256) : FGood (A ++ (List.replicate a (Value.int .u8 0) ++ List.replicate b (Value.int .i64 0))).toArray := by
  refine ⟨by simp [hA]; omega, fun i hi => ⟨0, ?_⟩, fun i hi => ⟨0, by omega, by omega, ?_⟩⟩
  · rw [List.getElem?_toArray, List.getElem?_append_right (by omega), List.getElem?_append_left (by simp; omega), List.getElem?_replicate, if_pos (by omega)]
    rfl
  · rw [List.getElem?_toArray, List.getElem?_append_right (by omega), List.getElem?_append_right (by simp; omega), List.getElem?_replicate, if_pos (by simp; omega)]
theorem zeroF_good : FGood zeroFL.toArray := good_of 510 256 [.int .u32 0, .int .i32 0, .int .u32 0] rfl rfl rfl
theorem zeroF_0 : zeroFL.toArray[0]? = some (.int .u32 0) := by kernel_rfl
theorem zeroF_1 : zeroFL.toArray[1]? = some (.int .i32 0) := by kernel_rfl
theorem zeroF_rel {w : World} {g : Nat} (h : w.heap[g]? = some (.cells zeroFL.toArray 216 (0, 0))) : FldR w g := ⟨zeroFL.toArray, 0, h, zeroF_good, zeroF_0, zeroF_1⟩

set_option maxRecDepth 100000 in
theorem pmake_c (n : Nat) (v : Value) (cols : List (Option Addr × Nat × Nat)) (w : World) (hv : ES.Rd w v cols) (hn1 : 1 ≤ n) (hn : n ≤ 4096) (hc1 : cols ≠ []) (hcl : cols.length ≤ 13)
    (hcols : ∀ x ∈ cols, x.2.1 = n ∧ ∃ bs : List UInt8, bs.length = n ∧ EB.Rd w (.slice x.1 n x.2.2) bs) :
    Calls Tryz.prog 86 #[v] w fun e w' => ∃ (gt : Nat) (gs : List Nat), e = .returned (.tuple #[.slice (some ⟨gt, 0, none⟩) 3 3, .int .i64 0]) ∧ gs.length = 3 ∧ w'.heap[gt]? = some (.cells (ES.flat (gs.map (rowOf n))).toArray 40 (0, 0)) ∧ (∀ g ∈ gs, U8 w' g n ∧ w.heap.size ≤ g) ∧ w.heap.size ≤ gt ∧ Ext [] w w' := by
  obtain ⟨p, c, rfl, _⟩ := hv.len_eq
  obtain ⟨m, hm⟩ : ∃ m, m = cols.length := ⟨_, rfl⟩
  rw [← hm] at hcl hv ⊢
  have HV := Lib.hid hv
  have HCOLS := Lib.hid hcols
  have HM := Lib.hid hm
  clear hv hcols hm
  have m1 : ¬ ((13 : Int) < (m : Int)) := by omega
  have n1 : ¬ ((n : Int) < 0) := by omega
  go_enter Tryz.func86, Tryz.ntmps86
  go_wp2_with fail
  refine (length_c n _ cols _ HV.out hn1 hn hc1 (by rw [← HM.out]; omega) (fun x hx => (HCOLS.out x hx).1)).mono ?_
  rintro e W1 ⟨rfl, hE1⟩
  go_wp2_with (with_reducible refine hold_at (d := 14) ?_)
  unfold Hold
  refine wpList_build0 rfl 216 rfl _ zeroF_built ?_
  refine Go.Great.wpList_boxTo rfl 216 (.tmp 14) rfl (some 15) rfl _ rfl zeroFL.toArray (by rfl) ?_
  have hg := heap_alloc_new W1 (.cells zeroFL.toArray 216)
  have hEa := (Ext.refl [] W1).alloc (.cells zeroFL.toArray 216)
  have hE2 := hE1.alloc (.cells zeroFL.toArray 216)
  have l1 := hE1.size
  obtain ⟨g, hge⟩ : ∃ g, g = W1.heap.size := ⟨_, rfl⟩
  simp only [← hge] at hg ⊢
  have lg : w.heap.size ≤ g := by omega
  have HFR := Lib.hid (zeroF_rel hg)
  clear hg hge hEa hE1
  revert HFR hE2
  obtain ⟨ZL, hZL⟩ : ∃ Z, Z = zeroFL.toArray := ⟨_, rfl⟩
  rw [← hZL]
  clear hZL
  generalize World.alloc _ _ = W2
  intro hE2 HFR
  simp only [Act.put, List.setIfInBounds_toArray, List.set_cons_zero, List.set_cons_succ]
  go_wp2_with fail
  have hv2 := HV.out.ext0 hE2
  rw [HM.out] at hv2 ⊢
  have hnb : ∀ y ∈ blkL (.slice p cols.length c), y < w.heap.size := fun y hy => HV.out.lt y (by rw [HM.out]; exact hy)
  refine (psums_c g n _ cols _ HFR.out hv2 (fun h => by have := hnb g h; omega) (by rw [← HM.out]; exact hcl) hn1 hn (fun x hx => ?_)).mono ?_
  · obtain ⟨h1, bs, h2, h3⟩ := HCOLS.out x hx
    exact ⟨h1, ⟨bs, h2, h3.ext0 hE2⟩, fun h => by have := h3.lt g h; omega⟩
  rintro e W3 ⟨gt, gs, rfl, hgl, hgt, hgs, lgt, -, hE3⟩
  have l2 := hE2.size
  have hfin : Ext [] w W3 := hE2.trans' hE3 (by simp) (fun y hy => .inr (by simp at hy; omega))
  clear hv2 hnb
  go_wp2
  go_ret2
  exact ⟨gt, gs, rfl, hgl, hgt, fun g' hg' => ⟨(hgs g' hg').1, by have := (hgs g' hg').2; omega⟩, by omega, hfin⟩

end Go.Proofs.YtgfajlaibgbdoaaGreat

