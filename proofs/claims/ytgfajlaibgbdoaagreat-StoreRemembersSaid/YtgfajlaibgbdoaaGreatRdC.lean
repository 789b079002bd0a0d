
import Derived.Test.YtgfajlaibgbdoaaGreatRdB
import Derived.Deep.QuietTactic
import Derived.BigQuiet
import Derived.Test.YtgfajlaibgbdoaaGreatSr8
namespace Go.Proofs.YtgfajlaibgbdoaaGreat
open Go.RowKit

set_option maxRecDepth 100000 in
theorem try0_c (rest c1 c2 c3 c4 c5 c6 : Value) (fn ln size : Nat) (P : List UInt8) (w : World) (h : Calls Tryz.prog 64 #[.slice none 0 0, c1, c2, c3, c4, c5, c6] w (FitsPost fn ln size P w)) :
    Calls Tryz.prog 68 #[rest, .int .i64 0, .slice none 0 0, .func (.func 64) #[] #[c1, c2, c3, c4, c5, c6]] w (FitsPost fn ln size P w) := by
  have H := Lib.hid h
  clear h
  go_enter Tryz.func68, Tryz.ntmps68
  go_wp2_with fail
  refine H.out.mono ?_
  rintro e W1 ⟨p, c, rfl, h1, h2, h3, h4, h5⟩
  go_wp2
  go_ret
  exact ⟨p, c, rfl, h1, h2, h3, h4, h5⟩

def ReadPost (size : Nat) (P : List UInt8) (w : World) (e : Ending) (w' : World) : Prop := ∃ (p : Option Addr) (c : Nat), e = .returned (.tuple #[.slice p size c, .slice none 0 0, .int .i64 0]) ∧ EB.Rd w' (.slice p size c) (P.take size) ∧ (∀ y ∈ blkL (.slice p size c), w.heap.size ≤ y ∧ tagOf w' y = some 5) ∧ Ext [] w w'

set_option maxRecDepth 100000 in
set_option maxHeartbeats 8000000 in
theorem arread_c (a r gg k S F addr size : Nat) (ws : List (Nat × Nat × List UInt8)) (P : List UInt8) (zs : List (List UInt8)) (w : World) (hr : RackR w r gg (k + 4) S ws) (ha : ArrR w a r (k + 4) F) (hk1 : 1 ≤ k) (hk : k ≤ 8) (hS : S ≤ 2000) (hF : F ≤ S) (h1 : 1 ≤ size) (h2 : size ≤ 1024) (had : addr + costF k size ≤ (k + 4) * (S - F)) (hlay : LayOf k P ((size + 127) / 128) zs) (hst : Stands ws (k + 4) F addr zs) (hwl : ws.length ≤ 1000000) (hP : 128 * ((size + 127) / 128) ≤ P.length) :
    Calls Tryz.prog 34 #[.pointer (some ⟨a, 0, none⟩), .int .i64 addr, .int .i64 size, .string ⟨(shaF (P.take size)).toArray⟩] w (ReadPost size P w) := by
  have hmf : ∀ (fn : Fn) (first cap : Array Value) (w : World), (Instr.makeFunc fn first cap).run Tryz.prog w = .ok (.func fn first cap) w := fun _ _ _ _ => rfl
  have HR := Lib.hid hr
  have HA := Lib.hid ha
  have HAD := Lib.hid had
  have HLAY := Lib.hid hlay
  have HST := Lib.hid hst
  have HP := Lib.hid hP
  obtain ⟨su, hsu⟩ : ∃ s, s = (shaF (P.take size)).toArray := ⟨_, rfl⟩
  rw [← hsu]
  have hss : su.size = 32 := by rw [hsu, List.size_toArray, shaF_len]
  have HSU := Lib.hid hsu
  clear hr ha had hlay hst hP hsu
  have hEa : Ext [] w ((w.alloc (.cells #[.int .i64 size] 3)).alloc (.cells #[.string ⟨su⟩] 9)) := ((Ext.refl [] w).alloc _).alloc _
  have hb1 := ((Ext.refl [] _).alloc (.cells #[.string ⟨su⟩] 9)).blk (heap_alloc_new w (.cells #[.int .i64 size] 3)) (by simp)
  have hb2 := heap_alloc_new (w.alloc (.cells #[.int .i64 size] 3)) (.cells #[.string ⟨su⟩] 9)
  have hsz : (w.alloc (.cells #[.int .i64 size] 3)).heap.size = w.heap.size + 1 := by first | exact Array.size_push _ | simp
  rw [hsz] at hb2
  obtain ⟨zn, hzn⟩ : ∃ z, z = w.heap.size := ⟨_, rfl⟩
  rw [← hzn] at hb1 hb2
  obtain ⟨un, hun⟩ : ∃ z, z = zn + 1 := ⟨_, rfl⟩
  rw [← hun] at hb2
  have HZN := Lib.hid hzn
  have HUN := Lib.hid hun
  have HB1 := Lib.hid hb1
  have HB2 := Lib.hid hb2
  have HEA := Lib.hid hEa
  clear hb1 hb2 hEa hsz hzn hun
  go_enter Tryz.func34, Tryz.ntmps34
  go_wp2_with fail
  simp only [← HZN.out]
  simp only [← HUN.out]
  refine (ardrives_c a r gg k S F addr size ws _ (HR.out.ext0 HEA.out) (HA.out.ext0 HEA.out) hk1 hk hS hF h1 h2 HAD.out).mono ?_
  rintro e W1 ⟨v1, l1, rfl, hrd, hll, hlx, -, hE1⟩
  have HB1' := Lib.hid (hE1.blk HB1.out (by simp))
  have HB2' := Lib.hid (hE1.blk HB2.out (by simp))
  have HE1 := Lib.hid (HEA.out.trans hE1)
  have HR1 := Lib.hid (HR.out.ext0 HE1.out)
  have HA1 := Lib.hid (HA.out.ext0 HE1.out)
  have HRD1 := Lib.hid hrd
  have HLX := Lib.hid hlx
  have cu : W1.cell? ⟨un, 0, none⟩ = some (.string ⟨su⟩) := by rw [cell_of_row _ _ 0 _ _ _ HB2'.out]; rfl
  clear hrd hlx hE1 HB1 HB2 HEA HR HA
  go_wp2_with fail
  refine (argone_c a r gg (k + 4) S F ws _ l1 _ HR1.out HA1.out HRD1.out (by omega) HLX.out).mono ?_
  rintro e W2 ⟨rfl, rfl⟩
  have hEb := (Ext.refl [] W2).alloc (.cells #[.slice none 0 0] 22)
  have hbg := heap_alloc_new W2 (.cells #[.slice none 0 0] 22)
  have cz : (W2.alloc (.cells #[.slice none 0 0] 22)).cell? ⟨zn, 0, none⟩ = some (.int .i64 size) := by rw [cell_of_row _ _ 0 _ _ _ (hEb.blk HB1'.out (by simp))]; rfl
  go_wp2_with fail
  obtain ⟨gn, hgn⟩ : ∃ g, g = W2.heap.size := ⟨_, rfl⟩
  rw [← hgn] at hbg
  simp only [← hgn]
  have HBG := Lib.hid hbg
  have HGN := Lib.hid hgn
  clear hbg hgn cu
  have HB1 := Lib.hid (hEb.blk HB1'.out (by simp))
  have HB2 := Lib.hid (hEb.blk HB2'.out (by simp))
  have HE2 := Lib.hid (HE1.out.trans hEb)
  have HR2 := Lib.hid (HR1.out.ext0 hEb)
  have HA2 := Lib.hid (HA1.out.ext0 hEb)
  have HRD2 := Lib.hid (HRD1.out.ext0 hEb)
  clear hEb HB1' HB2' HE1 HR1 HA1 HRD1
  revert cz HB1 HB2 HE2 HR2 HA2 HRD2 HBG
  generalize World.alloc _ _ = W3
  intro cz HBG HB1 HB2 HE2 HR2 HA2 HRD2
  go_wp2_with fail
  refine (arstripes_c a r gg k S F addr size ws P zs _ HR2.out HA2.out hk1 hk hS hF h1 h2 HAD.out HLAY.out HST.out hwl).mono ?_
  rintro e W4 ⟨v4, ss, rfl, how4, hst4, hso4, hl8, -, hE4⟩
  obtain ⟨p4, c4, rfl, _⟩ := how4.rd.len_eq
  rw [List.length_map] at how4 ⊢
  obtain ⟨n4, hn4⟩ : ∃ n, n = ss.length := ⟨_, rfl⟩
  rw [← hn4] at how4 ⊢
  clear hn4
  have hEb := (Ext.refl [] W4).alloc (.cells #[.slice p4 n4 c4] 137)
  have hbs := heap_alloc_new W4 (.cells #[.slice p4 n4 c4] 137)
  have hE4b := hE4.trans hEb
  have cg : (W4.alloc (.cells #[.slice p4 n4 c4] 137)).cell? ⟨gn, 0, none⟩ = some (.slice none 0 0) := by rw [cell_of_row _ _ 0 _ _ _ (hE4b.blk HBG.out (by simp))]; rfl
  go_wp2_with fail
  obtain ⟨sn, hsn⟩ : ∃ g, g = W4.heap.size := ⟨_, rfl⟩
  rw [← hsn] at hbs
  simp only [← hsn]
  have HBS := Lib.hid hbs
  have HB1' := Lib.hid (hE4b.blk HB1.out (by simp))
  have HB2' := Lib.hid (hE4b.blk HB2.out (by simp))
  have HBG' := Lib.hid (hE4b.blk HBG.out (by simp))
  have HE4 := Lib.hid (HE2.out.trans hE4b)
  have HRD4 := Lib.hid (HRD2.out.ext0 hE4b)
  have HOW4 := Lib.hid (how4.rd.ext0 hEb)
  have HST4 : Hid (∀ x ∈ ss, StrOk (W4.alloc (.cells #[.slice p4 n4 c4] 137)) W3.heap.size x.1 x.2) := Lib.hid (fun x hx => (hst4 x hx).ext hEb (by simp))
  have HSO4 := Lib.hid hso4
  clear hbs hsn hEb hE4 hE4b HB1 HB2 HBG HE2 HR2 HA2 HRD2 how4 hst4 hso4 cz
  revert cg HB1' HB2' HBG' HE4 HRD4 HOW4 HST4 HBS
  generalize World.alloc _ _ = W5
  intro cg HBS HB1 HB2 HBG HE4 HRD4 HOW4 HST4
  go_wp2_with fail
  refine (delfi_c _ l1 gn _ HRD4.out (by omega) cg).mono ?_
  rintro e W6 ⟨rfl, hE6⟩
  have hEb : Ext [] W6 ((W6.alloc (.cells #[.slice none 0 0] 40)).alloc (.cells #[.slice none 0 0] 22)) := ((Ext.refl [] W6).alloc _).alloc _
  have hbf := ((Ext.refl [] _).alloc (.cells #[.slice none 0 0] 22)).blk (heap_alloc_new W6 (.cells #[.slice none 0 0] 40)) (by simp)
  have hbl := heap_alloc_new (W6.alloc (.cells #[.slice none 0 0] 40)) (.cells #[.slice none 0 0] 22)
  have hsz : (W6.alloc (.cells #[.slice none 0 0] 40)).heap.size = W6.heap.size + 1 := by first | exact Array.size_push _ | simp
  rw [hsz] at hbl
  have hE6b := hE6.trans hEb
  have cg6 : ((W6.alloc (.cells #[.slice none 0 0] 40)).alloc (.cells #[.slice none 0 0] 22)).cell? ⟨gn, 0, none⟩ = some (.slice none 0 0) := hE6b.cell cg (by simp)
  clear hsz cg
  have HB1' := Lib.hid (hE6b.blk HB1.out (by simp))
  have HB2' := Lib.hid (hE6b.blk HB2.out (by simp))
  have HBG' := Lib.hid (hE6b.blk HBG.out (by simp))
  have HBS' := Lib.hid (hE6b.blk HBS.out (by simp))
  have HBF := Lib.hid hbf
  have HBL := Lib.hid hbl
  have HE6 := Lib.hid (HE4.out.trans hE6b)
  have HOW6 := Lib.hid (HOW4.out.ext0 hE6b)
  have HST6 : Hid (∀ x ∈ ss, StrOk ((W6.alloc (.cells #[.slice none 0 0] 40)).alloc (.cells #[.slice none 0 0] 22)) W3.heap.size x.1 x.2) := Lib.hid (fun x hx => (HST4.out x hx).ext hE6b (by simp))
  have HLF : Hid (w.heap.size ≤ W6.heap.size) := Lib.hid (Nat.le_trans HE4.out.size hE6.size)
  clear hEb hbf hbl hE6b hE6 HB1 HB2 HBG HBS HE4 HOW4 HST4 HRD4
  go_wp2_with fail
  obtain ⟨fn, hfn⟩ : ∃ g, g = W6.heap.size := ⟨_, rfl⟩
  rw [← hfn] at HBF HBL HLF
  simp only [← hfn]
  clear hfn
  obtain ⟨ln, hln⟩ : ∃ g, g = fn + 1 := ⟨_, rfl⟩
  rw [← hln] at HBL
  simp only [← hln]
  have HLN := Lib.hid hln
  clear hln
  revert cg6 HB1' HB2' HBG' HBS' HBF HBL HE6 HOW6 HST6
  generalize World.alloc _ _ = W7
  intro cg6 HB1 HB2 HBG HBS HE6 HOW6 HST6 HBF HBL
  go_loopw [19, 61] (fun _ iv wr => iv = .int .i64 0 ∧ wr = W7) (fun _ _ _ => 0)
  case atStart => exact ⟨rfl, rfl⟩
  case round =>
    obtain ⟨rfl, rfl⟩ := hrel
    go_wp2_with fail
    have d1 : wr.cell? ⟨zn, 0, none⟩ = some (.int .i64 size) := by rw [cell_of_row _ _ 0 _ _ _ HB1.out]; rfl
    have d2 : wr.cell? ⟨un, 0, none⟩ = some (.string ⟨su⟩) := by rw [cell_of_row _ _ 0 _ _ _ HB2.out]; rfl
    have d3 : wr.cell? ⟨sn, 0, none⟩ = some (.slice p4 n4 c4) := by rw [cell_of_row _ _ 0 _ _ _ HBS.out]; rfl
    rw [HSU.out] at d2
    refine (try0_c v1 _ _ _ _ _ _ fn ln size P _ (fits_c k ((size + 127) / 128) size W3.heap.size gn sn zn un fn ln P _ ss _ HOW6.out HST6.out HSO4.out hl8 hk h1 h2 (by omega) HP.out cg6 d3 d1 d2 HBF.out HBL.out)).mono ?_
    rintro e W8 ⟨p, c, rfl, hf8, hl8', hrd8, htg8, hE8⟩
    have f1 : W8.cell? ⟨fn, 0, none⟩ = some (.slice p size c) := by rw [cell_of_row _ _ 0 _ _ _ hf8]; rfl
    have f2 : W8.cell? ⟨ln, 0, none⟩ = some (.slice none 0 0) := by rw [cell_of_row _ _ 0 _ _ _ hl8']; rfl
    have HR8 := Lib.hid hrd8
    have HT8 := Lib.hid htg8
    have HE8 : Hid (Ext [] w W8) := Lib.hid (HE6.out.trans' hE8 (by simp) (fun y hy => .inr (by have := HLF.out; have := HLN.out; simp at hy; omega)))
    clear d1 d2 d3 cg6 hf8 hl8' hrd8 htg8 hE8 HB1 HB2 HBG HBS HBF HBL HOW6 HST6
    go_wp2_with fail
    go_quiet (fail)
    go_wp2
    go_ret3
    exact ⟨p, c, rfl, HR8.out, fun y hy => ⟨Nat.le_trans HE6.out.size (HT8.out y hy).1, (HT8.out y hy).2⟩, HE8.out.drewN _⟩

end Go.Proofs.YtgfajlaibgbdoaaGreat

namespace Go.Proofs.YtgfajlaibgbdoaaGreat
open Go.RowKit

/-- a block that isn't remembered is read. -/
structure MissRel (v v' : Sv) (k : Mno) : Prop where
  ws : v'.ws = v.ws
  spc : v'.spc = v.spc
  st : v'.st = { v.st with mem := remL v.st.mem k, gets := v.st.gets + 1, reads := v.st.reads + 1 }

set_option maxRecDepth 100000 in
set_option maxHeartbeats 8000000 in
theorem stget_miss (y : Sy) (v : Sv) (A size : Nat) (birth : Int) (P : List UInt8) (zs : List (List UInt8)) (w : World) (h : SyR w y v) (hf : v.st.mem.find? (hitB A size (shaF (P.take size))) = none) (had : A + costF y.k size ≤ (y.k + 4) * (y.S - y.F)) (hlay : LayOf y.k P ((size + 127) / 128) zs) (hst : Stands v.ws (y.k + 4) y.F A zs) (hwl : v.ws.length ≤ 1000000) (hP : 128 * ((size + 127) / 128) ≤ P.length) (h1 : 1 ≤ size) (h2 : size ≤ 1024)
    (hg0 : 0 ≤ v.st.gets) (hg1 : v.st.gets ≤ 1000000) (hh0 : 0 ≤ v.st.reads) (hh1 : v.st.reads ≤ 1000000) :
    Calls Tryz.prog 12 #[.pointer (some ⟨y.b, 0, none⟩), pagg A size birth (shaF (P.take size))] w fun e w' => ∃ u v', e = .returned (.tuple #[u, .int .i64 0]) ∧ EB.Rd w' u (P.take size) ∧ SyR w' y v' ∧ MissRel v v' ((A : Int), shaF (P.take size), P.take size) ∧ SyF y w w' := by
  obtain ⟨su, hsu⟩ : ∃ s, s = shaF (P.take size) := ⟨_, rfl⟩
  have hptl : (P.take size).length = size := by rw [List.length_take]; omega
  rw [← hsu] at hf ⊢
  have hEa : Ext [] w (w.alloc (.cells #[.int .i64 A, .int .i64 size, .int .i64 birth, .string ⟨su.toArray⟩] 37)) := (Ext.refl [] w).alloc _
  have hrc := recall_c y.b y.a y.sp v.st A size birth su _ (h.st.ext0 hEa) (by have := h.mem; omega)
  have HRC := Lib.hid hrc
  have HS := Lib.hid (h.ext0 hEa)
  have hb3 := heap_alloc_new w (.cells #[.int .i64 A, .int .i64 size, .int .i64 birth, .string ⟨su.toArray⟩] 37)
  obtain ⟨v0, v1, v2, v3, _⟩ := cells4 hb3
  have HF := Lib.hid hf
  have HB3 := Lib.hid hb3
  have HSU := Lib.hid hsu
  have HAD := Lib.hid had
  have HLAY := Lib.hid hlay
  have HST := Lib.hid hst
  have HP := Lib.hid hP
  have HPT := Lib.hid hptl
  rw [pagg]
  clear h hrc hf hb3 hsu had hlay hst hP hptl
  go_enter Tryz.func12, Tryz.ntmps12
  go_wp2_with fail
  refine HRC.out.mono ?_
  rintro e W1 ⟨hE1, ⟨-, rfl⟩ | ⟨x, bs, hfi, -, -⟩⟩
  case inr => rw [HF.out] at hfi; cases hfi
  have HS1 := Lib.hid (HS.out.ext0 hE1)
  have HB1 := Lib.hid (hE1.blk HB3.out (by simp))
  have HE1 := Lib.hid (hEa.trans hE1)
  clear HS HB3 hE1 hEa v0 v1 v2 v3 HRC HF
  obtain ⟨bp, hbp⟩ : ∃ b, b = w.heap.size := ⟨_, rfl⟩
  rw [← hbp] at HB1
  simp only [← hbp]
  have HBP := Lib.hid hbp
  clear hbp
  go_wp2_with fail
  have hEk : Ext [] W1 (W1.alloc (.cells #[.int .i64 0, .string ⟨#[]⟩, .slice none 0 0] 87)) := (Ext.refl [] W1).alloc _
  have HS2 := Lib.hid (HS1.out.ext0 hEk)
  have HB2 := Lib.hid (hEk.blk HB1.out (by simp))
  have HE2 := Lib.hid (HE1.out.trans hEk)
  clear HS1 HB1 HE1 hEk
  obtain ⟨xk, hxk⟩ : ∃ b, b = W1.heap.size := ⟨_, rfl⟩
  simp only [← hxk]
  clear hxk
  revert HS2 HB2 HE2
  generalize World.alloc _ _ = W2
  intro HS2 HB2 HE2
  obtain ⟨c0, _⟩ := HS2.out.st.cells
  obtain ⟨q0, q1, q2, q3, _⟩ := cells4 HB2.out
  have hD := (Ext.refl [] W2).drew
  refine wp_region_u (fun W => W.cell? ⟨y.b, 0, none⟩ = some (.pointer (some ⟨y.a, 0, none⟩)) ∧ W.cell? ⟨bp, 0, none⟩ = some (.int .i64 A) ∧ W.cell? ⟨bp, 1, none⟩ = some (.int .i64 size) ∧ W.cell? ⟨bp, 3, none⟩ = some (.string ⟨su.toArray⟩)) (fun i => i == 3 || i == 5 || i == 7 || i == 9) (by kernel_rfl) ⟨hD.cell c0 (by simp), hD.cell q0 (by simp), hD.cell q1 (by simp), hD.cell q3 (by simp)⟩ (fun hS => ?_)
  (refine wpAnyU_pure (i := 0) rfl (by kernel_rfl) (by kernel_rfl) (by kernel_rfl) (by rfl) (by exact fun _ _ _ h => h) (Or.inl ⟨by rfl, fun W => by (go_simp; try rfl)⟩) ?_); (try go_frame)
  (refine wpAnyU_pure (i := 1) rfl (by kernel_rfl) (by kernel_rfl) (by kernel_rfl) (by rfl) (by exact fun _ _ _ h => h) (Or.inl ⟨by rfl, fun W => by (go_simp; try rfl)⟩) ?_); (try go_frame)
  (refine wpAnyU_pure (i := 2) rfl (by kernel_rfl) (by kernel_rfl) (by kernel_rfl) (by rfl) (by exact fun _ _ _ h => h) (Or.inl ⟨by rfl, fun W => by (go_simp; try rfl)⟩) ?_); (try go_frame)
  (refine wpAnyU_pure (i := 4) rfl (by kernel_rfl) (by kernel_rfl) (by kernel_rfl) (by rfl) (by exact fun _ _ _ h => h) (Or.inl ⟨by rfl, fun W => by (go_simp; try rfl)⟩) ?_); (try go_frame)
  (refine wpAnyU_pure (i := 6) rfl (by kernel_rfl) (by kernel_rfl) (by kernel_rfl) (by rfl) (by exact fun _ _ _ h => h) (Or.inl ⟨by rfl, fun W => by (go_simp; try rfl)⟩) ?_); (try go_frame)
  (refine wpAnyU_pure (i := 8) rfl (by kernel_rfl) (by kernel_rfl) (by kernel_rfl) (by rfl) (by exact fun _ _ _ h => h) (Or.inl ⟨by rfl, fun W => by (go_simp; try rfl)⟩) ?_); (try go_frame)
  (refine wpAnyU_take (i := 3) rfl (by kernel_rfl) (by kernel_rfl) (by kernel_rfl) (by kernel_rfl) (by exact fun _ _ _ h => h) (by assumption) (Or.inl ⟨by rfl, fun W hW => by (have hWW := hW; clear hW; go_split_ands; go_simp; try rfl)⟩) ?_); (try go_frame)
  (refine wpAnyU_take (i := 5) rfl (by kernel_rfl) (by kernel_rfl) (by kernel_rfl) (by kernel_rfl) (by exact fun _ _ _ h => h) (by assumption) (Or.inl ⟨by rfl, fun W hW => by (have hWW := hW; clear hW; go_split_ands; go_simp; try rfl)⟩) ?_); (try go_frame)
  (refine wpAnyU_take (i := 7) rfl (by kernel_rfl) (by kernel_rfl) (by kernel_rfl) (by kernel_rfl) (by exact fun _ _ _ h => h) (by assumption) (Or.inl ⟨by rfl, fun W hW => by (have hWW := hW; clear hW; go_split_ands; go_simp; try rfl)⟩) ?_); (try go_frame)
  (refine wpAnyU_take (i := 9) rfl (by kernel_rfl) (by kernel_rfl) (by kernel_rfl) (by kernel_rfl) (by exact fun _ _ _ h => h) (by assumption) (Or.inl ⟨by rfl, fun W hW => by (have hWW := hW; clear hW; go_split_ands; go_simp; try rfl)⟩) ?_); (try go_frame)
  refine wpAnyU_one (i := 10) (by kernel_rfl) rfl (fun K hK => ?_)
  (try simp only [Act.put, List.getElem_toArray, List.getElem_cons_zero, List.getElem_cons_succ, List.setIfInBounds_toArray, List.set_cons_zero, List.set_cons_succ]); rw [if_pos (show Region.wanted _ _ = true from rfl)]
  go_simp
  have hrd0 := arread_c y.a y.r y.gg y.k y.S y.F A size v.ws P zs _ (HS2.out.ext0 hD).rk (HS2.out.ext0 hD).ar HS2.out.k1 HS2.out.k8 HS2.out.S2 HS2.out.FS h1 h2 HAD.out HLAY.out HST.out hwl HP.out
  rw [← HSU.out] at hrd0
  refine hrd0.mono ?_
  rintro e W3 ⟨pr, cr, rfl, hrd, htg, hE3⟩
  have hE03 := hD.trans hE3
  have HS3 := Lib.hid (HS2.out.ext0 hE03)
  have HB3 := Lib.hid (hE03.blk HB2.out (by simp))
  have HE3 := Lib.hid (HE2.out.trans hE03)
  have HV3 : Hid (EB.Rd W3 (.slice pr size cr) (P.take size) ∧ ∀ y ∈ blkL (.slice pr size cr), tagOf W3 y = some 5) := Lib.hid ⟨hrd, fun y hy => (htg y hy).2⟩
  refine hK.out _ _ (fun h => by cases h) (fun _ => ?_)
  clear hK hrd0 hrd htg hE3 hE03 HS2 HB2 HE2 c0 q0 q1 q2 q3 hS hD HLAY HST HAD HP
  (refine wpAnyU_pure (i := 11) rfl (by kernel_rfl) (by kernel_rfl) (by kernel_rfl) (by rfl) (by exact fun _ _ _ h => h) (Or.inl ⟨by rfl, fun W => by (go_simp; try rfl)⟩) ?_); (try go_frame)
  (simp only [List.getElem_toArray, List.getElem_cons_zero, List.getElem_cons_succ, List.set_cons_zero, List.set_cons_succ])
  (refine wpAnyU_pure (i := 12) rfl (by kernel_rfl) (by kernel_rfl) (by kernel_rfl) (by rfl) (by exact fun _ _ _ h => h) (Or.inl ⟨by rfl, fun W => by (go_simp; try rfl)⟩) ?_); (try go_frame)
  (simp only [List.getElem_toArray, List.getElem_cons_zero, List.getElem_cons_succ, List.set_cons_zero, List.set_cons_succ])
  (refine wpAnyU_pure (i := 13) rfl (by kernel_rfl) (by kernel_rfl) (by kernel_rfl) (by rfl) (by exact fun _ _ _ h => h) (Or.inl ⟨by rfl, fun W => by (go_simp; try rfl)⟩) ?_); (try go_frame)
  (simp only [List.getElem_toArray, List.getElem_cons_zero, List.getElem_cons_succ, List.set_cons_zero, List.set_cons_succ])
  (refine wpAnyU_pure (i := 14) rfl (by kernel_rfl) (by kernel_rfl) (by kernel_rfl) (by rfl) (by exact fun _ _ _ h => h) (Or.inl ⟨by rfl, fun W => by (go_simp; try rfl)⟩) ?_); (try go_frame)
  (simp only [List.getElem_toArray, List.getElem_cons_zero, List.getElem_cons_succ, List.set_cons_zero, List.set_cons_succ])
  (refine wpAnyU_pure (i := 15) rfl (by kernel_rfl) (by kernel_rfl) (by kernel_rfl) (by rfl) (by exact fun _ _ _ h => h) (Or.inl ⟨by rfl, fun W => by (go_simp; try rfl)⟩) ?_); (try go_frame)
  (simp only [List.getElem_toArray, List.getElem_cons_zero, List.getElem_cons_succ, List.set_cons_zero, List.set_cons_succ])
  (refine wpAnyU_pure (i := 16) rfl (by kernel_rfl) (by kernel_rfl) (by kernel_rfl) (by rfl) (by exact fun _ _ _ h => h) (Or.inl ⟨by rfl, fun W => by (go_simp; try rfl)⟩) ?_); (try go_frame)
  (simp only [List.getElem_toArray, List.getElem_cons_zero, List.getElem_cons_succ, List.set_cons_zero, List.set_cons_succ])
  (refine wpAnyU_pure (i := 17) rfl (by kernel_rfl) (by kernel_rfl) (by kernel_rfl) (by rfl) (by exact fun _ _ _ h => h) (Or.inl ⟨by rfl, fun W => by (go_simp; try rfl)⟩) ?_); (try go_frame)
  (simp only [List.getElem_toArray, List.getElem_cons_zero, List.getElem_cons_succ, List.set_cons_zero, List.set_cons_succ])
  refine wpAnyU_done (by kernel_rfl) ?_ _
  have hbw : bp < W3.heap.size := lt_of_blk HB3.out
  obtain ⟨_, _, _, c4, _, c6, _, _, hfz⟩ := HS3.out.st.cells
  try simp only at c4
  have h3 := HS3.out.st.setAt (s' := { v.st with gets := v.st.gets + 1 }) 4 (.int .i64 (v.st.gets + 1)) rfl (fun mv => rfl)
  have H3 := Lib.hid h3
  clear h3 c6
  go_wp2_with fail
  refine (i64add_c ⟨y.b, 4, none⟩ v.st.gets _ c4 (hfz 4) hg0 (by omega)).mono ?_
  rintro e W4 ⟨rfl, rfl⟩
  have hv4 := HV3.out.1.tagExt HV3.out.2 H3.out.2 (by simp only [List.mem_singleton, forall_eq, HS3.out.st.tag]; decide) (by decide)
  have HS4 := Lib.hid (HS3.out.onSt H3.out.2 H3.out.1 HS3.out.mem)
  have HB4 := Lib.hid (SyF.blk HS3.out (SyF.st H3.out.2) HB3.out (by decide))
  have HF4 := Lib.hid ((SyF.of0 HE3.out : SyF y w W3).trans (SyF.st H3.out.2))
  have HV4 := Lib.hid hv4
  clear hv4 H3 c4 hfz HS3 HB3 HE3 HV3 hbw
  revert HS4 HB4 HF4 HV4
  generalize World.setCell _ _ _ = W4
  intro HS4 HB4 HF4 HV4
  obtain ⟨_, _, _, _, _, c6, _, _, hfz⟩ := HS4.out.st.cells
  try simp only at c6
  have h4 := HS4.out.st.setAt (s' := { v.st with gets := v.st.gets + 1, reads := v.st.reads + 1 }) 6 (.int .i64 (v.st.reads + 1)) rfl (fun mv => rfl)
  have H4 := Lib.hid h4
  clear h4
  go_wp2_with fail
  refine (i64add_c ⟨y.b, 6, none⟩ v.st.reads _ c6 (hfz 6) hh0 (by omega)).mono ?_
  rintro e W5 ⟨rfl, rfl⟩
  have hv5 := HV4.out.1.tagExt HV4.out.2 H4.out.2 (by simp only [List.mem_singleton, forall_eq, HS4.out.st.tag]; decide) (by decide)
  have HS5 := Lib.hid (HS4.out.onSt H4.out.2 H4.out.1 HS4.out.mem)
  have HB5 := Lib.hid (SyF.blk HS4.out (SyF.st H4.out.2) HB4.out (by decide))
  have HF5 := Lib.hid (HF4.out.trans (SyF.st H4.out.2))
  have HV5 := Lib.hid hv5
  clear hv5 H4 c6 hfz HS4 HB4 HF4 HV4
  revert HS5 HB5 HF5 HV5
  generalize World.setCell _ _ _ = W5
  intro HS5 HB5 HF5 HV5
  obtain ⟨q0, _, _, q3, _⟩ := cells4 HB5.out
  go_wp2_with fail
  have hD := (Ext.refl [] W5).drew
  refine wp_region_u (fun W => W.cell? ⟨bp, 0, none⟩ = some (.int .i64 A) ∧ W.cell? ⟨bp, 3, none⟩ = some (.string ⟨su.toArray⟩)) (fun i => i == 2 || i == 4 || i == 6) (by kernel_rfl) ⟨hD.cell q0 (by simp), hD.cell q3 (by simp)⟩ (fun hS => ?_)
  (refine wpAnyU_pure (i := 0) rfl (by kernel_rfl) (by kernel_rfl) (by kernel_rfl) (by rfl) (by exact fun _ _ _ h => h) (Or.inl ⟨by rfl, fun W => by (go_simp; try rfl)⟩) ?_); (try go_frame)
  (refine wpAnyU_pure (i := 1) rfl (by kernel_rfl) (by kernel_rfl) (by kernel_rfl) (by rfl) (by exact fun _ _ _ h => h) (Or.inl ⟨by rfl, fun W => by (go_simp; try rfl)⟩) ?_); (try go_frame)
  (refine wpAnyU_pure (i := 3) rfl (by kernel_rfl) (by kernel_rfl) (by kernel_rfl) (by rfl) (by exact fun _ _ _ h => h) (Or.inl ⟨by rfl, fun W => by (go_simp; try rfl)⟩) ?_); (try go_frame)
  (refine wpAnyU_pure (i := 5) rfl (by kernel_rfl) (by kernel_rfl) (by kernel_rfl) (by rfl) (by exact fun _ _ _ h => h) (Or.inl ⟨by rfl, fun W => by (go_simp; try rfl)⟩) ?_); (try go_frame)
  (refine wpAnyU_take (i := 2) rfl (by kernel_rfl) (by kernel_rfl) (by kernel_rfl) (by kernel_rfl) (by exact fun _ _ _ h => h) (by assumption) (Or.inl ⟨by rfl, fun W hW => by (have hWW := hW; clear hW; go_split_ands; go_simp; try rfl)⟩) ?_); (try go_frame)
  (refine wpAnyU_take (i := 4) rfl (by kernel_rfl) (by kernel_rfl) (by kernel_rfl) (by kernel_rfl) (by exact fun _ _ _ h => h) (by assumption) (Or.inl ⟨by rfl, fun W hW => by (have hWW := hW; clear hW; go_split_ands; go_simp; try rfl)⟩) ?_); (try go_frame)
  refine wpAnyU_one (i := 6) (by kernel_rfl) rfl (fun K hK => ?_)
  (try simp only [Act.put, List.getElem_toArray, List.getElem_cons_zero, List.getElem_cons_succ, List.setIfInBounds_toArray, List.set_cons_zero, List.set_cons_succ]); rw [if_pos (show Region.wanted _ _ = true from rfl)]
  go_simp
  refine (cloneB_c _ (P.take size) _ (by rw [HPT.out]; omega) (HV5.out.1.ext0 hD)).mono ?_
  rintro e W6 ⟨v6, rfl, how6, hE6, hnew6, -⟩
  have s6 := hE6.cell hS.1 (by simp)
  have s6' := hE6.cell hS.2 (by simp)
  have hE06 := hD.trans hE6
  obtain ⟨p6, c6, rfl, _⟩ := how6.rd.len_eq
  rw [HPT.out] at how6 ⊢
  refine hK.out _ _ (fun _ => ⟨s6, s6'⟩) (fun _ => ?_)
  clear hK hS
  (refine wpAnyU_pure (i := 7) rfl (by kernel_rfl) (by kernel_rfl) (by kernel_rfl) (by rfl) (by exact fun _ _ _ h => h) (Or.inl ⟨by rfl, fun W => by (go_simp; try rfl)⟩) ?_); (try go_frame)
  refine wpAnyU_one (i := 8) (by kernel_rfl) rfl (fun K hK => ?_)
  (try simp only [Act.put, List.getElem_toArray, List.getElem_cons_zero, List.getElem_cons_succ, List.setIfInBounds_toArray, List.set_cons_zero, List.set_cons_succ]); rw [if_pos (show Region.wanted _ _ = true from rfl)]
  go_simp
  have HS6 := Lib.hid (HS5.out.ext0 hE06)
  have HF6 := Lib.hid (HF5.out.trans (SyF.of0 hE06))
  have HV6 : Hid (EB.Rd W6 (.slice pr size cr) (P.take size) ∧ ∀ y ∈ blkL (.slice pr size cr), tagOf W6 y = some 5) := Lib.hid ⟨HV5.out.1.ext0 hE06, fun y hy => tagOf_ext (HV5.out.2 y hy) hE06 (by simp)⟩
  clear hE06 hE6 hnew6 s6 s6' HS5 HF5 HV5 HB5 hD q0 q3
  refine (remember_c y.b y.a y.sp { v.st with gets := v.st.gets + 1, reads := v.st.reads + 1 } ((A : Int), su, p6, size, c6) (P.take size) W6 HS6.out.st HS6.out.mem how6).mono ?_
  rintro e W7 ⟨rfl, hst7, hE7⟩
  have HS7 := Lib.hid (HS6.out.onSt hE7 hst7 (remL_len _ _))
  have HF7 := Lib.hid (HF6.out.trans (SyF.st hE7))
  have hv7 := HV6.out.1.tagExt HV6.out.2 hE7 (by simp only [List.mem_singleton, forall_eq, HS6.out.st.tag]; decide) (by decide)
  have HV7 := Lib.hid hv7
  refine hK.out _ _ (fun h => by cases h) (fun _ => ?_)
  refine wpAnyU_done (by kernel_rfl) ?_ _
  clear hK hst7 hE7 hv7 how6 HS6 HF6 HV6
  go_wp2
  go_ret2
  exact ⟨_, rfl, HV7.out.1, ⟨_, v.ws, v.spc⟩, HS7.out, ⟨rfl, rfl, rfl⟩, HF7.out⟩

end Go.Proofs.YtgfajlaibgbdoaaGreat

