
import Derived.Test.YtgfajlaibgbdoaaGreatSrA
namespace Go.Proofs.YtgfajlaibgbdoaaGreat
open Go.RowKit

/-- what a store counts, and remembers: address, sum, bytes. -/
structure Sto where
  txg : Int
  mem : List (Int × List UInt8 × List UInt8)
  gets : Int
  hits : Int
  reads : Int
  heals : Int
  puts : Int

def stoRow (a sp : Nat) (mv : Value) (s : Sto) : Array Value := #[.pointer (some ⟨a, 0, none⟩), .pointer (some ⟨sp, 0, none⟩), .int .i64 s.txg, mv, .int .i64 s.gets, .int .i64 s.hits, .int .i64 s.reads, .int .i64 s.heals, .int .i64 s.puts]

/-- the memory: its elements, and the bytes that they point to. -/
def MemR (w : World) (mv : Value) (ks : List (Int × List UInt8 × List UInt8)) : Prop := ∃ zs : List (Kno × List UInt8), EK.Ow 87 w mv (zs.map (·.1)) ∧
  (∀ z ∈ zs, EB.Ow 5 w (.slice z.1.2.2.1 z.1.2.2.2.1 z.1.2.2.2.2) z.2) ∧ ks = zs.map (fun z => (z.1.1, z.1.2.1, z.2))

def StoRm (w : World) (b a sp : Nat) (mv : Value) (s : Sto) : Prop := w.heap[b]? = some (.cells (stoRow a sp mv s) 79 (0, 0)) ∧ MemR w mv s.mem ∧ ∀ y ∈ blkL mv, b ≤ y
def StoR (w : World) (b a sp : Nat) (s : Sto) : Prop := ∃ mv, StoRm w b a sp mv s

theorem MemR.extT {w w' : World} {mv : Value} {ks : List (Int × List UInt8 × List UInt8)} {bs : List Nat} {Ts : List TypeId} (h : MemR w mv ks) (he : ExtT bs Ts w w') (ht : ∀ y ∈ bs, tagOf w y ≠ some 87 ∧ tagOf w y ≠ some 5) (h1 : 87 ∉ Ts) (h2 : 5 ∉ Ts) : MemR w' mv ks := by
  obtain ⟨zs, a1, a2, a3⟩ := h
  refine ⟨zs, a1.extT he (fun y hy hy2 => ?_) h1, fun z hz => (a2 z hz).extT he (fun y hy hy2 => ?_) h2, a3⟩
  · obtain ⟨c, hc⟩ := a1.tag y hy
    exact (ht y hy2).1 (tagOf_of hc)
  · obtain ⟨c, hc⟩ := (a2 z hz).tag y hy
    exact (ht y hy2).2 (tagOf_of hc)
theorem MemR.ext0 {w w' : World} {mv : Value} {ks : List (Int × List UInt8 × List UInt8)} (h : MemR w mv ks) (he : Ext [] w w') : MemR w' mv ks :=
  h.extT (bs := []) (Ts := []) (.of0 he) (by simp) (by simp) (by simp)
theorem MemR.len_eq {w : World} {mv : Value} {ks : List (Int × List UInt8 × List UInt8)} (h : MemR w mv ks) : ∃ p c, mv = .slice p ks.length c ∧ ks.length ≤ c := by
  obtain ⟨zs, a1, a2, rfl⟩ := h
  obtain ⟨p, c, h1, h2⟩ := a1.rd.len_eq
  simp at h1 h2 ⊢
  exact ⟨p, c, h1, h2⟩
theorem StoR.extT {w w' : World} {b a sp : Nat} {s : Sto} {bs : List Nat} {Ts : List TypeId} (h : StoR w b a sp s) (he : ExtT bs Ts w w') (hb : b ∉ bs) (ht : ∀ y ∈ bs, tagOf w y ≠ some 87 ∧ tagOf w y ≠ some 5) (h1 : 87 ∉ Ts) (h2 : 5 ∉ Ts) (h3 : 79 ∉ Ts) : StoR w' b a sp s := by
  obtain ⟨mv, a1, a2, a3⟩ := h
  exact ⟨mv, he.blk a1 hb h3, a2.extT he ht h1 h2, a3⟩
theorem StoR.ext0 {w w' : World} {b a sp : Nat} {s : Sto} (h : StoR w b a sp s) (he : Ext [] w w') : StoR w' b a sp s := h.extT (bs := []) (Ts := []) (.of0 he) (by simp) (by simp) (by simp) (by simp) (by simp)
theorem StoR.tag {w : World} {b a sp : Nat} {s : Sto} (h : StoR w b a sp s) : tagOf w b = some 79 := by obtain ⟨mv, a1, _⟩ := h; exact tagOf_of a1
theorem StoR.lt {w : World} {b a sp : Nat} {s : Sto} (h : StoR w b a sp s) : b < w.heap.size := by obtain ⟨mv, a1, _⟩ := h; exact lt_of_blk a1

def dropA (m : List (Int × List UInt8 × List UInt8)) (x : Int) : List (Int × List UInt8 × List UInt8) := m.filter (fun k => !(k.1 == x))

set_option maxRecDepth 100000 in
set_option maxHeartbeats 1000000 in
theorem forget_m (b a sp : Nat) (mv : Value) (s : Sto) (x : Int) (w : World) (h : StoRm w b a sp mv s) (hl : s.mem.length ≤ 1000000) :
    Calls Tryz.prog 40 #[.pointer (some ⟨b, 0, none⟩), .int .i64 x] w fun e w' => e = .returned (.tuple #[]) ∧ ∃ mv', StoRm w' b a sp mv' { s with mem := dropA s.mem x } ∧ Ext (b :: blkL mv) w w' ∧ ∀ y ∈ blkL mv', y ∈ blkL mv := by
  obtain ⟨hb, ⟨zs, a1, a2, a3⟩, hlow⟩ := h
  have HLOW := Lib.hid hlow
  clear hlow
  have c3 : w.cell? ⟨b, 3, none⟩ = some mv := by rw [cell_of_row w b 3 _ _ _ hb]; rfl
  have HB := Lib.hid hb
  have H1 := Lib.hid a1
  have H2 := Lib.hid a2
  have H3 := Lib.hid a3
  have hbl := lt_of_blk hb
  have hzl : (zs.map (·.1)).length ≤ 1000000 := by rw [a3] at hl; simpa using hl
  have HZ := Lib.hid hzl
  clear hb a1 a2 a3 hl hzl
  have c3' := ((Ext.refl [] w).alloc (.cells #[.int .i64 x] 3)).cell c3 (by simp)
  have hEb := (Ext.refl [] w).alloc (.cells #[.int .i64 x] 3)
  go_enter Tryz.func40, Tryz.ntmps40
  go_wp2_with fail
  refine (delf_c mv _ w.heap.size x _ (H1.out.ext0 hEb) HZ.out (by rw [cell_of_row _ _ 0 _ _ _ (heap_alloc_new w _)]; rfl) (fun g hg => by have := H1.out.lt g hg; omega)).mono ?_
  rintro e W1 ⟨v', rfl, how, hE1, hsub⟩
  have hE01 : Ext (blkL mv) w W1 := hEb.nil.trans hE1
  have hbn : ∀ y ∈ blkL mv, y ≠ b := H1.out.ne HB.out (by decide)
  have hb1 := hE01.blk HB.out (fun h => hbn b h rfl)
  have hfz : ∀ j, W1.frozen? ⟨b, j, none⟩ = false := fun j => frozen_of_row _ _ _ _ _ hb1
  have c31 := hE01.cell c3 (fun h => hbn b h rfl)
  have HB1 := Lib.hid hb1
  obtain ⟨p', c', rfl, _⟩ := how.rd.len_eq
  obtain ⟨n', hn'⟩ : ∃ n, n = ((zs.map (·.1)).filter (fun x_1 => !(x_1.1 == x))).length := ⟨_, rfl⟩
  rw [← hn'] at how hsub ⊢
  have HO := Lib.hid how
  clear hb1 how hn' c3 c3' hEb hE1
  go_wp2
  go_end0
  have hE2 : Ext [b] W1 (W1.setCell ⟨b, 3, none⟩ (.slice p' n' c')) := (Ext.refl [b] W1).setCell (.inl (by simp)) _
  have hb2 := heap_setCell_same W1 b 3 _ _ (.slice p' n' c') HB1.out
  refine ⟨rfl, _, ⟨hb2, ⟨zs.filter (fun z => !(z.1.1 == x)), ?_, ?_, ?_⟩, fun y hy => HLOW.out y (hsub y hy)⟩, (hE01.mono (fun y hy => .inl (by simp [hy]))).trans (hE2.mono (by simp)), hsub⟩
  · have h := HO.out
    rw [List.filter_map] at h
    exact h.ext hE2 (fun y hy => by simpa using h.ne HB1.out (by decide) y hy)
  · intro z hz
    have h := H2.out z (List.mem_filter.1 hz).1
    refine (h.ext hE01 (fun y hy hy2 => ?_)).ext hE2 (fun y hy => ?_)
    · obtain ⟨c, hc⟩ := h.tag y hy
      obtain ⟨c', hc'⟩ := H1.out.tag y hy2
      rw [hc] at hc'
      simp only [Option.some.injEq, Obj.cells.injEq] at hc'
      exact absurd hc'.2.1 (by decide)
    · simpa using h.ne HB.out (by decide) y hy
  · show dropA s.mem x = _
    rw [H3.out, dropA, List.filter_map]
    rfl

/-- the frame by types. -/
theorem StoRm.frame {w w' : World} {b a sp : Nat} {mv : Value} {s : Sto} (h : StoRm w b a sp mv s) (he : Ext (b :: blkL mv) w w') : ExtT [b] [87] w w' := by
  obtain ⟨_, ⟨zs, a1, _⟩, hlow⟩ := h
  refine ExtT.of he (fun y hy => ?_)
  rcases List.mem_cons.1 hy with h | h
  · exact .inl (by simp [h])
  · obtain ⟨c, hc⟩ := a1.tag y h
    exact .inr (.inl ⟨_, by simp, tagOf_of hc, b, by simp, hlow y h⟩)
theorem forget_c (b a sp : Nat) (s : Sto) (x : Int) (w : World) (h : StoR w b a sp s) (hl : s.mem.length ≤ 1000000) :
    Calls Tryz.prog 40 #[.pointer (some ⟨b, 0, none⟩), .int .i64 x] w fun e w' => e = .returned (.tuple #[]) ∧ StoR w' b a sp { s with mem := dropA s.mem x } ∧ ExtT [b] [87] w w' := by
  obtain ⟨mv, h⟩ := h
  refine (forget_m b a sp mv s x w h hl).mono ?_
  rintro e w' ⟨rfl, mv', h1, h2, _⟩
  exact ⟨rfl, ⟨mv', h1⟩, h.frame h2⟩
theorem StoRm.ext0 {w w' : World} {b a sp : Nat} {mv : Value} {s : Sto} (h : StoRm w b a sp mv s) (he : Ext [] w w') : StoRm w' b a sp mv s := ⟨he.blk h.1 (by simp), h.2.1.ext0 he, h.2.2⟩
theorem StoRm.lt {w : World} {b a sp : Nat} {mv : Value} {s : Sto} (h : StoRm w b a sp mv s) : b < w.heap.size ∧ ∀ y ∈ blkL mv, y < w.heap.size := by
  obtain ⟨a1, ⟨zs, a2, _⟩, _⟩ := h
  exact ⟨lt_of_blk a1, a2.lt⟩

end Go.Proofs.YtgfajlaibgbdoaaGreat

namespace Go.Proofs.YtgfajlaibgbdoaaGreat
open Go.RowKit

abbrev Mno := Int × List UInt8 × List UInt8
def hitB (a size : Int) (sum : List UInt8) (k : Mno) : Bool := k.1 == a && (k.2.1 == sum && ((k.2.2.length : Int) == size))

def kagg (x : Kno) : Value := .agg #[.int .i64 x.1, .string ⟨x.2.1.toArray⟩, .slice x.2.2.1 x.2.2.2.1 x.2.2.2.2]

def RecPost (m : List Mno) (a size : Int) (sum : List UInt8) (w : World) (e : Ending) (w' : World) : Prop :=
  Ext [] w w' ∧ ((m.find? (hitB a size sum) = none ∧ e = .returned (.tuple #[.agg #[.int .i64 0, .string ⟨#[]⟩, .slice none 0 0], .bool false])) ∨
    ∃ (x : Kno) (bs : List UInt8), m.find? (hitB a size sum) = some (x.1, x.2.1, bs) ∧ EB.Ow 5 w (.slice x.2.2.1 x.2.2.2.1 x.2.2.2.2) bs ∧ e = .returned (.tuple #[kagg x, .bool true]))

set_option maxRecDepth 100000 in
set_option maxHeartbeats 1000000 in
theorem recall_c (b a sp : Nat) (s : Sto) (pa size birth : Int) (sum : List UInt8) (w : World) (h : StoR w b a sp s) (hl : s.mem.length ≤ 1000000) :
    Calls Tryz.prog 33 #[.pointer (some ⟨b, 0, none⟩), .agg #[.int .i64 pa, .int .i64 size, .int .i64 birth, .string ⟨sum.toArray⟩]] w (RecPost s.mem pa size sum w) := by
  obtain ⟨mv, hb, ⟨zs, a1, a2, a3⟩, _⟩ := h
  obtain ⟨p, cap, rfl, _⟩ := a1.rd.len_eq
  have c3 : w.cell? ⟨b, 3, none⟩ = some (.slice p (zs.map (·.1)).length cap) := by rw [cell_of_row w b 3 _ _ _ hb]; rfl
  obtain ⟨n, hn⟩ : ∃ n, n = (zs.map (·.1)).length := ⟨_, rfl⟩
  have HN := Lib.hid hn
  have hl2 : n ≤ 1000000 := by rw [hn]; rw [a3] at hl; simpa using hl
  rw [← hn] at c3 a1
  have H1 := Lib.hid a1
  have H2 := Lib.hid a2
  have H3 := Lib.hid a3
  have hEa : Ext [] w ((w.alloc (.cells #[.int .i64 pa, .int .i64 size, .int .i64 birth, .string ⟨sum.toArray⟩] 37)).alloc (.cells #[.int .i64 0, .string ⟨#[]⟩, .slice none 0 0] 87)) := ((Ext.refl [] w).alloc _).alloc _
  have c31 := hEa.cell c3 (by simp)
  clear hb a1 a2 a3 hl hn c3
  go_enter Tryz.func33, Tryz.ntmps33
  go_wp2_with fail
  have hg3 := heap_alloc_new w (.cells #[.int .i64 pa, .int .i64 size, .int .i64 birth, .string ⟨sum.toArray⟩] 37)
  have hg4 := heap_alloc_new (w.alloc (.cells #[.int .i64 pa, .int .i64 size, .int .i64 birth, .string ⟨sum.toArray⟩] 37)) (.cells #[.int .i64 0, .string ⟨#[]⟩, .slice none 0 0] 87)
  have hg3' := ((Ext.refl [] (w.alloc (.cells #[.int .i64 pa, .int .i64 size, .int .i64 birth, .string ⟨sum.toArray⟩] 37))).alloc (.cells #[.int .i64 0, .string ⟨#[]⟩, .slice none 0 0] 87)).blk hg3 (by simp)
  have e4 : (w.alloc (.cells #[.int .i64 pa, .int .i64 size, .int .i64 birth, .string ⟨sum.toArray⟩] 37)).heap.size = w.heap.size + 1 := by simp
  rw [e4] at hg4
  clear e4
  revert hEa hg4 hg3'
  generalize World.alloc (World.alloc _ _) _ = W1
  intro hEa hg4 hg3'
  have l1 := lt_of_blk hg4
  obtain ⟨p3, hp3⟩ : ∃ p, p = w.heap.size := ⟨_, rfl⟩
  have HG3 := Lib.hid hg3'
  have HG4 := Lib.hid hg4
  rw [← hp3] at HG3 HG4 l1
  simp only [← hp3]
  have lp3 : w.heap.size ≤ p3 + 1 := by omega
  clear hg3 hg3' hg4 c31 hp3
  go_loopw [5, 7, 13] (fun _ _ iv wr => ∃ i : Nat, i ≤ n ∧ iv = .int .i64 i ∧ Ext [] W1 wr ∧ Hid ((zs.take i).find? (fun z => hitB pa size sum (z.1.1, z.1.2.1, z.2)) = none)) (fun _ _ iv _ => n - (intOf iv).toNat)
  case atStart => exact ⟨0, Nat.zero_le _, rfl, Ext.refl _ _, Lib.hid (by simp)⟩
  case round =>
    obtain ⟨i, hi, rfl, hE, HI⟩ := hrel
    by_cases hlt : i < n
    · have z1 : (i : Int) < (n : Int) := by omega
      obtain ⟨g, o, rfl⟩ : ∃ g o, p = some ⟨g, o, none⟩ := by
        rcases H1.out.rd with ⟨_, h⟩ | ⟨g, o, c, h, _⟩
        · have := HN.out; rw [h] at this; simp at this; omega
        · simp only [Value.slice.injEq] at h; exact ⟨g, o, h.1⟩
      have hE0 := hEa.trans hE
      have hil : i < zs.length := by have := HN.out; simp at this; omega
      obtain ⟨m1, m2, m3⟩ := EK_cells (H1.out.rd.ext0 hE0) i (by rw [← HN.out]; exact hlt)
      obtain ⟨z, hz⟩ : ∃ z, z = zs[i] := ⟨_, rfl⟩
      have hx : (zs.map (·.1)).getD i K0 = z.1 := by simp [List.getD, hil, hz]
      rw [hx] at m1 m2 m3
      have h2 := H2.out z (by rw [hz]; exact List.getElem_mem _)
      obtain ⟨pz, cz, ez, _⟩ := h2.rd.len_eq
      have HT := Lib.hid (List.take_succ_eq_append_getElem hil)
      have HZ := Lib.hid hz
      have HZ2 := Lib.hid h2
      clear hx h2 hz
      obtain ⟨⟨za, zsum, zp, zn, zc⟩, zb⟩ := z
      simp only [Value.slice.injEq] at ez m1 m2 m3
      obtain ⟨rfl, rfl, rfl⟩ := ez
      have q0 := hE.cell (show W1.cell? ⟨p3, 0, none⟩ = some (.int .i64 pa) by rw [cell_of_row W1 p3 0 _ _ _ HG3.out]; rfl) (by simp)
      have q1 := hE.cell (show W1.cell? ⟨p3, 1, none⟩ = some (.int .i64 size) by rw [cell_of_row W1 p3 1 _ _ _ HG3.out]; rfl) (by simp)
      have q3 := hE.cell (show W1.cell? ⟨p3, 3, none⟩ = some (.string ⟨sum.toArray⟩) by rw [cell_of_row W1 p3 3 _ _ _ HG3.out]; rfl) (by simp)
      have hEb := (Ext.refl [] wr).alloc (.cells #[.int .i64 za, .string ⟨zsum.toArray⟩, .slice zp zb.length zc] 87)
      have q01 := hEb.cell q0 (by simp)
      have q11 := hEb.cell q1 (by simp)
      have q31 := hEb.cell q3 (by simp)
      clear q0 q1 q3
      have HL4 := Lib.hid (hE.blk HG4.out (by simp))
      have hstep : hitB pa size sum (za, zsum, zb) = false → Hid ((zs.take (i + 1)).find? (fun z => hitB pa size sum (z.1.1, z.1.2.1, z.2)) = none) := fun h => by
        refine Lib.hid ?_
        rw [HT.out, List.find?_append, HI.out, ← HZ.out]
        simp [h]
      have HST := Lib.hid hstep
      have hEE := hE.alloc (.cells #[.int .i64 za, .string ⟨zsum.toArray⟩, .slice zp zb.length zc] 87)
      clear hstep hEb hE hE0
      by_cases h1 : za = pa
      · have hb1 : (za == pa) = true := by simp [h1]
        have Hh1 := Lib.hid h1
        clear h1
        by_cases h2 : zsum = sum
        · subst h2
          by_cases h3 : (zb.length : Int) = size
          · have hb3 : ((zb.length : Int) == size) = true := by simp [h3]
            have Hh3 := Lib.hid h3
            clear h3
            have hnb : ¬ (p3 + 1 = wr.heap.size) := by have := lt_of_blk HL4.out; omega
            have hE4 := (Ext.refl [] wr).alloc (.cells #[.int .i64 za, .string ⟨zsum.toArray⟩, .slice zp zb.length zc] 87)
            have hb4 := hE4.blk HL4.out (by simp)
            have hfz : ∀ j, (wr.alloc (.cells #[.int .i64 za, .string ⟨zsum.toArray⟩, .slice zp zb.length zc] 87)).frozen? ⟨p3 + 1, j, none⟩ = false := fun j => frozen_of_row _ _ _ _ _ hb4
            have v0 : (wr.alloc (.cells #[.int .i64 za, .string ⟨zsum.toArray⟩, .slice zp zb.length zc] 87)).cell? ⟨p3 + 1, 0, none⟩ = some (.int .i64 0) := by rw [cell_of_row _ _ 0 _ _ _ hb4]; rfl
            have v1 : (wr.alloc (.cells #[.int .i64 za, .string ⟨zsum.toArray⟩, .slice zp zb.length zc] 87)).cell? ⟨p3 + 1, 1, none⟩ = some (.string ⟨#[]⟩) := by rw [cell_of_row _ _ 1 _ _ _ hb4]; rfl
            have v2 : (wr.alloc (.cells #[.int .i64 za, .string ⟨zsum.toArray⟩, .slice zp zb.length zc] 87)).cell? ⟨p3 + 1, 2, none⟩ = some (.slice none 0 0) := by rw [cell_of_row _ _ 2 _ _ _ hb4]; rfl
            have HB4 := Lib.hid hb4
            have HE4 := Lib.hid hE4
            have h0 := hEa.trans hEE
            have HE0 := Lib.hid h0
            clear hE4 hb4 h0
            go_wp2_with fail
            have hs := rowK_set (L := [K0]) HB4.out 0 (by decide) (za, zsum, zp, zb.length, zc)
            simp only [Nat.zero_mul, Nat.zero_add] at hs
            have hE9 := ((HE0.out.setCell (p := ⟨p3 + 1, 0, none⟩) (.inr lp3) (.int .i64 za)).setCell (p := ⟨p3 + 1, 1, none⟩) (.inr lp3) (.string ⟨zsum.toArray⟩)).setCell (p := ⟨p3 + 1, 2, none⟩) (.inr lp3) (.slice zp zb.length zc)
            have r0 := cell_of_row _ _ 0 _ _ _ hs
            have r1 := cell_of_row _ _ 1 _ _ _ hs
            have r2 := cell_of_row _ _ 2 _ _ _ hs
            simp only [EK, Enc.flat] at r0 r1 r2
            refine bodyPost_ret (v := .tuple #[kagg (za, zsum, zp, zb.length, zc), .bool true]) (by simp [results, Tryz.results33, go_sem, r0, r1, r2, kagg]) rfl ?_
            refine ⟨hE9, .inr ⟨(za, zsum, zp, zb.length, zc), zb, ?_, HZ2.out, rfl⟩⟩
            have h6 : zs.find? (fun z => hitB pa size zsum (z.1.1, z.1.2.1, z.2)) = some ((za, zsum, zp, zb.length, zc), zb) := by
              refine List.find?_eq_some_iff_append.2 ⟨?_, zs.take i, zs.drop (i + 1), ?_, fun a ha => ?_⟩
              · simp [hitB, Hh1.out, Hh3.out]
              · rw [HZ.out, ← List.drop_eq_getElem_cons hil, List.take_append_drop]
              · have h := List.find?_eq_none.1 HI.out a ha
                simpa using h
            rw [H3.out, List.find?_map]
            have h5 : (hitB pa size zsum ∘ fun z : Kno × List UInt8 => (z.1.1, z.1.2.1, z.2)) = fun z => hitB pa size zsum (z.1.1, z.1.2.1, z.2) := rfl
            rw [h5, h6]
            rfl
          · have hb3 : ((zb.length : Int) == size) = false := by simpa using h3
            have HM := HST.out (by simp [hitB, hb1, hb3])
            clear h3
            go_wp2_with fail
            go_roundw
            case rel => exact ⟨i + 1, by omega, by go_num, hEE, HM⟩
            case measure => simp [intOf]; omega
        · have HM := HST.out (by simp [hitB, h2])
          go_wp2_with fail
          go_roundw
          case rel => exact ⟨i + 1, by omega, by go_num, hEE, HM⟩
          case measure => simp [intOf]; omega
      · have hb1 : (za == pa) = false := by simpa using h1
        have HM := HST.out (by simp [hitB, hb1])
        clear h1
        go_wp2_with fail
        go_roundw
        case rel => exact ⟨i + 1, by omega, by go_num, hEE, HM⟩
        case measure => simp [intOf]; omega
    · obtain rfl : i = n := by omega
      have z1 : ¬ ((i : Int) < (i : Int)) := by omega
      have hb4 := hE.blk HG4.out (by simp)
      have hfz : ∀ j, wr.frozen? ⟨p3 + 1, j, none⟩ = false := fun j => frozen_of_row _ _ _ _ _ hb4
      have v0 : wr.cell? ⟨p3 + 1, 0, none⟩ = some (.int .i64 0) := by rw [cell_of_row _ _ 0 _ _ _ hb4]; rfl
      have v1 : wr.cell? ⟨p3 + 1, 1, none⟩ = some (.string ⟨#[]⟩) := by rw [cell_of_row _ _ 1 _ _ _ hb4]; rfl
      have v2 : wr.cell? ⟨p3 + 1, 2, none⟩ = some (.slice none 0 0) := by rw [cell_of_row _ _ 2 _ _ _ hb4]; rfl
      have HB4 := Lib.hid hb4
      clear hb4
      have h0 := hEa.trans hE
      have HE0 := Lib.hid h0
      clear h0
      go_wp2
      have hs := rowK_set (L := [K0]) HB4.out 0 (by decide) K0
      simp only [Nat.zero_mul, Nat.zero_add] at hs
      have hE9 := ((HE0.out.setCell (p := ⟨p3 + 1, 0, none⟩) (.inr lp3) (.int .i64 0)).setCell (p := ⟨p3 + 1, 1, none⟩) (.inr lp3) (.string ⟨#[]⟩)).setCell (p := ⟨p3 + 1, 2, none⟩) (.inr lp3) (.slice none 0 0)
      have r0 := cell_of_row _ _ 0 _ _ _ hs
      have r1 := cell_of_row _ _ 1 _ _ _ hs
      have r2 := cell_of_row _ _ 2 _ _ _ hs
      simp only [EK, Enc.flat] at r0 r1 r2
      refine bodyPost_ret (v := .tuple #[.agg #[.int .i64 0, .string ⟨#[]⟩, .slice none 0 0], .bool false]) (by simp [results, Tryz.results33, go_sem, r0, r1, r2]) rfl ?_
      refine ⟨hE9, .inl ⟨?_, rfl⟩⟩
      have h := HI.out
      rw [List.take_of_length_le (by have := HN.out; simp at this; omega)] at h
      rw [H3.out, List.find?_map]
      have h5 : (hitB pa size sum ∘ fun z : Kno × List UInt8 => (z.1.1, z.1.2.1, z.2)) = fun z => hitB pa size sum (z.1.1, z.1.2.1, z.2) := rfl
      rw [h5, h]
      rfl

end Go.Proofs.YtgfajlaibgbdoaaGreat

namespace Go.Proofs.YtgfajlaibgbdoaaGreat
open Go.RowKit

set_option maxRecDepth 100000 in
set_option maxHeartbeats 1000000 in
theorem delk_c (g q cap : Nat) (l xs : List Kno) (w : World) (hg : w.heap[g]? = some (.cells (EK.flat l).toArray 87 (0, 0))) (hcap : xs.length ≤ cap) (hq : q + cap ≤ l.length) (hxs : (l.drop q).take xs.length = xs) (h2 : 2 ≤ xs.length) (hl : xs.length ≤ 1000000) :
    Calls Tryz.prog 58 #[.slice (some ⟨g, q * 3, none⟩) xs.length cap, .int .i64 0, .int .i64 1] w fun e w' => ∃ v', e = .returned v' ∧ EK.Ow 87 w' v' (xs.drop 1) ∧ Ext [g] w w' ∧ ∀ x ∈ blkL v', x = g := by
  have HG := Lib.hid hg
  have HX := Lib.hid hxs
  have ekk : (xs.drop 1).length = xs.length - 1 := by simp
  obtain ⟨n, hn⟩ : ∃ n, n = xs.length := ⟨_, rfl⟩
  have HN := Lib.hid hn
  rw [← hn] at hcap h2 hl ekk ⊢
  clear hg hxs hn
  have z0 : ¬ cap = 1 := by omega
  have z1 : ¬ cap = 0 := by omega
  have z2 : (1 : Int) ≤ (n : Int) := by omega
  have z3 : (1 : Int) ≤ (cap : Int) := by omega
  have z4 : (0 : Int) ≤ (cap : Int) := by omega
  have z5 : 1 ≤ n := by omega
  have z6 : 1 ≤ cap := by omega
  have hL1 : (splice l (q + 0) (xs.drop 1)).length = l.length := length_splice _ _ _ (by omega)
  have hsrc : ∀ W : World, W.heap[g]? = some (.cells (EK.flat l).toArray 87 (0, 0)) → EK.Rd W (.slice (some ⟨g, q * 3 + 3, none⟩) (n - 1) (cap - 1)) (xs.drop 1) := by
    intro W hW
    refine .inr ⟨g, _, cap - 1, by rw [ekk], by rw [ekk]; omega, lt_of_blk hW, fun j u hj => ?_⟩
    rw [cell_of_row W g _ _ _ _ hW]
    have hj2 : j < (n - 1) * 3 := by have := (List.getElem?_eq_some_iff.1 hj).1; rw [EK.length_flat, ekk] at this; exact this
    have e : EK.flat (xs.drop 1) = (EK.flat xs).drop 3 := EK.flat_drop xs 1
    have e2 : EK.flat xs = ((EK.flat l).drop (q * 3)).take (n * 3) := by
      have h := congrArg EK.flat HX.out
      rw [EK.flat_take, EK.flat_drop, ← HN.out] at h
      exact h.symm
    rw [e, e2, List.getElem?_drop, List.getElem?_take, if_pos (by omega), List.getElem?_drop] at hj
    rw [← hj]
    simp only [List.getElem?_toArray]
    congr 1; omega
  have HSRC := Lib.hid hsrc
  clear hsrc
  have e3 : EK.k = 3 := rfl
  go_enter Tryz.func58, Tryz.ntmps58
  go_wp2_with fail
  go_region_law ((try simp only [Act.put, List.getElem_toArray, List.getElem_cons_zero, List.getElem_cons_succ, List.setIfInBounds_toArray, List.set_cons_zero, List.set_cons_succ]); rw [if_pos (show Region.wanted _ _ = true from rfl)]; refine (opw_append_fit (s := .tmp 22) (x := .tmp 25) (E := EK) (T := 87) (zero := K0) (bytes := 48) (g := g) (q := q) (n := 0) (l := l) (ys := xs.drop 1) tiK Tryz.underlying72 Tryz.underlying72 (by rfl) (by rfl) (by rfl) (by exact HG.out) (by exact HSRC.out _ HG.out) (by rw [ekk]; omega) hq ?_); intro w2 hb2 hext2)
  have hE2 : Ext [g] w w2 := (Ext.refl [g] w).drew.trans hext2
  have HB2 := Lib.hid hb2
  clear hb2 hext2
  have ek2 : xs.length - 1 = n - 1 := by rw [← HN.out]
  simp only [ek2]
  go_wp2_with (with_reducible refine hold_clear ?_)
  refine wpl_of rfl fun K hK => opw_clear (E := EK) (T := 87) (zero := K0) (bytes := 48) (g := g) (q := q + (n - 1)) tiK Tryz.underlying72 rfl rfl HB2.out ?_ (by rw [hL1]; omega) ?_
  · intro hpos
    simp [Nat.add_mul, e3]
  intro w3 hb3 hext3
  have hE : Ext [g] w w3 := hE2.trans hext3
  have HB3 := Lib.hid hb3
  clear hb3 hext3
  refine hK _ _ ?_
  clear hK
  go_wp2
  go_ret
  refine ⟨_, rfl, .inr ⟨g, q, cap, _, by rw [ekk]; rfl, HB3.out, by rw [ekk]; omega, by rw [length_splice _ _ _ (by rw [hL1]; simp; omega), hL1]; exact hq, ?_⟩, hE, fun x hx => by simpa [blkL] using hx⟩
  rw [ekk]
  show win _ _ _ = _
  apply List.ext_getElem?
  intro k
  have hx := congrArg (fun (z : List Kno) => z[1 + k]?) HX.out
  simp only [List.getElem?_take, List.getElem?_drop] at hx
  rw [← HN.out] at hx
  rw [get_win, get_splice _ _ _ _ (by rw [hL1]; omega), get_splice _ _ _ _ (by omega), List.getElem?_drop]
  rw [ekk]
  by_cases hk : k < n - 1
  · rw [if_pos hk, if_pos (by omega), if_neg (by omega), if_pos (by omega), List.getElem?_drop]
    congr 1; omega
  · rw [if_neg hk, List.getElem?_eq_none (by rw [ekk]; omega)]

def remL (m : List Mno) (k : Mno) : List Mno := (dropA m k.1 ++ [k]).drop ((dropA m k.1 ++ [k]).length - 64)
theorem remL_big (m : List Mno) (k : Mno) (h : m.length ≤ 64) : remL m k = if 64 < (dropA m k.1 ++ [k]).length then (dropA m k.1 ++ [k]).drop 1 else dropA m k.1 ++ [k] := by
  have h1 : (dropA m k.1).length ≤ m.length := List.length_filter_le _ _
  rw [remL]
  by_cases h2 : 64 < (dropA m k.1 ++ [k]).length
  · rw [if_pos h2]
    simp only [List.length_append, List.length_singleton] at h2 ⊢
    rw [show (dropA m k.1).length + 1 - 64 = 1 by omega]
  · rw [if_neg h2, show (dropA m k.1 ++ [k]).length - 64 = 0 by omega]
    rfl
theorem remL_len (m : List Mno) (k : Mno) : (remL m k).length ≤ 64 := by rw [remL, List.length_drop]; omega

theorem one_rdK {T : TypeId} (W0 : World) (x : Kno) : EK.Rd (W0.alloc (.cells #[.int .i64 x.1, .string ⟨x.2.1.toArray⟩, .slice x.2.2.1 x.2.2.2.1 x.2.2.2.2] T)) (.slice (some ⟨W0.heap.size, 0, none⟩) 1 1) [x] := by
  refine .inr ⟨W0.heap.size, 0, 1, rfl, Nat.le_refl _, by simp, fun j u hj => ?_⟩
  rw [cell_of_row _ W0.heap.size _ _ _ _ (heap_alloc_new _ _)]
  match j, hj with
  | 0, hj => exact hj
  | 1, hj => exact hj
  | 2, hj => exact hj
  | j + 3, hj => simp [EK, Enc.flat] at hj

set_option maxRecDepth 100000 in
set_option maxHeartbeats 1600000 in
theorem remember_m (b a sp : Nat) (mv : Value) (s : Sto) (x : Kno) (bs : List UInt8) (w : World) (h : StoRm w b a sp mv s) (hl : s.mem.length ≤ 64) (hx : EB.Ow 5 w (.slice x.2.2.1 x.2.2.2.1 x.2.2.2.2) bs) :
    Calls Tryz.prog 30 #[.pointer (some ⟨b, 0, none⟩), kagg x] w fun e w' => e = .returned (.tuple #[]) ∧ ∃ mv', StoRm w' b a sp mv' { s with mem := remL s.mem (x.1, x.2.1, bs) } ∧ Ext (b :: blkL mv) w w' ∧ ∀ y ∈ blkL mv', y ∈ blkL mv ∨ w.heap.size ≤ y := by
  have HX := Lib.hid hx
  have hEb := (Ext.refl [] w).alloc (.cells #[.int .i64 x.1, .string ⟨x.2.1.toArray⟩, .slice x.2.2.1 x.2.2.2.1 x.2.2.2.2] 87)
  have hf := forget_m b a sp mv s x.1 _ (h.ext0 hEb) (by omega)
  have HF := Lib.hid hf
  obtain ⟨hbl, hml⟩ := h.lt
  have hbx := heap_alloc_new w (.cells #[.int .i64 x.1, .string ⟨x.2.1.toArray⟩, .slice x.2.2.1 x.2.2.2.1 x.2.2.2.2] 87)
  have HH := Lib.hid h
  have HML := Lib.hid hml
  clear h hx hf hml
  rw [kagg]
  go_enter Tryz.func30, Tryz.ntmps30
  go_wp2_with fail
  refine HF.out.mono ?_
  rintro e W1 ⟨rfl, mv1, hs1, hE1, hsub⟩
  have hx1 := hE1.blk hbx (fun h => by
    rcases List.mem_cons.1 h with h | h
    · omega
    · have := HML.out _ h; omega)
  have hE01 : Ext (b :: blkL mv) w W1 := hEb.nil.trans hE1
  obtain ⟨hb1, ⟨zs, a1, a2, a3⟩, hlow⟩ := hs1
  clear hlow
  obtain ⟨p1, c1, rfl, _⟩ := a1.rd.len_eq
  obtain ⟨n1, hn1⟩ : ∃ n, n = (zs.map (·.1)).length := ⟨_, rfl⟩
  have hn64 : n1 ≤ 64 := by
    have h1 : (dropA s.mem x.1).length ≤ s.mem.length := List.length_filter_le _ _
    have h2 := congrArg List.length a3
    simp at h2 hn1
    omega
  have HN := Lib.hid hn1
  rw [← hn1] at hb1 a1 hsub
  have HB1 := Lib.hid hb1
  have H1 := Lib.hid a1
  have H2 := Lib.hid a2
  have H3 := Lib.hid a3
  have HXB := Lib.hid hx1
  have HE01 := Lib.hid hE01
  have HSUB := Lib.hid hsub
  have k3 : W1.cell? ⟨b, 3, none⟩ = some (.slice p1 n1 c1) := by rw [cell_of_row W1 b 3 _ _ _ hb1]; rfl
  obtain ⟨bx, hbxe⟩ : ∃ y, y = w.heap.size := ⟨_, rfl⟩
  rw [← hbxe] at HXB
  simp only [← hbxe]
  have j0 : W1.cell? ⟨bx, 0, none⟩ = some (.int .i64 x.1) := by rw [cell_of_row W1 bx 0 _ _ _ HXB.out]; rfl
  have j1 : W1.cell? ⟨bx, 1, none⟩ = some (.string ⟨x.2.1.toArray⟩) := by rw [cell_of_row W1 bx 1 _ _ _ HXB.out]; rfl
  have j2 : W1.cell? ⟨bx, 2, none⟩ = some (.slice x.2.2.1 x.2.2.2.1 x.2.2.2.2) := by rw [cell_of_row W1 bx 2 _ _ _ HXB.out]; rfl
  clear hb1 a1 a2 a3 hx1 hE01 hE1 hsub hbx hEb hn1 hbxe
  go_wp2_with fail
  have hD := (Ext.refl [] W1).drew
  refine wp_region_u (fun W => W.cell? ⟨b, 3, none⟩ = some (.slice p1 n1 c1) ∧ W.cell? ⟨bx, 0, none⟩ = some (.int .i64 x.1) ∧ W.cell? ⟨bx, 1, none⟩ = some (.string ⟨x.2.1.toArray⟩) ∧ W.cell? ⟨bx, 2, none⟩ = some (.slice x.2.2.1 x.2.2.2.1 x.2.2.2.2)) (fun i => decide (i < 7) && !(i == 0)) (by kernel_rfl) ⟨hD.cell k3 (by simp), hD.cell j0 (by simp), hD.cell j1 (by simp), hD.cell j2 (by simp)⟩ (fun hS => ?_)
  (refine wpAnyU_pure (i := 0) rfl (by kernel_rfl) (by kernel_rfl) (by kernel_rfl) (by rfl) (by exact fun _ _ _ h => h) (Or.inl ⟨by rfl, fun W => by (go_simp; try rfl)⟩) ?_); (try go_frame)
  (refine wpAnyU_take (i := 1) rfl (by kernel_rfl) (by kernel_rfl) (by kernel_rfl) (by kernel_rfl) (by exact fun _ _ _ h => h) (by assumption) (Or.inl ⟨by rfl, fun W hW => by (have hWW := hW; clear hW; go_split_ands; go_simp; try rfl)⟩) ?_); (try go_frame)
  (refine wpAnyU_take (i := 2) rfl (by kernel_rfl) (by kernel_rfl) (by kernel_rfl) (by kernel_rfl) (by exact fun _ _ _ h => h) (by assumption) (Or.inl ⟨by rfl, fun W hW => by (have hWW := hW; clear hW; go_split_ands; go_simp; try rfl)⟩) ?_); (try go_frame)
  (refine wpAnyU_take (i := 3) rfl (by kernel_rfl) (by kernel_rfl) (by kernel_rfl) (by kernel_rfl) (by exact fun _ _ _ h => h) (by assumption) (Or.inl ⟨by rfl, fun W hW => by (have hWW := hW; clear hW; go_split_ands; go_simp; try rfl)⟩) ?_); (try go_frame)
  (refine wpAnyU_take (i := 4) rfl (by kernel_rfl) (by kernel_rfl) (by kernel_rfl) (by kernel_rfl) (by exact fun _ _ _ h => h) (by assumption) (Or.inl ⟨by rfl, fun W hW => by (have hWW := hW; clear hW; go_split_ands; go_simp; try rfl)⟩) ?_); (try go_frame)
  (refine wpAnyU_take (i := 5) rfl (by kernel_rfl) (by kernel_rfl) (by kernel_rfl) (by kernel_rfl) (by exact fun _ _ _ h => h) (by assumption) (Or.inl ⟨by rfl, fun W hW => by (have hWW := hW; clear hW; go_split_ands; go_simp; try rfl)⟩) ?_); (try go_frame)
  refine wpAnyU_one (i := 6) (by kernel_rfl) rfl (fun K hK => ?_)
  (try simp only [Act.put, List.getElem_toArray, List.getElem_cons_zero, List.getElem_cons_succ, List.setIfInBounds_toArray, List.set_cons_zero, List.set_cons_succ]); rw [if_pos (show Region.wanted _ _ = true from rfl)]
  go_simp
  have hEa : Ext [] W1 ((W1.alloc (.cells #[.int .i64 x.1, .string ⟨x.2.1.toArray⟩, .slice x.2.2.1 x.2.2.2.1 x.2.2.2.2] 87)).drew) := ((Ext.refl [] W1).alloc _).drew
  have hrd6 := (one_rdK (T := 87) W1 x).ext0 (Ext.refl [] _).drew
  have HR6 := Lib.hid hrd6
  have HEA := Lib.hid hEa
  have hxb : EB.Ow 5 ((W1.alloc (.cells #[.int .i64 x.1, .string ⟨x.2.1.toArray⟩, .slice x.2.2.1 x.2.2.2.1 x.2.2.2.2] 87)).drew) (.slice x.2.2.1 x.2.2.2.1 x.2.2.2.2) bs := by
    refine (HX.out.ext HE01.out (fun y hy hy2 => ?_)).ext0 hEa
    obtain ⟨c, hc⟩ := HX.out.tag y hy
    rcases List.mem_cons.1 hy2 with h | h
    · subst h
      rw [HH.out.1] at hc
      simp only [Option.some.injEq, Obj.cells.injEq] at hc
      exact absurd hc.2.1 (by decide)
    · obtain ⟨_, ⟨zs', b2, _⟩, _⟩ := HH.out
      obtain ⟨c', hc'⟩ := b2.tag y h
      rw [hc] at hc'
      simp only [Option.some.injEq, Obj.cells.injEq] at hc'
      exact absurd hc'.2.1 (by decide)
  have hbE := hEa.blk HB1.out (by simp)
  have HXE := Lib.hid hxb
  have HBE := Lib.hid hbE
  have h1E := H1.out.ext0 hEa
  have h2E : ∀ z ∈ zs, EB.Ow 5 ((W1.alloc (.cells #[.int .i64 x.1, .string ⟨x.2.1.toArray⟩, .slice x.2.2.1 x.2.2.2.1 x.2.2.2.2] 87)).drew) (.slice z.1.2.2.1 z.1.2.2.2.1 z.1.2.2.2.2) z.2 := fun z hz => (H2.out z hz).ext0 hEa
  have H1E := Lib.hid h1E
  have H2E := Lib.hid h2E
  refine hK _ _ (fun _ => ⟨hEa.cell k3 (by simp), hEa.cell j0 (by simp), hEa.cell j1 (by simp), hEa.cell j2 (by simp)⟩) (fun _ => ?_)
  clear hK hEa hrd6 hxb hbE h1E h2E k3 j0 j1 j2 hD hS
  revert HR6 HEA HXE HBE H1E H2E
  generalize World.drew (World.alloc _ _) = W6
  intro HR6 HEA HXE HBE H1E H2E
  refine wpAnyU_one (i := 7) (by kernel_rfl) rfl (fun K hK => ?_)
  (try simp only [Act.put, List.getElem_toArray, List.getElem_cons_zero, List.getElem_cons_succ, List.setIfInBounds_toArray, List.set_cons_zero, List.set_cons_succ]); rw [if_pos (show Region.wanted _ _ = true from rfl)]
  refine opw_append (s := .tmp 12) (x := .tmp 14) (E := EK) (T := 87) (zero := K0) (bytes := 48) (v := .slice p1 n1 c1) (xs := zs.map (·.1)) (ys := [x]) tiK Tryz.underlying72 Tryz.underlying72 rfl rfl rfl H1E.out HR6.out (by rw [← HN.out]; simp; omega) (by rw [← HN.out]; simp; omega) ?_
  intro v7 W7 how7 hE7 hnear7 _
  have hbn : ∀ y ∈ blkL (.slice p1 n1 c1), y ≠ b := H1E.out.ne HBE.out (by decide)
  have hsz := HE01.out.size
  have hsz2 := HEA.out.size
  have hb7 := hE7.blk HBE.out (fun h => hbn b h rfl)
  have hfz : ∀ j, W7.frozen? ⟨b, j, none⟩ = false := fun j => frozen_of_row _ _ _ _ _ hb7
  have hx7 : EB.Ow 5 W7 (.slice x.2.2.1 x.2.2.2.1 x.2.2.2.2) bs := HXE.out.ext hE7 (fun y hy hy2 => by
    obtain ⟨c, hc⟩ := HXE.out.tag y hy
    obtain ⟨c', hc'⟩ := H1E.out.tag y hy2
    rw [hc] at hc'
    simp only [Option.some.injEq, Obj.cells.injEq] at hc'
    exact absurd hc'.2.1 (by decide))
  have h27 : ∀ z ∈ zs, EB.Ow 5 W7 (.slice z.1.2.2.1 z.1.2.2.2.1 z.1.2.2.2.2) z.2 := fun z hz => (H2E.out z hz).ext hE7 (fun y hy hy2 => by
    obtain ⟨c, hc⟩ := (H2E.out z hz).tag y hy
    obtain ⟨c', hc'⟩ := H1E.out.tag y hy2
    rw [hc] at hc'
    simp only [Option.some.injEq, Obj.cells.injEq] at hc'
    exact absurd hc'.2.1 (by decide))
  have hE07 : Ext (b :: blkL mv) w W7 := (HE01.out.andThen HEA.out).trans (hE7.mono (fun y hy => .inl (by simp [HSUB.out y hy])))
  have hn7 : ∀ y ∈ blkL v7, y ∈ blkL mv ∨ w.heap.size ≤ y := fun y hy => by
    rcases hnear7 y hy with h | h
    · exact .inl (HSUB.out y h)
    · exact .inr (by omega)
  obtain ⟨p7, c7, rfl, hc7⟩ := how7.rd.len_eq
  obtain ⟨n7, hn7e⟩ : ∃ n, n = (zs.map (·.1) ++ [x]).length := ⟨_, rfl⟩
  have hn71 : n7 ≤ 65 := by rw [hn7e]; simp at HN hn7e ⊢; have := HN.out; omega
  have s7 : W7.cell? ⟨b, 3, none⟩ = some (.slice p1 n1 c1) := by rw [cell_of_row W7 b 3 _ _ _ hb7]; rfl
  rw [← hn7e] at how7 hn7 hc7 ⊢
  have HN7 := Lib.hid hn7e
  have HB7 := Lib.hid hb7
  have HX7 := Lib.hid hx7
  have H27 := Lib.hid h27
  have HO7 := Lib.hid how7
  have HE07 := Lib.hid hE07
  have HNW := Lib.hid hn7
  have HNE := Lib.hid (how7.ne hb7 (by decide))
  refine hK _ _ (fun h => by cases h) (fun _ => ?_)
  clear hK hb7 hx7 h27 how7 hE07 hn7 hE7 hnear7 hbn hn7e
  (refine wpAnyU_pure (i := 8) rfl (by kernel_rfl) (by kernel_rfl) (by kernel_rfl) (by rfl) (by exact fun _ _ _ h => h) (Or.inl ⟨by rfl, fun W => by (go_simp; try rfl)⟩) ?_); (try go_frame)
  (simp only [List.getElem_toArray, List.getElem_cons_zero, List.getElem_cons_succ, List.set_cons_zero, List.set_cons_succ])
  (refine wpAnyU_pure (i := 9) rfl (by kernel_rfl) (by kernel_rfl) (by kernel_rfl) (by rfl) (by exact fun _ _ _ h => h) (Or.inl ⟨by rfl, fun W => by (go_simp; try rfl)⟩) ?_); (try go_frame)
  (simp only [List.getElem_toArray, List.getElem_cons_zero, List.getElem_cons_succ, List.set_cons_zero, List.set_cons_succ])
  refine wpAnyU_one (i := 10) (by kernel_rfl) rfl (fun K hK => ?_)
  rw [if_pos (show Region.wanted _ _ = true from rfl)]
  go_simp
  refine hK _ _ (fun h => by cases h) (fun _ => ?_)
  refine wpAnyU_done (by kernel_rfl) ?_ _
  clear hK hfz s7
  have hE8 : Ext [b] W7 (W7.setCell ⟨b, 3, none⟩ (.slice p7 n7 c7)) := (Ext.refl [b] W7).setCell (.inl (by simp)) _
  have hb8 := heap_setCell_same W7 b 3 _ _ (.slice p7 n7 c7) HB7.out
  have hE08 := HE07.out.trans (hE8.mono (by simp))
  have ho8 := HO7.out.ext hE8 (fun y hy => by simpa using HNE.out y hy)
  have hx8 := HX7.out.ext hE8 (fun y hy => by simpa using HX7.out.ne HB7.out (by decide) y hy)
  have h28 : ∀ z ∈ zs, EB.Ow 5 (W7.setCell ⟨b, 3, none⟩ (.slice p7 n7 c7)) (.slice z.1.2.2.1 z.1.2.2.2.1 z.1.2.2.2.2) z.2 := fun z hz => (H27.out z hz).ext hE8 (fun y hy => by simpa using (H27.out z hz).ne HB7.out (by decide) y hy)
  have HE08 := Lib.hid hE08
  have HB8 := Lib.hid hb8
  have HO8 := Lib.hid ho8
  have HX8 := Lib.hid hx8
  have H28 := Lib.hid h28
  clear hE8 hb8 hE08 ho8 hx8 h28
  revert HE08 HB8 HO8 HX8 H28
  generalize World.setCell _ _ _ = W8
  intro HE08 HB8 HO8 HX8 H28
  have k3 : W8.cell? ⟨b, 3, none⟩ = some (.slice p7 n7 c7) := by rw [cell_of_row W8 b 3 _ _ _ HB8.out]; rfl
  have hmem : (zs ++ [(x, bs)]).map (fun z => (z.1.1, z.1.2.1, z.2)) = dropA s.mem x.1 ++ [(x.1, x.2.1, bs)] := by
    have h : dropA s.mem x.1 = _ := H3.out
    rw [List.map_append, h]
    rfl
  have HM := Lib.hid hmem
  have hml : n7 = (dropA s.mem x.1 ++ [(x.1, x.2.1, bs)]).length := by rw [← hmem, HN7.out]; simp
  have HML2 := Lib.hid hml
  have hrl := remL_big s.mem (x.1, x.2.1, bs) hl
  rw [← hml] at hrl
  have HRL := Lib.hid hrl
  have hall : ∀ z ∈ zs ++ [(x, bs)], EB.Ow 5 W8 (.slice z.1.2.2.1 z.1.2.2.2.1 z.1.2.2.2.2) z.2 := fun z hz => by
    rcases List.mem_append.1 hz with h | h
    · exact H28.out z h
    · simp at h; subst h; exact HX8.out
  have HALL := Lib.hid hall
  have hzz : zs.map (·.1) ++ [x] = (zs ++ [(x, bs)]).map (·.1) := by simp
  rw [hzz] at HO8
  clear hmem hml hrl hall hzz
  by_cases hbig : 64 < n7
  · have z1 : (64 : Int) < (n7 : Int) := by omega
    have hlen : ((zs ++ [(x, bs)]).map (·.1)).length = n7 := by rw [HN7.out]; simp
    rcases HO8.out with ⟨h, _⟩ | ⟨g, i, cap, L, h, hg, h1, h2, h3⟩
    · simp only [Value.slice.injEq] at h; omega
    rw [hlen] at h h1 h3
    simp only [Value.slice.injEq, true_and] at h
    obtain ⟨rfl, rfl⟩ := h
    have hdk := fun W (hW : W.heap[g]? = some (.cells (EK.flat L).toArray 87 (0, 0))) => delk_c g i c7 L ((zs ++ [(x, bs)]).map (·.1)) W hW (by rw [hlen]; exact h1) h2 (by rw [hlen]; exact h3) (by rw [hlen]; omega) (by rw [hlen]; omega)
    rw [hlen] at hdk
    have HDK := Lib.hid hdk
    have HG := Lib.hid hg
    clear hdk hg h1 h2 h3 hlen
    have e3 : EK.k = 3 := rfl
    rw [e3] at k3 HO8 HNW ⊢
    clear e3
    go_wp2_with fail
    refine (HDK.out _ HG.out).mono ?_
    rintro e W9 ⟨v9, rfl, how9, hE9, hs9⟩
    have hgt : g ≠ b := HNE.out g (by simp [blkL])
    have hb9 := hE9.blk HB8.out (by simpa using fun h => hgt h.symm)
    have hfz : ∀ j, W9.frozen? ⟨b, j, none⟩ = false := fun j => frozen_of_row _ _ _ _ _ hb9
    have k39 : W9.cell? ⟨b, 3, none⟩ = some (.slice (some ⟨g, i * 3, none⟩) n7 c7) := by rw [cell_of_row W9 b 3 _ _ _ hb9]; rfl
    obtain ⟨p9, c9, rfl, _⟩ := how9.rd.len_eq
    obtain ⟨n9, hn9⟩ : ∃ n, n = (((zs ++ [(x, bs)]).map (·.1)).drop 1).length := ⟨_, rfl⟩
    rw [← hn9] at how9 hs9 ⊢
    have HB9 := Lib.hid hb9
    have HO9 := Lib.hid how9
    have HE9 := Lib.hid hE9
    have HS9 := Lib.hid hs9
    clear hb9 how9 hE9 hs9 hn9 k3
    go_wp2
    go_end0
    have hEa : Ext [b] W9 (W9.setCell ⟨b, 3, none⟩ (.slice p9 n9 c9)) := (Ext.refl [b] W9).setCell (.inl (by simp)) _
    have hba := heap_setCell_same W9 b 3 _ _ (.slice p9 n9 c9) HB9.out
    have hgw : g ∈ blkL mv ∨ w.heap.size ≤ g := HNW.out g (by simp [blkL])
    refine ⟨rfl, _, ⟨hba, ⟨(zs ++ [(x, bs)]).drop 1, ?_, fun z hz => ?_, ?_⟩, fun y hy => ?_⟩, (HE08.out.trans' HE9.out (fun y h => .inl h) (fun y hy => ?_)).trans (hEa.mono (by simp)), fun y hy => ?_⟩
    · rw [List.map_drop]
      exact HO9.out.ext hEa (fun y hy => by simpa using HO9.out.ne HB9.out (by decide) y hy)
    · have h := HALL.out z (List.mem_of_mem_drop hz)
      have h9 := h.ext HE9.out (fun y hy hy2 => by
        obtain ⟨c, hc⟩ := h.tag y hy
        simp at hy2
        subst hy2
        rw [HG.out] at hc
        simp only [Option.some.injEq, Obj.cells.injEq] at hc
        exact absurd hc.2.1 (by decide))
      exact h9.ext hEa (fun y hy => by simpa using h9.ne HB9.out (by decide) y hy)
    · show remL s.mem (x.1, x.2.1, bs) = _
      rw [HRL.out, if_pos hbig, List.map_drop, HM.out]
    · rw [HS9.out y hy]
      rcases hgw with h | h
      · exact HH.out.2.2 _ h
      · have := HH.out.lt.1; omega
    · simp at hy
      subst hy
      rcases hgw with h | h
      · exact .inl (by simp [h])
      · exact .inr h
    · rw [HS9.out y hy]
      exact hgw
  · have z1 : ¬ (64 : Int) < (n7 : Int) := by omega
    go_wp2
    go_end0
    refine ⟨rfl, _, ⟨HB8.out, ⟨zs ++ [(x, bs)], HO8.out, HALL.out, ?_⟩, fun y hy => ?_⟩, HE08.out, HNW.out⟩
    rotate_left
    · rcases HNW.out y hy with h | h
      · exact HH.out.2.2 _ h
      · have := HH.out.lt.1; omega
    show remL s.mem (x.1, x.2.1, bs) = _
    rw [HRL.out, if_neg hbig, HM.out]

theorem remember_c (b a sp : Nat) (s : Sto) (x : Kno) (bs : List UInt8) (w : World) (h : StoR w b a sp s) (hl : s.mem.length ≤ 64) (hx : EB.Ow 5 w (.slice x.2.2.1 x.2.2.2.1 x.2.2.2.2) bs) :
    Calls Tryz.prog 30 #[.pointer (some ⟨b, 0, none⟩), kagg x] w fun e w' => e = .returned (.tuple #[]) ∧ StoR w' b a sp { s with mem := remL s.mem (x.1, x.2.1, bs) } ∧ ExtT [b] [87] w w' := by
  obtain ⟨mv, h⟩ := h
  refine (remember_m b a sp mv s x bs w h hl hx).mono ?_
  rintro e w' ⟨rfl, mv', h1, h2, _⟩
  exact ⟨rfl, ⟨mv', h1⟩, h.frame h2⟩

end Go.Proofs.YtgfajlaibgbdoaaGreat

