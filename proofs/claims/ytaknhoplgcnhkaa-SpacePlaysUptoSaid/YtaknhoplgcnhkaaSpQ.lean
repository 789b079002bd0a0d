
import Derived.Test.YtaknhoplgcnhkaaSt
import Derived.Deep.CutBlock
namespace Go.Proofs.Ytaknhoplgcnhkaa
open Go.RowKit

/-- a line of a log: take or give, from, how many. -/
abbrev Lin := Bool × Int × Int
def EL : Enc Lin where
  k := 3
  hk := by decide
  enc x := [.bool x.1, .int .i64 x.2.1, .int .i64 x.2.2]
  len _ := rfl
  one _ v hv := by simp at hv; rcases hv with rfl | rfl | rfl <;> rfl

theorem EL_cells {w : World} {g o n cap : Nat} {s : List Lin} (h : EL.Rd w (.slice (some ⟨g, o, none⟩) n cap) s) (i : Nat) (hi : i < s.length) :
    w.cell? ⟨g, o + i * 3, none⟩ = some (.bool (s.getD i (false,0,0)).1) ∧ w.cell? ⟨g, o + i * 3 + 1, none⟩ = some (.int .i64 (s.getD i (false,0,0)).2.1) ∧ w.cell? ⟨g, o + i * 3 + 2, none⟩ = some (.int .i64 (s.getD i (false,0,0)).2.2) := by
  have e : s.getD i (false,0,0) = s[i] := by simp [List.getD, hi]
  rw [e]
  exact ⟨h.cells i 0 hi (by decide), h.cells i 1 hi (by decide), h.cells i 2 hi (by decide)⟩

/-- the cells are there. -/
def inC (nc f n : Int) : Bool := decide (1 ≤ n) && decide (n ≤ nc) && decide (0 ≤ f) && decide (f ≤ nc - n)

/-- one line of a log over the states: h before, h' behind. -/
def Step (h : List Int) (o : Lin) (h' : List Int) : Prop :=
  inC h.length o.2.1 o.2.2 = true ∧ AllAre h o.2.1 o.2.2 (if o.1 then 0 else 1) ∧ SetTo h h' o.2.1 o.2.2 (if o.1 then 1 else 0)
/-- the line is refused. -/
def Bad (h : List Int) (o : Lin) : Prop := inC h.length o.2.1 o.2.2 = false ∨ (inC h.length o.2.1 o.2.2 = true ∧ ¬ AllAre h o.2.1 o.2.2 (if o.1 then 0 else 1))

/-- the states behind the first lines. -/
inductive Played (h0 : List Int) (l : List Lin) : Nat → List Int → Prop where
  | start : Played h0 l 0 h0
  | next {k : Nat} {h h' : List Int} : Played h0 l k h → k < l.length → Step h (l.getD k (false,0,0)) h' → Played h0 l (k + 1) h'

theorem SetTo.ex (h : List Int) (a n v : Int) : ∃ h', SetTo h h' a n v := by
  refine ⟨(List.range h.length).map (fun (i : Nat) => if a ≤ i ∧ (i : Int) < a + n then v else h.getD i 9), by simp, fun i hi => ?_⟩
  simp [List.getD, hi]

structure Gave (s s' : Spc) (a n : Int) : Prop where
  cells : s'.cells = s.cells
  back : s'.back = s.back
  leaving : s'.leaving = s.leaving
  free : ∀ c, Mem s'.free c ↔ Mem s.free c ∨ (a ≤ c ∧ c < a + n)
  used : ∀ c, Mem s'.used c ↔ Mem s.used c ∧ ¬ (a ≤ c ∧ c < a + n)
  cntF : cntL s'.free = cntL s.free + n
  at1 : ∀ c, a ≤ c ∧ c < a + n → Mem s.used c

theorem SpI.gave {s s' : Spc} {a n : Int} (h : SpI s) (t : Gave s s' a n) (okF : Ok s'.free) (okU : Ok s'.used) (hn : 0 ≤ n) : SpI s' := by
  obtain ⟨t1, t2, t3, t4, t5, t6, t7⟩ := t
  have hb := h.b1
  refine ⟨by rw [t1]; exact h.c1, by rw [t1]; exact h.c2, okF, okU, by rw [t3]; exact h.okL, fun c => ?_, fun c => ?_, fun c => ?_, fun c => ?_, by rw [t2]; exact h.b0, by rw [t2, t6]; omega⟩
  · rw [t1, t3, t4, t5, h.all]
    have := t7 c
    grind
  · rw [t4, t5]; have := h.fu c; grind
  · rw [t4, t3]; have := h.fl c; have := h.ul c; have := t7 c; grind
  · rw [t5, t3]; have := h.ul c; grind

theorem StRel.gave {s s' : Spc} {h h' : List Int} {a n : Int} (r : StRel s h) (hi : SpI s) (t : Gave s s' a n) (hs : SetTo h h' a n 0) : StRel s' h' := by
  refine ⟨by rw [t.cells, r.1, hs.1], fun i hl => ?_⟩
  rw [hs.1] at hl
  rw [hs.2 i hl, t.free, t.used, t.leaving]
  have h1 := r.2 i hl
  have h2 := t.at1 i
  have h3 := hi.fu i
  have h4 := hi.ul i
  grind

theorem meets_none {s t : List Rng} {r : Rng} (hs : Ok s) (hr : r.1 < r.2) (hh : hasB t r = true) (hd : ∀ c, ¬ (Mem t c ∧ Mem s c)) : meetsB s r = false := by
  cases hm : meetsB s r with
  | false => rfl
  | true =>
    obtain ⟨c, hc1, hc2, hc3⟩ := (meetsB_iff hr (fun y hy => (hs.2 y hy).2.1)).1 hm
    exact (hd c ⟨mem_of_hasB hh c ⟨hc2, hc3⟩, hc1⟩).elim

def RepRel (nc : Int) (l : List Lin) (w w' : World) (p : Option Addr) (err : Int) : Prop :=
  ((nc < 1 ∨ 40000 < nc) ∧ p = none ∧ err = 1) ∨
  (1 ≤ nc ∧ nc ≤ 40000 ∧ (∃ k h, Played (List.replicate nc.toNat 0) l k h ∧ k < l.length ∧ Bad h (l.getD k (false,0,0))) ∧ p = none ∧ err = 2) ∨
  (1 ≤ nc ∧ nc ≤ 40000 ∧ err = 0 ∧ ∃ b s h, p = some ⟨b, 0, none⟩ ∧ w.heap.size ≤ b ∧ SpR w' b s ∧ SpI s ∧ s.back = 0 ∧ s.leaving = [] ∧ StRel s h ∧ Played (List.replicate nc.toNat 0) l l.length h)

def RepPost (nc : Int) (l : List Lin) (w : World) (e : Ending) (w' : World) : Prop :=
  ∃ p err, e = .returned (.tuple #[.pointer p, .int .i64 err]) ∧ Ext [] w w' ∧ RepRel nc l w w' p err

set_option maxRecDepth 100000 in
set_option maxHeartbeats 1000000 in
theorem replay_c (nc : Int) (v : Value) (l : List Lin) (w : World) (hu : EL.Rd w v l) (hc1 : -9223372036854775808 ≤ nc) (hc2 : nc ≤ 9223372036854775807) (hl : l.length ≤ 9223372036854775807)
    (hg : ∀ x ∈ l, (-9223372036854775808 ≤ x.2.1 ∧ x.2.1 ≤ 9223372036854775807) ∧ (-9223372036854775808 ≤ x.2.2 ∧ x.2.2 ≤ 9223372036854775807)) :
    Calls Try.prog 29 #[.int .i64 nc, v] w (RepPost nc l w) := by
  obtain ⟨pv, cv, rfl, _⟩ := hu.len_eq
  have HU := Lib.hid hu
  have HG := Lib.hid hg
  clear hu hg
  go_enter Try.func29, Try.ntmps29
  go_wp2_with fail
  refine (new_c nc _ [] _ (.inl ⟨rfl, rfl⟩) hc1 hc2 (by simp)).mono ?_
  rintro e W2 ⟨p, err, rfl, hE2, hrel⟩
  rcases hrel with ⟨h, rfl, rfl⟩ | ⟨_, _, h, _⟩ | ⟨_, _, _, h, _⟩ | ⟨h1, h2, _, _, rfl, b, s, rfl, hb, hr, hi, hf⟩
  · go_wp2
    go_ret2
    exact ⟨none, 1, rfl, hE2, .inl ⟨h, rfl, rfl⟩⟩
  · cases h
  · exact (h (fun i hi => by simp at hi)).elim
  · obtain ⟨hfr, hus⟩ := hf.all hi
    have k0 := hf.back
    have lv0 := hf.leaving
    have hst := StRel.start (c := nc.toNat) (by rw [hf.cells]; omega) (by rw [hfr]; congr 2; omega)
    have HR := Lib.hid hr
    have HI := Lib.hid hi
    have HST := Lib.hid hst
    clear hr hi hf hfr hus hst
    go_wp2_with fail
    have hbw : w.heap.size ≤ b := hb
    have hrep0 : (List.replicate nc.toNat (0 : Int)) = List.replicate nc.toNat 0 := rfl
    go_loopw [9, 10, 21] (fun _ _ iv wr => ∃ (k : Nat) (s : Spc) (h : List Int), k ≤ l.length ∧ iv = .int .i64 k ∧ Ext [] w wr ∧ Hid (SpR wr b s) ∧ Hid (SpI s ∧ s.back = 0 ∧ s.leaving = [] ∧ StRel s h) ∧ Hid (Played (List.replicate nc.toNat 0) l k h)) (fun _ _ iv _ => l.length - (intOf iv).toNat)
    case atStart => exact ⟨0, s, _, Nat.zero_le _, rfl, hE2, HR, ⟨HI.out, k0, lv0, HST.out⟩, .start⟩
    case round =>
      clear HR HI HST k0 lv0 hE2 hrep0 hb
      obtain ⟨k, s, h, hk, rfl, hB, HR, HI, HP⟩ := hrel
      by_cases hlt : k < l.length
      · obtain ⟨g, o, rfl⟩ : ∃ g o, pv = some ⟨g, o, none⟩ := by
          rcases HU.out with ⟨_, h⟩ | ⟨g, o, c, h, _⟩
          · rw [h] at hlt; simp at hlt
          · cases h; exact ⟨g, o, rfl⟩
        obtain ⟨hm1, hm2, hm3⟩ := EL_cells (HU.out.ext0 hB) k hlt
        have hgx := HG.out (l.getD k (false,0,0)) (by
          have e : l.getD k (false,0,0) = l[k] := by simp [List.getD, hlt]
          rw [e]; exact List.getElem_mem hlt)
        have hbad : Bad h (l.getD k (false,0,0)) → RepRel nc l w wr none 2 := fun hb => .inr (.inl ⟨h1, h2, ⟨k, h, HP.out, hlt, hb⟩, rfl, rfl⟩)
        have hnx : ∀ h', Step h (l.getD k (false,0,0)) h' → Played (List.replicate nc.toNat 0) l (k + 1) h' := fun h' hs => .next HP.out hlt hs
        obtain ⟨x, hx⟩ : ∃ x, x = l.getD k (false,0,0) := ⟨_, rfl⟩
        rw [← hx] at hm1 hm2 hm3 hgx
        simp only [← hx] at hbad hnx
        obtain ⟨tk, f, n⟩ := x
        obtain ⟨⟨f1, f2⟩, n1, n2⟩ := hgx
        simp only at hm1 hm2 hm3 f1 f2 n1 n2
        have HBAD := Lib.hid hbad
        have HNX := Lib.hid hnx
        have hnc : s.cells = (h.length : Int) := HI.out.2.2.2.1
        obtain ⟨pf, nf, cf, pu, nu, cu, pl, nl, cl, hbk, r1, r2, r3⟩ := HR.out
        have m1 : wr.cell? ⟨b, 1, none⟩ = some (.slice pf nf cf) := by rw [cell_of_row wr b 1 _ _ _ hbk]; rfl
        have m2 : wr.cell? ⟨b, 2, none⟩ = some (.slice pu nu cu) := by rw [cell_of_row wr b 2 _ _ _ hbk]; rfl
        have hbl : b < wr.heap.size := lt_of_blk hbk
        have HBK := Lib.hid hbk
        have R1 := Lib.hid r1
        have R2 := Lib.hid r2
        have R3 := Lib.hid r3
        clear hx hbad hnx hbk r1 r2 r3
        go_wp2_with fail
        have hE0 : Ext [] wr ((wr.alloc (.cells #[.bool tk, .int .i64 f, .int .i64 n] 58)).alloc (.cells #[.int .i64 f, .int .i64 (wrap64 (f + n))] 41)) := ((Ext.refl [] _).alloc _).alloc _
        have q0 : ((wr.alloc (.cells #[.bool tk, .int .i64 f, .int .i64 n] 58)).alloc (.cells #[.int .i64 f, .int .i64 (wrap64 (f + n))] 41)).cell? ⟨wr.heap.size, 0, none⟩ = some (.bool tk) := by go_simp
        have q2 : ((wr.alloc (.cells #[.bool tk, .int .i64 f, .int .i64 n] 58)).alloc (.cells #[.int .i64 f, .int .i64 (wrap64 (f + n))] 41)).cell? ⟨wr.heap.size + 1, 0, none⟩ = some (.int .i64 f) := by go_simp
        have q3 : ((wr.alloc (.cells #[.bool tk, .int .i64 f, .int .i64 n] 58)).alloc (.cells #[.int .i64 f, .int .i64 (wrap64 (f + n))] 41)).cell? ⟨wr.heap.size + 1, 1, none⟩ = some (.int .i64 (wrap64 (f + n))) := by go_simp
        have m1' := hE0.cell m1 (by simp)
        have m2' := hE0.cell m2 (by simp)
        have hwe : ∀ (W : World) (p : Option Addr) (e : Int), RepRel nc l w wr none 2 → RepRel nc l w W none 2 := by
          intro W _ _ h
          rcases h with ⟨_, _, h⟩ | h | ⟨_, _, h, _⟩
          · cases h
          · exact .inr (.inl h)
          · cases h
        have HWE := Lib.hid hwe
        clear hwe
        revert hE0 q0 q2 q3 m1' m2'
        generalize World.alloc _ _ = W0
        intro hE0 q0 q2 q3 m1' m2'
        refine (in_c b s f n _ (HR.out.ext0 hE0) HI.out.1).mono ?_
        rintro e W1 ⟨rfl, rfl⟩
        by_cases hin : inB s f n = true
        · have HIN := Lib.hid hin
          simp only [inB, Bool.and_eq_true, decide_eq_true_eq] at hin
          obtain ⟨⟨⟨x1, x2⟩, x3⟩, x4⟩ := hin
          have c2 := HI.out.1.c2
          have et : wrap64 (f + n) = f + n := by unfold wrap64; omega
          rw [et] at q3
          rw [et, HIN.out]
          clear et
          have hinC : inC h.length f n = true := by have h := HIN.out; simp only [inB, hnc] at h; exact h
          have HINC := Lib.hid hinC
          clear hinC
          have hEd := hE0.drew
          go_wp2_with fail
          cases tk with
          | true =>
            have hiff := HI.out.2.2.2.hasF HI.out.1 (a := f) (n := n) x3 x1 (by omega)
            have HIFF := Lib.hid hiff
            clear hiff
            go_region_held3 (fun W => (W.cell? ⟨b, 1, none⟩ = some (.slice pf nf cf) ∧ W.cell? ⟨wr.heap.size, 0, none⟩ = some (.bool true)) ∧ W.cell? ⟨wr.heap.size + 1, 0, none⟩ = some (.int .i64 f) ∧ W.cell? ⟨wr.heap.size + 1, 1, none⟩ = some (.int .i64 (f + n)))
              (first | exact ⟨⟨hE5.cell m1' (by simp), hE5.cell q0 (by simp)⟩, hE5.cell q2 (by simp), hE5.cell q3 (by simp)⟩ | go_keep)
              (first | (go_at_call 36; refine (has_c _ s.free _ _ _ (R1.out.rd.ext0 hEd) HI.out.1.okF x3 (by omega) (by omega)).mono ?_; rintro e W5 ⟨rfl, hE5'⟩; have hE5 : Ext [] W0 W5 := (Ext.refl [] W0).drew.trans hE5'))
            by_cases hh : hasB s.free (f, f + n) = true
            · have HH := Lib.hid hh
              have hst : AllAre h f n 0 := HIFF.out.1 hh
              have hmt := meets_none HI.out.1.okU (by simp; omega) hh HI.out.1.fu
              obtain ⟨h', hset⟩ := SetTo.ex h f n 1
              have HMT := Lib.hid hmt
              have HSET := Lib.hid hset
              have HPL := Lib.hid (HNX.out h' ⟨HINC.out, hst, hset⟩)
              rw [hh]
              clear hh hst hmt hset
              have hE1' := hE0.trans hE5
              have q2' := hE5.cell q2 (by simp)
              have q3' := hE5.cell q3 (by simp)
              have m1'' := hE5.cell m1' (by simp)
              have m2'' := hE5.cell m2' (by simp)
              go_wp2_with fail
              have hD0 : Ext [] (W5) (W5).drew := (Ext.refl [] _).drew
              refine wp_region_u (fun W => (W.cell? ⟨b, 1, none⟩ = some (.slice pf nf cf) ∧ W.cell? ⟨b, 2, none⟩ = some (.slice pu nu cu)) ∧ W.cell? ⟨wr.heap.size + 1, 0, none⟩ = some (.int .i64 (f)) ∧ W.cell? ⟨wr.heap.size + 1, 1, none⟩ = some (.int .i64 (f + n))) (fun i => decide (i < 14) && !(i == 1)) (by kernel_rfl) ⟨⟨hD0.cell (m1'') (by simp), hD0.cell (m2'') (by simp)⟩, hD0.cell (q2') (by simp), hD0.cell (q3') (by simp)⟩ (fun hS => ?_)
              (refine wpAnyU_pure (i := 1) rfl (by kernel_rfl) (by kernel_rfl) (by kernel_rfl) (by rfl) (by exact fun _ _ _ h => h) (Or.inl ⟨by rfl, fun W => by (go_simp; try rfl)⟩) ?_); (try go_frame)
              (refine wpAnyU_take (i := 0) rfl (by kernel_rfl) (by kernel_rfl) (by kernel_rfl) (by kernel_rfl) (by exact fun _ _ _ h => h) (by assumption) (Or.inl ⟨by rfl, fun W hW => by (have hWW := hW; clear hW; go_split_ands; go_simp; try rfl)⟩) ?_); (try go_frame)
              (refine wpAnyU_take (i := 2) rfl (by kernel_rfl) (by kernel_rfl) (by kernel_rfl) (by kernel_rfl) (by exact fun _ _ _ h => h) (by assumption) (Or.inl ⟨by rfl, fun W hW => by (have hWW := hW; clear hW; go_split_ands; go_simp; try rfl)⟩) ?_); (try go_frame)
              (refine wpAnyU_take (i := 3) rfl (by kernel_rfl) (by kernel_rfl) (by kernel_rfl) (by kernel_rfl) (by exact fun _ _ _ h => h) (by assumption) (Or.inl ⟨by rfl, fun W hW => by (have hWW := hW; clear hW; go_split_ands; go_simp; try rfl)⟩) ?_); (try go_frame)
              (refine wpAnyU_take (i := 4) rfl (by kernel_rfl) (by kernel_rfl) (by kernel_rfl) (by kernel_rfl) (by exact fun _ _ _ h => h) (by assumption) (Or.inl ⟨by rfl, fun W hW => by (have hWW := hW; clear hW; go_split_ands; go_simp; try rfl)⟩) ?_); (try go_frame)
              (refine wpAnyU_take (i := 5) rfl (by kernel_rfl) (by kernel_rfl) (by kernel_rfl) (by kernel_rfl) (by exact fun _ _ _ h => h) (by assumption) (Or.inl ⟨by rfl, fun W hW => by (have hWW := hW; clear hW; go_split_ands; go_simp; try rfl)⟩) ?_); (try go_frame)
              (refine wpAnyU_take (i := 6) rfl (by kernel_rfl) (by kernel_rfl) (by kernel_rfl) (by kernel_rfl) (by exact fun _ _ _ h => h) (by assumption) (Or.inl ⟨by rfl, fun W hW => by (have hWW := hW; clear hW; go_split_ands; go_simp; try rfl)⟩) ?_); (try go_frame)
              (refine wpAnyU_take (i := 8) rfl (by kernel_rfl) (by kernel_rfl) (by kernel_rfl) (by kernel_rfl) (by exact fun _ _ _ h => h) (by assumption) (Or.inl ⟨by rfl, fun W hW => by (have hWW := hW; clear hW; go_split_ands; go_simp; try rfl)⟩) ?_); (try go_frame)
              (refine wpAnyU_take (i := 9) rfl (by kernel_rfl) (by kernel_rfl) (by kernel_rfl) (by kernel_rfl) (by exact fun _ _ _ h => h) (by assumption) (Or.inl ⟨by rfl, fun W hW => by (have hWW := hW; clear hW; go_split_ands; go_simp; try rfl)⟩) ?_); (try go_frame)
              (refine wpAnyU_take (i := 10) rfl (by kernel_rfl) (by kernel_rfl) (by kernel_rfl) (by kernel_rfl) (by exact fun _ _ _ h => h) (by assumption) (Or.inl ⟨by rfl, fun W hW => by (have hWW := hW; clear hW; go_split_ands; go_simp; try rfl)⟩) ?_); (try go_frame)
              (refine wpAnyU_take (i := 11) rfl (by kernel_rfl) (by kernel_rfl) (by kernel_rfl) (by kernel_rfl) (by exact fun _ _ _ h => h) (by assumption) (Or.inl ⟨by rfl, fun W hW => by (have hWW := hW; clear hW; go_split_ands; go_simp; try rfl)⟩) ?_); (try go_frame)
              (refine wpAnyU_take (i := 12) rfl (by kernel_rfl) (by kernel_rfl) (by kernel_rfl) (by kernel_rfl) (by exact fun _ _ _ h => h) (by assumption) (Or.inl ⟨by rfl, fun W hW => by (have hWW := hW; clear hW; go_split_ands; go_simp; try rfl)⟩) ?_); (try go_frame)
              refine wpAnyU_one (i := 7) (by kernel_rfl) rfl (fun K hK => ?_)
              (try simp only [Act.put, List.getElem_toArray, List.getElem_cons_zero, List.getElem_cons_succ, List.setIfInBounds_toArray, List.set_cons_zero, List.set_cons_succ]); rw [if_pos (show Region.wanted _ _ = true from rfl)]
              go_simp
              have hD1 := (hE1').trans hD0
              refine (cut_c _ s.free _ _ _ (R1.out.ext0 hD1) HI.out.1.okF x3 (by omega) (by omega) HH.out).mono ?_
              rintro e w5 ⟨v5, s5, rfl, how5, hp5, hE5⟩
              have hE5' := hD1.trans hE5
              refine hK.out _ _ (fun _ => ⟨⟨hE5.cell hS.1.1 (by simp), hE5.cell hS.1.2 (by simp)⟩, hE5.cell hS.2.1 (by simp), hE5.cell hS.2.2 (by simp)⟩) (fun hS5 => ?_)
              have hS5' := hS5 rfl
              refine wpAnyU_one (i := 13) (by kernel_rfl) rfl (fun K hK => ?_)
              (try simp only [Act.put, List.getElem_toArray, List.getElem_cons_zero, List.getElem_cons_succ, List.setIfInBounds_toArray, List.set_cons_zero, List.set_cons_succ]); rw [if_pos (show Region.wanted _ _ = true from rfl)]
              go_simp
              refine (add_c _ s.used _ _ _ (R2.out.ext0 hE5') HI.out.1.okU x3 (by omega) (by omega) HMT.out).mono ?_
              rintro e w6 ⟨v6, s6, rfl, how6, hp6, hE6⟩
              refine hK.out _ _ (fun _ => ⟨⟨hE6.cell hS5'.1.1 (by simp), hE6.cell hS5'.1.2 (by simp)⟩, hE6.cell hS5'.2.1 (by simp), hE6.cell hS5'.2.2 (by simp)⟩) (fun hS6 => ?_)
              have hS6' := hS6 rfl
              have hE6' := hE5'.trans hE6
              have hE56 := (hD0.trans hE5).trans hE6
              have hb6 := hE6'.blk (HBK).out (by simp)
              have how5' := how5.ext0 hE6
              obtain ⟨p5, c5, rfl, _⟩ := how5.rd.len_eq
              obtain ⟨p6, c6, rfl, _⟩ := how6.rd.len_eq
              have hfz6 : ∀ j, w6.frozen? ⟨b, j, none⟩ = false := fun j => frozen_of_row _ _ _ _ _ hb6
              have n61 := hS6'.1.1
              have n62 := hS6'.1.2
              have HB6 := Lib.hid hb6
              have HO5 := Lib.hid how5'
              have HO6 := Lib.hid how6
              have HP5 := Lib.hid hp5
              have HP6 := Lib.hid hp6
              clear hS hS5 hS5' hS6 hS6' hb6 how5' how5 how6 hp5 hp6
              (refine wpAnyU_pure (i := 14) rfl (by kernel_rfl) (by kernel_rfl) (by kernel_rfl) (by rfl) (by exact fun _ _ _ h => h) (Or.inl ⟨by rfl, fun W => by (go_simp; try rfl)⟩) ?_); (try go_frame)
              (refine wpAnyU_pure (i := 15) rfl (by kernel_rfl) (by kernel_rfl) (by kernel_rfl) (by rfl) (by exact fun _ _ _ h => h) (Or.inl ⟨by rfl, fun W => by (go_simp; try rfl)⟩) ?_); (try go_frame)
              refine wpAnyU_one (i := 16) (by kernel_rfl) rfl (fun K hK => ?_)
              (try simp only [Act.put, List.getElem_toArray, List.getElem_cons_zero, List.getElem_cons_succ, List.setIfInBounds_toArray, List.set_cons_zero, List.set_cons_succ]); rw [if_pos (show Region.wanted _ _ = true from rfl)]
              go_simp
              refine hK.out _ _ (fun h => by cases h) (fun _ => ?_)
              (refine wpAnyU_pure (i := 17) rfl (by kernel_rfl) (by kernel_rfl) (by kernel_rfl) (by rfl) (by exact fun _ _ _ h => h) (Or.inl ⟨by rfl, fun W => by (go_simp; try rfl)⟩) ?_); (try go_frame)
              (refine wpAnyU_pure (i := 18) rfl (by kernel_rfl) (by kernel_rfl) (by kernel_rfl) (by rfl) (by exact fun _ _ _ h => h) (Or.inl ⟨by rfl, fun W => by (go_simp; try rfl)⟩) ?_); (try go_frame)
              refine wpAnyU_one (i := 19) (by kernel_rfl) rfl (fun K hK => ?_)
              (try simp only [Act.put, List.getElem_toArray, List.getElem_cons_zero, List.getElem_cons_succ, List.setIfInBounds_toArray, List.set_cons_zero, List.set_cons_succ]); rw [if_pos (show Region.wanted _ _ = true from rfl)]
              go_simp
              refine hK.out _ _ (fun h => by cases h) (fun _ => ?_)
              refine wpAnyU_done (by kernel_rfl) ?_ _
              have hW8 : Ext [b] _ ((w6.setCell ⟨b, 1, none⟩ (.slice p5 s5.length c5)).setCell ⟨b, 2, none⟩ (.slice p6 s6.length c6)) := ((hE6'.nil (S := [b])).setCell (.inl (by simp)) _).setCell (.inl (by simp)) _
              have hW68 : Ext [b] w6 ((w6.setCell ⟨b, 1, none⟩ (.slice p5 s5.length c5)).setCell ⟨b, 2, none⟩ (.slice p6 s6.length c6)) := ((Ext.refl [b] w6).setCell (.inl (by simp)) _).setCell (.inl (by simp)) _
              have hb8 := heap_setCell_same _ b 2 _ _ (.slice p6 s6.length c6) (heap_setCell_same _ b 1 _ _ (.slice p5 s5.length c5) HB6.out)
              have HB8 := Lib.hid hb8
              clear hb8 hfz6 n61 n62
              revert hW8 hW68 HB8
              generalize World.setCell _ _ _ = w8
              intro hW8 hW68 HB8
              have hnf : ∀ (xs : List Rng) (v : Value), ER.Ow 41 w6 v xs → ER.Ow 41 w8 v xs := fun xs v h => h.ext hW68 (by simpa using h.ne HB6.out (by decide))
              have HNF := Lib.hid hnf
              clear hnf
              go_wp2
              go_roundw
              case rel =>
                obtain ⟨p1, p2, p3⟩ := HP5.out
                obtain ⟨p4, p5, p6⟩ := HP6.out
                have hm := mem_of_hasB HH.out
                have ht : Took s ⟨s.cells, s5, s6, s.leaving, s.back⟩ f n := ⟨rfl, rfl, rfl, p2, p5, by rw [p3]; omega, by rw [p6]; omega, x3, fun c hc => hm c hc⟩
                have hn := cntL_nonneg p1
                have hbk := HI.out.2.1
                exact ⟨k + 1, ⟨s.cells, s5, s6, s.leaving, s.back⟩, h', by omega, by go_num, hB.trans' hW8 (by simp) (fun y hy => .inr (by simp at hy; subst hy; exact hbw)), ⟨_, _, _, _, _, _, _, _, _, HB8.out, HNF.out _ _ HO5.out, HNF.out _ _ HO6.out, HNF.out _ _ (R3.out.ext0 hE6')⟩, ⟨HI.out.1.took ht p1 p4 (by omega), HI.out.2.1, HI.out.2.2.1, HI.out.2.2.2.took HI.out.1 ht HSET.out⟩, HPL⟩
              case measure => simp [intOf]; omega
            · have hbad2 : ¬ AllAre h f n 0 := fun h2 => hh (HIFF.out.2 h2)
              have hh' : hasB s.free (f, f + n) = false := by simpa using hh
              have q0' := hE5.cell q0 (by simp)
              have HRR := Lib.hid (HWE.out W5 none 0 (HBAD.out (.inr ⟨HINC.out, hbad2⟩)))
              rw [hh']
              clear hh hh' hbad2
              go_wp2_with fail
              go_quiet (fail)
              go_wp2
              go_ret2
              exact ⟨_, 2, rfl, by first | exact (hB.trans (hE0.trans hE5)).drewN _ | exact hB.trans (hE0.trans hE5), HRR.out⟩
          | false =>
            have hiff := HI.out.2.2.2.hasU HI.out.1 (a := f) (n := n) x3 x1 (by omega)
            have HIFF := Lib.hid hiff
            clear hiff
            go_quiet (fail)
            go_wp2_with fail
            have hE0' : Ext [] wr (W0.drewN nq) := hE0.drewN _
            have hEW : Ext [] W0 (W0.drewN nq) := (Ext.refl [] _).drewN _
            have u0 := hEW.cell q0 (by simp)
            have u2 := hEW.cell q2 (by simp)
            have u3 := hEW.cell q3 (by simp)
            have v1 := hEW.cell m1' (by simp)
            have v2 := hEW.cell m2' (by simp)
            revert hE0' u0 u2 u3 v1 v2
            clear hEW hEd
            generalize World.drewN _ _ = V0
            intro hE0' u0 u2 u3 v1 v2
            have hEd' := hE0'.drew
            go_region_held3 (fun W => (W.cell? ⟨b, 2, none⟩ = some (.slice pu nu cu) ∧ W.cell? ⟨wr.heap.size, 0, none⟩ = some (.bool false)) ∧ W.cell? ⟨wr.heap.size + 1, 0, none⟩ = some (.int .i64 f) ∧ W.cell? ⟨wr.heap.size + 1, 1, none⟩ = some (.int .i64 (f + n)))
              (first | exact ⟨⟨hE5.cell v2 (by simp), hE5.cell u0 (by simp)⟩, hE5.cell u2 (by simp), hE5.cell u3 (by simp)⟩ | go_keep)
              (first | (go_at_call 36; refine (has_c _ s.used _ _ _ (R2.out.rd.ext0 hEd') HI.out.1.okU x3 (by omega) (by omega)).mono ?_; rintro e W5 ⟨rfl, hE5'⟩; have hE5 : Ext [] V0 W5 := (Ext.refl [] V0).drew.trans hE5'))
            by_cases hh : hasB s.used (f, f + n) = true
            · have HH := Lib.hid hh
              have hst : AllAre h f n 1 := HIFF.out.1 hh
              have hmt := meets_none HI.out.1.okF (by simp; omega) hh (fun c h => HI.out.1.fu c ⟨h.2, h.1⟩)
              obtain ⟨h', hset⟩ := SetTo.ex h f n 0
              have HMT := Lib.hid hmt
              have HSET := Lib.hid hset
              have HPL := Lib.hid (HNX.out h' ⟨HINC.out, hst, hset⟩)
              rw [hh]
              clear hh hst hmt hset
              have hE1' := hE0'.trans hE5
              have q2' := hE5.cell u2 (by simp)
              have q3' := hE5.cell u3 (by simp)
              have m1'' := hE5.cell v1 (by simp)
              have m2'' := hE5.cell v2 (by simp)
              go_wp2_with fail
              have hD0 : Ext [] (W5) (W5).drew := (Ext.refl [] _).drew
              refine wp_region_u (fun W => (W.cell? ⟨b, 1, none⟩ = some (.slice pf nf cf) ∧ W.cell? ⟨b, 2, none⟩ = some (.slice pu nu cu)) ∧ W.cell? ⟨wr.heap.size + 1, 0, none⟩ = some (.int .i64 (f)) ∧ W.cell? ⟨wr.heap.size + 1, 1, none⟩ = some (.int .i64 (f + n))) (fun i => decide (i < 14) && !(i == 1)) (by kernel_rfl) ⟨⟨hD0.cell (m1'') (by simp), hD0.cell (m2'') (by simp)⟩, hD0.cell (q2') (by simp), hD0.cell (q3') (by simp)⟩ (fun hS => ?_)
              (refine wpAnyU_pure (i := 1) rfl (by kernel_rfl) (by kernel_rfl) (by kernel_rfl) (by rfl) (by exact fun _ _ _ h => h) (Or.inl ⟨by rfl, fun W => by (go_simp; try rfl)⟩) ?_); (try go_frame)
              (refine wpAnyU_take (i := 0) rfl (by kernel_rfl) (by kernel_rfl) (by kernel_rfl) (by kernel_rfl) (by exact fun _ _ _ h => h) (by assumption) (Or.inl ⟨by rfl, fun W hW => by (have hWW := hW; clear hW; go_split_ands; go_simp; try rfl)⟩) ?_); (try go_frame)
              (refine wpAnyU_take (i := 2) rfl (by kernel_rfl) (by kernel_rfl) (by kernel_rfl) (by kernel_rfl) (by exact fun _ _ _ h => h) (by assumption) (Or.inl ⟨by rfl, fun W hW => by (have hWW := hW; clear hW; go_split_ands; go_simp; try rfl)⟩) ?_); (try go_frame)
              (refine wpAnyU_take (i := 3) rfl (by kernel_rfl) (by kernel_rfl) (by kernel_rfl) (by kernel_rfl) (by exact fun _ _ _ h => h) (by assumption) (Or.inl ⟨by rfl, fun W hW => by (have hWW := hW; clear hW; go_split_ands; go_simp; try rfl)⟩) ?_); (try go_frame)
              (refine wpAnyU_take (i := 4) rfl (by kernel_rfl) (by kernel_rfl) (by kernel_rfl) (by kernel_rfl) (by exact fun _ _ _ h => h) (by assumption) (Or.inl ⟨by rfl, fun W hW => by (have hWW := hW; clear hW; go_split_ands; go_simp; try rfl)⟩) ?_); (try go_frame)
              (refine wpAnyU_take (i := 5) rfl (by kernel_rfl) (by kernel_rfl) (by kernel_rfl) (by kernel_rfl) (by exact fun _ _ _ h => h) (by assumption) (Or.inl ⟨by rfl, fun W hW => by (have hWW := hW; clear hW; go_split_ands; go_simp; try rfl)⟩) ?_); (try go_frame)
              (refine wpAnyU_take (i := 6) rfl (by kernel_rfl) (by kernel_rfl) (by kernel_rfl) (by kernel_rfl) (by exact fun _ _ _ h => h) (by assumption) (Or.inl ⟨by rfl, fun W hW => by (have hWW := hW; clear hW; go_split_ands; go_simp; try rfl)⟩) ?_); (try go_frame)
              (refine wpAnyU_take (i := 8) rfl (by kernel_rfl) (by kernel_rfl) (by kernel_rfl) (by kernel_rfl) (by exact fun _ _ _ h => h) (by assumption) (Or.inl ⟨by rfl, fun W hW => by (have hWW := hW; clear hW; go_split_ands; go_simp; try rfl)⟩) ?_); (try go_frame)
              (refine wpAnyU_take (i := 9) rfl (by kernel_rfl) (by kernel_rfl) (by kernel_rfl) (by kernel_rfl) (by exact fun _ _ _ h => h) (by assumption) (Or.inl ⟨by rfl, fun W hW => by (have hWW := hW; clear hW; go_split_ands; go_simp; try rfl)⟩) ?_); (try go_frame)
              (refine wpAnyU_take (i := 10) rfl (by kernel_rfl) (by kernel_rfl) (by kernel_rfl) (by kernel_rfl) (by exact fun _ _ _ h => h) (by assumption) (Or.inl ⟨by rfl, fun W hW => by (have hWW := hW; clear hW; go_split_ands; go_simp; try rfl)⟩) ?_); (try go_frame)
              (refine wpAnyU_take (i := 11) rfl (by kernel_rfl) (by kernel_rfl) (by kernel_rfl) (by kernel_rfl) (by exact fun _ _ _ h => h) (by assumption) (Or.inl ⟨by rfl, fun W hW => by (have hWW := hW; clear hW; go_split_ands; go_simp; try rfl)⟩) ?_); (try go_frame)
              (refine wpAnyU_take (i := 12) rfl (by kernel_rfl) (by kernel_rfl) (by kernel_rfl) (by kernel_rfl) (by exact fun _ _ _ h => h) (by assumption) (Or.inl ⟨by rfl, fun W hW => by (have hWW := hW; clear hW; go_split_ands; go_simp; try rfl)⟩) ?_); (try go_frame)
              refine wpAnyU_one (i := 7) (by kernel_rfl) rfl (fun K hK => ?_)
              (try simp only [Act.put, List.getElem_toArray, List.getElem_cons_zero, List.getElem_cons_succ, List.setIfInBounds_toArray, List.set_cons_zero, List.set_cons_succ]); rw [if_pos (show Region.wanted _ _ = true from rfl)]
              go_simp
              have hD1 := (hE1').trans hD0
              refine (add_c _ s.free _ _ _ (R1.out.ext0 hD1) HI.out.1.okF x3 (by omega) (by omega) HMT.out).mono ?_
              rintro e w5 ⟨v5, s5, rfl, how5, hp5, hE5⟩
              have hE5' := hD1.trans hE5
              refine hK.out _ _ (fun _ => ⟨⟨hE5.cell hS.1.1 (by simp), hE5.cell hS.1.2 (by simp)⟩, hE5.cell hS.2.1 (by simp), hE5.cell hS.2.2 (by simp)⟩) (fun hS5 => ?_)
              have hS5' := hS5 rfl
              refine wpAnyU_one (i := 13) (by kernel_rfl) rfl (fun K hK => ?_)
              (try simp only [Act.put, List.getElem_toArray, List.getElem_cons_zero, List.getElem_cons_succ, List.setIfInBounds_toArray, List.set_cons_zero, List.set_cons_succ]); rw [if_pos (show Region.wanted _ _ = true from rfl)]
              go_simp
              refine (cut_c _ s.used _ _ _ (R2.out.ext0 hE5') HI.out.1.okU x3 (by omega) (by omega) HH.out).mono ?_
              rintro e w6 ⟨v6, s6, rfl, how6, hp6, hE6⟩
              refine hK.out _ _ (fun _ => ⟨⟨hE6.cell hS5'.1.1 (by simp), hE6.cell hS5'.1.2 (by simp)⟩, hE6.cell hS5'.2.1 (by simp), hE6.cell hS5'.2.2 (by simp)⟩) (fun hS6 => ?_)
              have hS6' := hS6 rfl
              have hE6' := hE5'.trans hE6
              have hE56 := (hD0.trans hE5).trans hE6
              have hb6 := hE6'.blk (HBK).out (by simp)
              have how5' := how5.ext0 hE6
              obtain ⟨p5, c5, rfl, _⟩ := how5.rd.len_eq
              obtain ⟨p6, c6, rfl, _⟩ := how6.rd.len_eq
              have hfz6 : ∀ j, w6.frozen? ⟨b, j, none⟩ = false := fun j => frozen_of_row _ _ _ _ _ hb6
              have n61 := hS6'.1.1
              have n62 := hS6'.1.2
              have HB6 := Lib.hid hb6
              have HO5 := Lib.hid how5'
              have HO6 := Lib.hid how6
              have HP5 := Lib.hid hp5
              have HP6 := Lib.hid hp6
              clear hS hS5 hS5' hS6 hS6' hb6 how5' how5 how6 hp5 hp6
              (refine wpAnyU_pure (i := 14) rfl (by kernel_rfl) (by kernel_rfl) (by kernel_rfl) (by rfl) (by exact fun _ _ _ h => h) (Or.inl ⟨by rfl, fun W => by (go_simp; try rfl)⟩) ?_); (try go_frame)
              (refine wpAnyU_pure (i := 15) rfl (by kernel_rfl) (by kernel_rfl) (by kernel_rfl) (by rfl) (by exact fun _ _ _ h => h) (Or.inl ⟨by rfl, fun W => by (go_simp; try rfl)⟩) ?_); (try go_frame)
              refine wpAnyU_one (i := 16) (by kernel_rfl) rfl (fun K hK => ?_)
              (try simp only [Act.put, List.getElem_toArray, List.getElem_cons_zero, List.getElem_cons_succ, List.setIfInBounds_toArray, List.set_cons_zero, List.set_cons_succ]); rw [if_pos (show Region.wanted _ _ = true from rfl)]
              go_simp
              refine hK.out _ _ (fun h => by cases h) (fun _ => ?_)
              (refine wpAnyU_pure (i := 17) rfl (by kernel_rfl) (by kernel_rfl) (by kernel_rfl) (by rfl) (by exact fun _ _ _ h => h) (Or.inl ⟨by rfl, fun W => by (go_simp; try rfl)⟩) ?_); (try go_frame)
              (refine wpAnyU_pure (i := 18) rfl (by kernel_rfl) (by kernel_rfl) (by kernel_rfl) (by rfl) (by exact fun _ _ _ h => h) (Or.inl ⟨by rfl, fun W => by (go_simp; try rfl)⟩) ?_); (try go_frame)
              refine wpAnyU_one (i := 19) (by kernel_rfl) rfl (fun K hK => ?_)
              (try simp only [Act.put, List.getElem_toArray, List.getElem_cons_zero, List.getElem_cons_succ, List.setIfInBounds_toArray, List.set_cons_zero, List.set_cons_succ]); rw [if_pos (show Region.wanted _ _ = true from rfl)]
              go_simp
              refine hK.out _ _ (fun h => by cases h) (fun _ => ?_)
              refine wpAnyU_done (by kernel_rfl) ?_ _
              have hW8 : Ext [b] _ ((w6.setCell ⟨b, 1, none⟩ (.slice p5 s5.length c5)).setCell ⟨b, 2, none⟩ (.slice p6 s6.length c6)) := ((hE6'.nil (S := [b])).setCell (.inl (by simp)) _).setCell (.inl (by simp)) _
              have hW68 : Ext [b] w6 ((w6.setCell ⟨b, 1, none⟩ (.slice p5 s5.length c5)).setCell ⟨b, 2, none⟩ (.slice p6 s6.length c6)) := ((Ext.refl [b] w6).setCell (.inl (by simp)) _).setCell (.inl (by simp)) _
              have hb8 := heap_setCell_same _ b 2 _ _ (.slice p6 s6.length c6) (heap_setCell_same _ b 1 _ _ (.slice p5 s5.length c5) HB6.out)
              have HB8 := Lib.hid hb8
              clear hb8 hfz6 n61 n62
              revert hW8 hW68 HB8
              generalize World.setCell _ _ _ = w8
              intro hW8 hW68 HB8
              have hnf : ∀ (xs : List Rng) (v : Value), ER.Ow 41 w6 v xs → ER.Ow 41 w8 v xs := fun xs v h => h.ext hW68 (by simpa using h.ne HB6.out (by decide))
              have HNF := Lib.hid hnf
              clear hnf
              go_wp2
              go_roundw
              case rel =>
                obtain ⟨p1, p2, p3⟩ := HP5.out
                obtain ⟨p4, p5, p6⟩ := HP6.out
                have hm := mem_of_hasB HH.out
                have ht : Gave s ⟨s.cells, s5, s6, s.leaving, s.back⟩ f n := ⟨rfl, rfl, rfl, p2, p5, by rw [p3]; omega, fun c hc => hm c hc⟩
                exact ⟨k + 1, ⟨s.cells, s5, s6, s.leaving, s.back⟩, h', by omega, by go_num, hB.trans' hW8 (by simp) (fun y hy => .inr (by simp at hy; subst hy; exact hbw)), ⟨_, _, _, _, _, _, _, _, _, HB8.out, HNF.out _ _ HO5.out, HNF.out _ _ HO6.out, HNF.out _ _ (R3.out.ext0 hE6')⟩, ⟨HI.out.1.gave ht p1 p4 (by omega), HI.out.2.1, HI.out.2.2.1, HI.out.2.2.2.gave HI.out.1 ht HSET.out⟩, HPL⟩
              case measure => simp [intOf]; omega
            · have hbad2 : ¬ AllAre h f n 1 := fun h2 => hh (HIFF.out.2 h2)
              have hh' : hasB s.used (f, f + n) = false := by simpa using hh
              have HRR := Lib.hid (HWE.out W5 none 0 (HBAD.out (.inr ⟨HINC.out, hbad2⟩)))
              rw [hh']
              clear hh hh' hbad2
              go_wp2
              go_ret2
              exact ⟨_, 2, rfl, hB.trans (hE0'.trans hE5), HRR.out⟩
        · have hin' : inB s f n = false := by simpa using hin
          rw [hin']
          have hinC : inC h.length f n = false := by have h := hin'; simp only [inB, hnc] at h; exact h
          have HRR := Lib.hid (HWE.out W0 none 0 (HBAD.out (.inl hinC)))
          clear hin hin' hinC
          go_wp2
          go_ret2
          exact ⟨_, 2, rfl, hB.trans hE0, HRR.out⟩
      · obtain rfl : k = l.length := by omega
        go_wp2
        go_ret2
        exact ⟨_, 0, rfl, hB, .inr (.inr ⟨h1, h2, rfl, b, s, h, rfl, hbw, HR.out, HI.out.1, HI.out.2.1, HI.out.2.2.1, HI.out.2.2.2, HP.out⟩)⟩

end Go.Proofs.Ytaknhoplgcnhkaa
