
import Derived.Test.YtgfajlaibgbdoaaGreatRows
import Derived.Test.YtgfajlaibgbdoaaGreatLb
import Derived.KernelRfl
namespace Go.Proofs.YtgfajlaibgbdoaaGreat
open Go.RowKit

abbrev Rng := Int × Int
def ER : Enc Rng := ⟨2, by decide, fun r => [.int .i64 r.1, .int .i64 r.2], fun _ => rfl, fun _ v hv => by simp at hv; rcases hv with rfl | rfl <;> rfl⟩
@[simp] theorem ER_k : ER.k = 2 := rfl
@[simp] theorem ER_enc (r : Rng) : ER.enc r = [.int .i64 r.1, .int .i64 r.2] := rfl
theorem tiR : Ti Tryz.prog ER 104 16 (0, 0) := Ti.mk' (z := .agg #[.int .i64 0, .int .i64 0]) (by kernel_rfl) rfl

theorem ER_cells {w : World} {g o n cap : Nat} {s : List Rng} (h : ER.Rd w (.slice (some ⟨g, o, none⟩) n cap) s) (i : Nat) (hi : i < s.length) :
    w.cell? ⟨g, o + i * 2, none⟩ = some (.int .i64 (s.getD i (0,0)).1) ∧ w.cell? ⟨g, o + i * 2 + 1, none⟩ = some (.int .i64 (s.getD i (0,0)).2) := by
  have e : s.getD i (0,0) = s[i] := by simp [List.getD, hi]
  rw [e]
  exact ⟨h.cells i 0 hi (by simp), h.cells i 1 hi (by simp)⟩

theorem isNaN_c (a : Int) (w : World) : Calls Tryz.prog 125 #[.int .i64 a] w fun e w' => e = .returned (.bool false) ∧ w = w' := by
  go_enter Tryz.func125, Tryz.ntmps125
  go_wp2
  go_ret
  simp

def cmpI (a b : Int) : Int := if a < b then -1 else if b < a then 1 else 0

theorem cmp_c (a b : Int) (w : World) : Calls Tryz.prog 102 #[.int .i64 a, .int .i64 b] w fun e w' => e = .returned (.int .i64 (cmpI a b)) ∧ w = w' := by
  unfold cmpI
  by_cases h1 : a < b
  · rw [if_pos h1]
    go_enter Tryz.func102, Tryz.ntmps102
    go_wp2_with (go_at_call 125; refine (isNaN_c _ _).mono ?_; rintro e w' ⟨rfl, rfl⟩)
    all_goals (go_ret; simp)
  · rw [if_neg h1]
    by_cases h2 : b < a
    · rw [if_pos h2]
      go_enter Tryz.func102, Tryz.ntmps102
      go_wp2_with (go_at_call 125; refine (isNaN_c _ _).mono ?_; rintro e w' ⟨rfl, rfl⟩)
      all_goals (go_ret; simp)
    · rw [if_neg h2]
      go_enter Tryz.func102, Tryz.ntmps102
      go_wp2_with (go_at_call 125; refine (isNaN_c _ _).mono ?_; rintro e w' ⟨rfl, rfl⟩)
      all_goals (go_ret; simp)

theorem at1_c (f t c : Int) (w : World) (hc : 0 ≤ c) (hc' : c ≤ 100000) :
    Calls Tryz.prog 101 #[.agg #[.int .i64 f, .int .i64 t], .int .i64 c] w fun e w' => e = .returned (.int .i64 (cmpI t (c+1))) ∧ Ext [] w w' := by
  go_enter Tryz.func101, Tryz.ntmps101
  go_wp2_with (go_at_call 102; refine (cmp_c _ _ _).mono ?_; rintro e w' ⟨rfl, rfl⟩)
  go_ret
  exact ⟨rfl, (Ext.refl _ _).alloc _⟩

/-- where a cell stands in a set. -/
def Cut (s : List Rng) (c : Int) (k : Nat) : Prop := k ≤ s.length ∧ (∀ i, i < k → (s.getD i (0,0)).2 ≤ c) ∧ (∀ i, k ≤ i → i < s.length → c < (s.getD i (0,0)).2)
def Srt (s : List Rng) : Prop := ∀ i j, i < j → j < s.length → (s.getD i (0,0)).2 ≤ (s.getD j (0,0)).2
def BsfPost (s : List Rng) (c : Int) (w : World) (e : Ending) (w' : World) : Prop := ∃ (k : Nat) (b : Bool), e = .returned (.tuple #[.int .i64 k, .bool b]) ∧ Cut s c k ∧ Ext [] w w'

set_option maxHeartbeats 400000 in
theorem bsf_c (v : Value) (s : List Rng) (c : Int) (w : World) (hc : 0 ≤ c) (hc' : c ≤ 100000) (hl : s.length ≤ 1000000) (hv : ER.Rd w v s) (hs : Srt s) :
    Calls Tryz.prog 100 #[v, .int .i64 c, .func (.func 101) #[] #[]] w (BsfPost s c w) := by
  have HS := Lib.hid hs
  clear hs
  have hv0 := Lib.hid hv
  rcases hv with ⟨rfl, rfl⟩ | ⟨g, o, cap, rfl, h1, hg, _⟩
  · go_enter Tryz.func100, Tryz.ntmps100
    go_wp2
    go_loopw [9, 10, 11] (fun lo hi _ wr => lo = .int .i64 0 ∧ hi = .int .i64 0 ∧ wr = w) (fun _ _ _ _ => 0)
    case atStart => exact ⟨rfl, rfl, rfl⟩
    case round =>
      obtain ⟨rfl, rfl, rfl⟩ := hrel
      go_wp2
      go_ret2
      exact ⟨0, _, rfl, ⟨Nat.le_refl _, fun i h => by omega, fun i _ h => by simp at h⟩, Ext.refl _ _⟩
  · go_enter Tryz.func100, Tryz.ntmps100
    go_wp2
    go_loopw [9, 10, 11] (fun lo hi _ wr => ∃ a b : Nat, lo = .int .i64 a ∧ hi = .int .i64 b ∧ a ≤ b ∧ b ≤ s.length ∧ Hid (∀ i, i < a → (s.getD i (0,0)).2 ≤ c) ∧ Hid (∀ i, b ≤ i → i < s.length → c < (s.getD i (0,0)).2) ∧ Ext [] w wr)
      (fun lo hi _ _ => (intOf hi).toNat - (intOf lo).toNat)
    case atStart => exact ⟨0, s.length, rfl, rfl, Nat.zero_le _, Nat.le_refl _, fun i h => by omega, fun i h1 h2 => by omega, Ext.refl _ _⟩
    case round =>
      obtain ⟨a, b, rfl, rfl, hab, hbn, h1, h2, hB⟩ := hrel
      have hv1 := hv0.out.ext0 hB
      by_cases hlt : a < b
      · obtain ⟨hm1, hm2⟩ := ER_cells hv1 ((a+b)/2) (by omega)
        obtain ⟨x, hx⟩ : ∃ x, x = s.getD ((a+b)/2) (0,0) := ⟨_, rfl⟩
        rw [← hx] at hm1 hm2
        have HX := Lib.hid hx
        clear hx
        go_wp2_with fail
        refine (at1_c _ _ _ _ hc hc').mono ?_
        rintro e w1 ⟨rfl, hB1⟩
        unfold cmpI
        have hB2 := hB.trans hB1
        clear hB hB1 hm1 hm2 hv1
        by_cases hx2 : x.2 < c + 1
        · rw [if_pos hx2]
          go_wp2
          go_roundw
          case rel => exact ⟨(a+b)/2+1, b, by go_num, rfl, by omega, hbn, fun i hi => by
              have e := HX.out
              by_cases hi' : i = (a+b)/2
              · subst hi'; rw [← e]; omega
              · have := HS.out i ((a+b)/2) (by omega) (by omega); rw [← e] at this; omega, h2, hB2⟩
          case measure => simp [intOf]; omega
        · rw [if_neg hx2]
          have hx3 : c < x.2 := by omega
          by_cases hx4 : c + 1 < x.2
          all_goals
            go_wp2
            go_roundw
            case rel => exact ⟨a, (a+b)/2, rfl, by go_num, by omega, by omega, h1, fun i hi hi2 => by
                have e := HX.out
                by_cases hi' : i = (a+b)/2
                · subst hi'; rw [← e]; omega
                · have := HS.out ((a+b)/2) i (by omega) (by omega); rw [← e] at this; omega, hB2⟩
            case measure => simp [intOf]; omega
      · have hab' : a = b := by omega
        subst hab'
        by_cases hal : a < s.length
        · obtain ⟨hm1, hm2⟩ := ER_cells hv1 a hal
          go_wp2_with fail
          refine (at1_c _ _ _ _ hc hc').mono ?_
          rintro e w1 ⟨rfl, hB1⟩
          have hB2 := hB.trans hB1
          clear hB hB1 hm1 hm2 hv1
          go_wp2
          go_ret2
          exact ⟨a, _, rfl, ⟨hbn, h1, h2⟩, hB2⟩
        · go_wp2_with fail
          go_ret2
          exact ⟨a, _, rfl, ⟨hbn, h1, h2⟩, hB⟩

def AtPost (s : List Rng) (c : Int) (w : World) (e : Ending) (w' : World) : Prop := ∃ (k : Nat), e = .returned (.int .i64 k) ∧ Cut s c k ∧ Ext [] w w'
theorem at_c (v : Value) (s : List Rng) (c : Int) (w : World) (hc : 0 ≤ c) (hc' : c ≤ 100000) (hl : s.length ≤ 1000000) (hv : ER.Rd w v s) (hs : Srt s) :
    Calls Tryz.prog 80 #[v, .int .i64 c] w (AtPost s c w) := by
  go_enter Tryz.func80, Tryz.ntmps80
  go_wp2_with fail
  refine (bsf_c v s c _ hc hc' hl hv hs).mono ?_
  rintro e w1 ⟨k, b, rfl, hk, hB⟩
  go_wp2
  go_ret
  exact ⟨k, rfl, hk, hB⟩

/-- Clone: the same list in a new block. -/
def ClonePost {α : Type} (E : Enc α) (T : TypeId) (v : Value) (xs : List α) (w : World) (e : Ending) (w' : World) : Prop :=
  ∃ v', e = .returned v' ∧ E.Ow T w' v' xs ∧ Ext [] w w' ∧ (∀ g ∈ blkL v', w.heap.size ≤ g) ∧ (v = .slice none 0 0 ↔ v' = .slice none 0 0)

theorem clone_c (v : Value) (s : List Rng) (w : World) (hl : s.length ≤ 1000000) (hv : ER.Rd w v s) :
    Calls Tryz.prog 79 #[v] w (ClonePost ER 104 v s w) := by
  rcases hv with ⟨rfl, rfl⟩ | ⟨g, o, cap, rfl, h1, hg, hc⟩
  · have hn := fun w => Lib.run_eql_slice_nil (P := Tryz.prog) w 112 104 none 0 0 0 0 Tryz.underlying112
    go_enter Tryz.func79, Tryz.ntmps79
    go_wp2
    go_ret
    exact ⟨_, rfl, .inl ⟨rfl, rfl⟩, Ext.refl _ _, by simp [blkL], by simp⟩
  · have hn := fun w => Lib.run_eql_slice_nil (P := Tryz.prog) w 112 104 (some ⟨g, o, none⟩) s.length cap 0 0 Tryz.underlying112
    have hv0 : ER.Rd w (.slice (some ⟨g, o, none⟩) s.length cap) s := .inr ⟨g, o, cap, rfl, h1, hg, hc⟩
    have HV := Lib.hid hv0
    clear hv0 hc
    go_enter Tryz.func79, Tryz.ntmps79
    go_wp2_with (with_reducible refine hold_at (d := 7) ?_)
    refine wpl_of rfl fun K hK => opw_append (E := ER) (T := 104) (zero := (0,0)) (bytes := 16) (v := .slice (some ⟨w.heap.size, 0, none⟩) 0 0) (xs := []) (ys := s) tiR Tryz.underlying112 Tryz.underlying112 rfl rfl rfl ?_ (HV.out.ext0 ((Ext.refl _ _).alloc _)) (by simp; omega) (by simp; omega) ?_
    · exact .inr ⟨w.heap.size, 0, 0, [], rfl, heap_alloc_new w _, by simp, by simp, by simp⟩
    · intro v' w' how hext hnear hnn
      refine hK _ _ ?_
      clear hK
      go_wp2
      go_ret
      refine ⟨v', rfl, how, ((Ext.refl [] w).alloc _).trans' hext (by simp) (by simp [blkL]), ?_, ?_⟩
      · intro x hx
        rcases hnear x hx with h | h
        · simp [blkL] at h; omega
        · simp at h; omega
      · exact ⟨(fun h => by cases h), (fun h => by cases (hnn.2 h).1)⟩

end Go.Proofs.YtgfajlaibgbdoaaGreat
