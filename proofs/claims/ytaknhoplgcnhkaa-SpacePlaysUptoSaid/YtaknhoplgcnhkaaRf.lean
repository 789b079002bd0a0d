
import Derived.Test.YtaknhoplgcnhkaaLwHolds
import Derived.Test.YtaknhoplgcnhkaaSh
namespace Go.Proofs.Ytaknhoplgcnhkaa
open Go.RowKit

/-! The document's space: a state for each cell. -/

/-- it lies in block b. -/
def RfR (w : World) (b g : Nat) (h : List Int) (back : Int) : Prop := w.heap[b]? = some (.cells #[.slice (some ⟨g, 0, none⟩) h.length h.length, .int .i64 back] 74 (0, 0)) ∧ w.heap[g]? = some (.cells (EI.flat h).toArray 3 (0, 0))

theorem RfR.ext0 {w w' : World} {b g : Nat} {h : List Int} {back : Int} (r : RfR w b g h back) (he : Ext [] w w') : RfR w' b g h back := ⟨he.blk r.1 (by simp), he.blk r.2 (by simp)⟩
/-- a space of the program's is changed. -/
theorem RfR.other {w w' : World} {b g b2 : Nat} {h : List Int} {back : Int} (r : RfR w b g h back) (he : Ext [b2] w w') {c : Array Value} {f : Nat × Nat} (h2 : w.heap[b2]? = some (.cells c 68 f)) : RfR w' b g h back := by
  have n1 : b ≠ b2 := by rintro rfl; rw [r.1] at h2; cases h2
  have n2 : g ≠ b2 := by rintro rfl; rw [r.2] at h2; cases h2
  exact ⟨he.blk r.1 (by simpa using n1), he.blk r.2 (by simpa using n2)⟩

theorem cntS_le (h : List Int) (v : Int) (k : Nat) : cntS h v k ≤ k := by
  have h1 := List.countP_le_length (l := h.take k) (p := fun x => decide (x = v))
  have h2 : (h.take k).length ≤ k := by simp; omega
  exact Nat.le_trans h1 h2

set_option maxRecDepth 100000 in
theorem rcount_c (b g : Nat) (h : List Int) (back v : Int) (w : World) (hr : RfR w b g h back) (hl : h.length ≤ 40000) :
    Calls Try.prog 49 #[.pointer (some ⟨b, 0, none⟩), .int .i64 v] w fun e w' => e = .returned (.int .i64 (cntS h v h.length)) ∧ w = w' := by
  obtain ⟨hb, hg⟩ := hr
  have m0 : w.cell? ⟨b, 0, none⟩ = some (.slice (some ⟨g, 0, none⟩) h.length h.length) := by rw [cell_of_row w b 0 _ _ _ hb]; rfl
  have HG := Lib.hid hg
  obtain ⟨n, hn⟩ : ∃ n, n = h.length := ⟨_, rfl⟩
  rw [← hn] at m0 hl
  rw [← hn]
  have HN := Lib.hid hn
  clear hb hg hn
  go_enter Try.func49, Try.ntmps49
  go_wp2_with fail
  go_loopw [5, 6] (fun cv iv wr => ∃ k : Nat, k ≤ n ∧ iv = .int .i64 k ∧ cv = .int .i64 (cntS h v k) ∧ w = wr) (fun _ iv _ => n - (intOf iv).toNat)
  case atStart => exact ⟨0, Nat.zero_le _, rfl, by simp [cntS], rfl⟩
  case round =>
    obtain ⟨k, hk, rfl, rfl, rfl⟩ := hrel
    by_cases hlt : k < n
    · have z1 : (k : Int) < (n : Int) := by omega
      have hcell := row_get HG.out (j := k) (by rw [← HN.out]; exact hlt)
      have hs := cntS_succ (h := h) (v := v) (k := k) (by rw [← HN.out]; exact hlt)
      have hle := cntS_le h v k
      obtain ⟨x, hx⟩ : ∃ x, x = h.getD k 9 := ⟨_, rfl⟩
      obtain ⟨c, hc⟩ : ∃ c, c = cntS h v k := ⟨_, rfl⟩
      rw [← hx] at hcell hs
      rw [← hc] at hs hle
      rw [← hc]
      clear hx hc
      by_cases hv : x = v
      · subst hv
        rw [if_pos rfl] at hs
        have HS := Lib.hid hs
        clear hs
        go_wp2_with fail
        go_roundw
        case rel => exact ⟨k + 1, by omega, by go_num, by rw [HS.out]; go_num, trivial⟩
        case measure => simp [intOf]; omega
      · rw [if_neg hv] at hs
        have HS := Lib.hid hs
        have hv' : (x == v) = false := by simpa using hv
        clear hs
        go_wp2_with fail
        go_roundw
        case rel => exact ⟨k + 1, by omega, by go_num, by rw [HS.out]; rfl, trivial⟩
        case measure => simp [intOf]; omega
    · have z1 : ¬ ((k : Int) < (n : Int)) := by omega
      obtain rfl : k = n := by omega
      go_wp2
      go_ret
      exact ⟨rfl, rfl⟩

set_option maxRecDepth 100000 in
theorem rfree_c (b g : Nat) (h : List Int) (back : Int) (w : World) (hr : RfR w b g h back) (hl : h.length ≤ 40000) (hb0 : 0 ≤ back) (hb1 : back ≤ 40000) :
    Calls Try.prog 39 #[.pointer (some ⟨b, 0, none⟩)] w fun e w' => e = .returned (.int .i64 (cntS h 0 h.length - back)) ∧ Ext [] w w' := by
  have HR := Lib.hid hr
  obtain ⟨hb, hg⟩ := hr
  have m1 : w.cell? ⟨b, 1, none⟩ = some (.int .i64 back) := by rw [cell_of_row w b 1 _ _ _ hb]; rfl
  have hle := cntS_le h 0 h.length
  have e1 : IntKind.i64.wrap ((cntS h 0 h.length : Int) - back) = (cntS h 0 h.length : Int) - back := IntWalk.i64_in _ (by omega)
  clear hb hg
  go_enter Try.func39, Try.ntmps39
  go_wp2_with fail
  go_region_held3 (fun W => W.cell? ⟨b, 1, none⟩ = some (.int .i64 back)) (first | exact hE1.cell m1 (by simp) | go_keep)
    (first | (go_at_call 49; refine (rcount_c b g h back 0 _ (HR.out.ext0 (Ext.refl [] w).drew) hl).mono ?_; rintro e w1 ⟨rfl, rfl⟩; have hE1 : Ext [] w w.drew := (Ext.refl [] w).drew))
  go_wp2
  go_ret
  exact ⟨rfl, hE1⟩

def inH (h : List Int) (f n : Int) : Bool := decide (1 ≤ n) && decide (0 ≤ f) && decide (n ≤ h.length) && decide (f ≤ h.length - n)

set_option maxRecDepth 100000 in
theorem rin_c (b g : Nat) (h : List Int) (back f n : Int) (w : World) (hr : RfR w b g h back) (hl : h.length ≤ 40000) :
    Calls Try.prog 42 #[.pointer (some ⟨b, 0, none⟩), .int .i64 f, .int .i64 n] w fun e w' => e = .returned (.bool (inH h f n)) ∧ w = w' := by
  obtain ⟨hb, hg⟩ := hr
  have m0 : w.cell? ⟨b, 0, none⟩ = some (.slice (some ⟨g, 0, none⟩) h.length h.length) := by rw [cell_of_row w b 0 _ _ _ hb]; rfl
  obtain ⟨k, hk⟩ : ∃ n, n = h.length := ⟨_, rfl⟩
  have ein : inH h f n = (decide (1 ≤ n) && decide (0 ≤ f) && decide (n ≤ (k : Int)) && decide (f ≤ (k : Int) - n)) := by rw [hk]; rfl
  rw [← hk] at m0 hl
  rw [ein]
  clear hb hg hk ein
  by_cases g1 : 1 ≤ n
  · by_cases g2 : 0 ≤ f
    · by_cases g3 : n ≤ (k : Int)
      · by_cases g4 : f ≤ (k : Int) - n
        · go_enter Try.func42, Try.ntmps42
          go_wp2
          go_ret
          exact ⟨by first | (simp; done) | (simp; omega), rfl⟩
        · go_enter Try.func42, Try.ntmps42
          go_wp2
          go_ret
          exact ⟨by first | (simp; done) | (simp; omega), rfl⟩
      · go_enter Try.func42, Try.ntmps42
        go_wp2
        go_ret
        exact ⟨by first | (simp; done) | (simp; omega), rfl⟩
    · go_enter Try.func42, Try.ntmps42
      go_wp2
      go_ret
      exact ⟨by first | (simp; done) | (simp; omega), rfl⟩
  · go_enter Try.func42, Try.ntmps42
    go_wp2
    go_ret
    exact ⟨by first | (simp; done) | (simp; omega), rfl⟩

set_option maxRecDepth 100000 in
theorem rall_c (b g : Nat) (h : List Int) (back f n v : Int) (w : World) (hr : RfR w b g h back) (hl : h.length ≤ 40000) (hin : inH h f n = true) (r : Bool) (hA : r = true ↔ AllAre h f n v) :
    Calls Try.prog 43 #[.pointer (some ⟨b, 0, none⟩), .int .i64 f, .int .i64 n, .int .i64 v] w fun e w' => e = .returned (.bool r) ∧ w = w' := by
  obtain ⟨hb, hg⟩ := hr
  have m0 : w.cell? ⟨b, 0, none⟩ = some (.slice (some ⟨g, 0, none⟩) h.length h.length) := by rw [cell_of_row w b 0 _ _ _ hb]; rfl
  have HG := Lib.hid hg
  simp only [inH, Bool.and_eq_true, decide_eq_true_eq] at hin
  obtain ⟨l, hn⟩ : ∃ n, n = h.length := ⟨_, rfl⟩
  rw [← hn] at m0 hl hin
  obtain ⟨F, rfl⟩ : ∃ F : Nat, f = F := ⟨f.toNat, by omega⟩
  obtain ⟨N, rfl⟩ : ∃ N : Nat, n = N := ⟨n.toNat, by omega⟩
  have g1 : 1 ≤ N := by omega
  have g2 : F + N ≤ l := by omega
  have HN := Lib.hid hn
  have HR := Lib.hid hA
  clear hb hg hn hin hA
  go_enter Try.func43, Try.ntmps43
  go_wp2_with fail
  go_loopw [9] (fun iv wr => ∃ k : Nat, F ≤ k ∧ k ≤ F + N ∧ iv = .int .i64 k ∧ Hid (∀ i : Nat, F ≤ i → i < k → h.getD i 9 = v) ∧ w = wr) (fun iv _ => F + N - (intOf iv).toNat)
  case atStart => exact ⟨F, Nat.le_refl _, by omega, rfl, fun i h1 h2 => by omega, rfl⟩
  case round =>
    obtain ⟨k, hk0, hk, rfl, HA, rfl⟩ := hrel
    by_cases hlt : k < F + N
    · have z1 : (k : Int) < (F : Int) + (N : Int) := by omega
      have z2 : (k : Int) < (l : Int) := by omega
      have hcell := row_get HG.out (j := k) (by rw [← HN.out]; omega)
      by_cases hv : h.getD k 9 = v
      · have HV := Lib.hid hv
        rw [hv] at hcell
        clear hv
        go_wp2_with fail
        go_roundw
        case rel =>
          refine ⟨k + 1, by omega, by omega, by go_num, fun i h1 h2 => ?_, trivial⟩
          rcases Nat.lt_or_eq_of_le (Nat.lt_succ_iff.1 h2) with h3 | h3
          · exact HA.out i h1 h3
          · subst h3; exact HV.out
        case measure => simp [intOf]; omega
      · have hno : ¬ AllAre h F N v := fun h1 => hv (h1 k ⟨by omega, by omega⟩)
        have HNO := Lib.hid hno
        generalize h.getD k 9 = z at hv hcell
        have hz' : (z == v) = false := by simpa using hv
        clear hno
        go_wp2
        go_ret
        refine ⟨?_, rfl⟩
        cases r with
        | false => rfl
        | true => exact (HNO.out (HR.out.1 rfl)).elim
    · have z1 : ¬ ((k : Int) < (F : Int) + (N : Int)) := by omega
      go_wp2
      go_ret
      refine ⟨?_, rfl⟩
      rw [HR.out.2 (fun i hi => HA.out i (by omega) (by omega))]
      rfl

set_option maxRecDepth 100000 in
theorem rset_c (b g : Nat) (h : List Int) (back : Int) (f n v : Int) (w : World) (hr : RfR w b g h back) (hl : h.length ≤ 40000) (h0 : 0 ≤ f) (h1 : 0 ≤ n) (h2 : f + n ≤ h.length) :
    Calls Try.prog 41 #[.pointer (some ⟨b, 0, none⟩), .int .i64 f, .int .i64 n, .int .i64 v] w fun e w' => e = .returned (.tuple #[]) ∧ ∃ h', RfR w' b g h' back ∧ SetTo h h' f n v ∧ Ext [g] w w' := by
  have hbg : b ≠ g := by
    rintro rfl
    have h3 := hr.1
    rw [hr.2] at h3
    simp only [Option.some.injEq, Obj.cells.injEq] at h3
    exact absurd h3.2.1 (by decide)
  obtain ⟨hb, hg⟩ := hr
  have HB := Lib.hid hb
  obtain ⟨l, hn⟩ : ∃ n, n = h.length := ⟨_, rfl⟩
  rw [← hn] at hl h2
  obtain ⟨F, rfl⟩ : ∃ F : Nat, f = F := ⟨f.toNat, by omega⟩
  obtain ⟨N, rfl⟩ : ∃ N : Nat, n = N := ⟨n.toNat, by omega⟩
  have HN := Lib.hid hn
  have HG := Lib.hid hg
  clear hb hg hn h0 h1
  go_enter Try.func41, Try.ntmps41
  go_wp2_with fail
  go_loopw [8] (fun iv wr => ∃ (k : Nat) (h' : List Int), F ≤ k ∧ k ≤ F + N ∧ iv = .int .i64 k ∧ Ext [g] w wr ∧ Hid (wr.heap[g]? = some (.cells (EI.flat h').toArray 3 (0, 0))) ∧ Hid (SetTo h h' F ((k : Int) - F) v)) (fun iv _ => F + N - (intOf iv).toNat)
  case atStart => exact ⟨F, h, Nat.le_refl _, by omega, rfl, Ext.refl _ _, HG, by show SetTo _ _ _ _ _; rw [Int.sub_self]; exact SetTo.zero _ _ _⟩
  case round =>
    obtain ⟨k, h', hk0, hk, rfl, hE, HG', HS⟩ := hrel
    have hb' := hE.blk HB.out (by simpa using hbg)
    have m0 : wr.cell? ⟨b, 0, none⟩ = some (.slice (some ⟨g, 0, none⟩) l l) := by rw [cell_of_row wr b 0 _ _ _ hb', HN.out]; rfl
    clear hb'
    by_cases hlt : k < F + N
    · have z1 : (k : Int) < (F : Int) + (N : Int) := by omega
      have z2 : (k : Int) < (l : Int) := by omega
      have hlk : k < h'.length := by rw [HS.out.1, ← HN.out]; omega
      have hcell := row_get HG'.out hlk
      have hfz : ∀ j, wr.frozen? ⟨g, j, none⟩ = false := fun j => frozen_of_row _ _ _ _ _ HG'.out
      go_wp2_with fail
      go_roundw
      case rel =>
        refine ⟨k + 1, _, by omega, by omega, by go_num, hE.setCell (.inl (by simp)) _, row_set HG'.out k v, ?_⟩
        have h1 := HS.out.step (by omega) (by omega)
        rw [show ((F : Int) + ((k : Int) - F)).toNat = k by omega, show (k : Int) - F + 1 = ((k + 1 : Nat) : Int) - F by omega] at h1
        exact h1
      case measure => simp [intOf]; omega
    · have z1 : ¬ ((k : Int) < (F : Int) + (N : Int)) := by omega
      obtain rfl : k = F + N := by omega
      have hS := HS.out
      rw [show (((F + N : Nat) : Int) - F) = N by omega] at hS
      have HS' := Lib.hid hS
      clear hS
      go_wp2
      go_end0
      refine ⟨rfl, h', ⟨?_, HG'.out⟩, HS'.out, hE⟩
      rw [HS'.out.1]
      exact hE.blk HB.out (by simpa using hbg)

end Go.Proofs.Ytaknhoplgcnhkaa
