
import Derived.Test.YtgfajlaibgbdoaaGreatPa
import Derived.Test.YtgfajlaibgbdoaaGreatSt
namespace Go.Proofs.YtgfajlaibgbdoaaGreat
open Go.RowKit

theorem EI_cell {w : World} {g o n cap : Nat} {s : List Int} (h : EI.Rd w (.slice (some ⟨g, o, none⟩) n cap) s) (i : Nat) (hi : i < s.length) : w.cell? ⟨g, o + i, none⟩ = some (.int .i64 (s.getD i 0)) := by
  have h1 := h.cells i 0 hi (by decide)
  have e : s.getD i 0 = s[i] := by simp [List.getD, hi]
  rw [e]
  simpa [EI] using h1

theorem containsI_c (v : Value) (l : List Int) (x : Int) (w : World) (hv : EI.Rd w v l) (hl : l.length ≤ 100000) :
    Calls Tryz.prog 63 #[v, .int .i64 x] w fun e w' => e = .returned (.bool (decide (x ∈ l))) ∧ Ext [] w w' := by
  obtain ⟨p, c, rfl, _⟩ := hv.len_eq
  have HV := Lib.hid hv
  obtain ⟨n, hn⟩ : ∃ n, n = l.length := ⟨_, rfl⟩
  rw [← hn] at hv hl ⊢
  have HN := Lib.hid hn
  clear hv hn
  have hi : Calls Tryz.prog 91 #[.slice p n c, .int .i64 x] w fun e w' => ∃ k : Int, e = .returned (.int .i64 k) ∧ (0 ≤ k ↔ x ∈ l) ∧ Ext [] w w' := by
    go_enter Tryz.func91, Tryz.ntmps91
    go_wp2_with fail
    go_loopw [5, 8] (fun _ iv wr => ∃ k : Nat, k ≤ n ∧ iv = .int .i64 k ∧ Hid (∀ i : Nat, i < k → l.getD i 0 ≠ x) ∧ Ext [] w wr) (fun _ iv _ => n - (intOf iv).toNat)
    case atStart => exact ⟨0, by omega, rfl, fun i h => by omega, Ext.refl _ _⟩
    case round =>
      obtain ⟨k, hk, rfl, HA, hE⟩ := hrel
      by_cases hlt : k < n
      · have z1 : (k : Int) < (n : Int) := by omega
        obtain ⟨g, o, rfl⟩ : ∃ g o, p = some ⟨g, o, none⟩ := by
          rcases HV.out with ⟨h, h2⟩ | ⟨g, o, c, h, _⟩
          · have := HN.out; rw [h2] at this; simp at this; omega
          · simp only [Value.slice.injEq] at h; exact ⟨g, o, h.1⟩
        have hcell := EI_cell (HV.out.ext0 hE) k (by rw [← HN.out]; exact hlt)
        by_cases hx : l.getD k 0 = x
        · rw [hx] at hcell
          have HX := Lib.hid hx
          clear hx
          go_wp2_with fail
          go_ret
          refine ⟨k, rfl, ⟨fun _ => ?_, fun _ => by omega⟩, hE⟩
          rw [← HX.out]
          have h := HN.out
          rw [List.getD_eq_getElem?_getD, List.getElem?_eq_getElem (by omega)]
          exact List.getElem_mem _
        · have HX := Lib.hid hx
          generalize l.getD k 0 = z at hx hcell
          have hz' : (x == z) = false := by simpa using fun h => hx h.symm
          clear hx
          go_wp2_with fail
          go_roundw
          case rel =>
            refine ⟨k + 1, by omega, by go_num, fun i h2 => ?_, hE⟩
            rcases Nat.lt_or_eq_of_le (Nat.lt_succ_iff.1 h2) with h3 | h3
            · exact HA.out i h3
            · subst h3; exact HX.out
          case measure => simp [intOf]; omega
      · have z1 : ¬ ((k : Int) < (n : Int)) := by omega
        go_wp2
        go_ret
        refine ⟨-1, rfl, ⟨fun h => by omega, fun h => ?_⟩, hE⟩
        obtain ⟨i, hi, he⟩ := List.getElem_of_mem h
        have h1 := HN.out
        have h2 := HA.out i (by omega)
        rw [List.getD_eq_getElem?_getD, List.getElem?_eq_getElem hi] at h2
        exact absurd he h2
  have HI := Lib.hid hi
  clear hi
  go_enter Tryz.func63, Tryz.ntmps63
  go_wp2_with fail
  refine HI.out.mono ?_
  rintro e W ⟨k, rfl, hk, hE⟩
  have hd : decide (0 ≤ k) = decide (x ∈ l) := by simp [hk]
  have HD := Lib.hid hd
  clear hk hd
  go_wp2
  go_ret
  exact ⟨by rw [← HD.out]; rfl, hE⟩

end Go.Proofs.YtgfajlaibgbdoaaGreat
