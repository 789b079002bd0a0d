
import Derived.Test.YtgfajlaibgbdoaaGreatOp
import Derived.Test.YtgfajlaibgbdoaaGreatRg
import Derived.Test.YtgfajlaibgbdoaaGreatSpA
namespace Go.Proofs.YtgfajlaibgbdoaaGreat
open Go.RowKit

/-! Bytes. -/
def EB : Enc UInt8 where
  k := 1
  hk := by decide
  enc x := [.int .u8 x.toNat]
  len _ := rfl
  one _ v hv := by simp at hv; subst hv; rfl

theorem tiB : Ti Tryz.prog EB 5 1 0 := Ti.mk' (z := .int .u8 0) (by kernel_rfl) rfl

theorem EB_cell {w : World} {g o n cap : Nat} {s : List UInt8} (h : EB.Rd w (.slice (some ⟨g, o, none⟩) n cap) s) (i : Nat) (hi : i < s.length) : w.cell? ⟨g, o + i, none⟩ = some (.int .u8 (s.getD i 0).toNat) := by
  have e : s.getD i 0 = s[i] := by simp [List.getD, hi]
  have h1 := h.cells i 0 hi (by decide)
  rw [e]
  simpa [EB] using h1

theorem cloneB_c (v : Value) (s : List UInt8) (w : World) (hl : s.length ≤ 1000000) (hv : EB.Rd w v s) :
    Calls Tryz.prog 31 #[v] w (ClonePost EB 5 v s w) := by
  rcases hv with ⟨rfl, rfl⟩ | ⟨g, o, cap, rfl, h1, hg, hc⟩
  · have hn := fun w => Lib.run_eql_slice_nil (P := Tryz.prog) w 40 5 none 0 0 0 0 Tryz.underlying40
    go_enter Tryz.func31, Tryz.ntmps31
    go_wp2
    go_ret
    exact ⟨_, rfl, .inl ⟨rfl, rfl⟩, Ext.refl _ _, by simp [blkL], by simp⟩
  · have hn := fun w => Lib.run_eql_slice_nil (P := Tryz.prog) w 40 5 (some ⟨g, o, none⟩) s.length cap 0 0 Tryz.underlying40
    have hv0 : EB.Rd w (.slice (some ⟨g, o, none⟩) s.length cap) s := .inr ⟨g, o, cap, rfl, h1, hg, hc⟩
    have HV := Lib.hid hv0
    clear hv0 hc
    go_enter Tryz.func31, Tryz.ntmps31
    go_wp2_with (with_reducible refine hold_at (d := 7) ?_)
    refine wpl_of rfl fun K hK => opw_append (E := EB) (T := 5) (zero := 0) (bytes := 1) (v := .slice (some ⟨w.heap.size, 0, none⟩) 0 0) (xs := []) (ys := s) tiB Tryz.underlying40 Tryz.underlying40 rfl rfl rfl ?_ (HV.out.ext0 ((Ext.refl _ _).alloc _)) (by simp; omega) (by simp; omega) ?_
    · exact .inr ⟨w.heap.size, 0, 0, [], rfl, heap_alloc_new w _, by simp, by simp, by simp⟩
    · intro v' w' how hext hnear hnn
      refine hK _ _ ?_
      clear hK
      go_wp2
      go_ret
      refine ⟨v', rfl, how, ((Ext.refl [] w).alloc _).trans' hext (by simp) (by simp [blkL]), ?_, ?_⟩
      · intro x hx
        rcases hnear x hx with h | h
        · simp [blkL] at h; omega
        · simp at h; omega
      · exact ⟨(fun h => by cases h), (fun h => by cases (hnn.2 h).1)⟩

end Go.Proofs.YtgfajlaibgbdoaaGreat
