
import Derived.Test.YtgfajlaibgbdoaaGreatSpA
import Derived.Lib.Overlaps
import Derived.Deep.RegionLaw
namespace Go.Proofs.YtgfajlaibgbdoaaGreat
open Go.RowKit

section lists
variable {α : Type}
theorem get_splice (l ys : List α) (i j : Nat) (h : i ≤ l.length) : (splice l i ys)[j]? = if j < i then l[j]? else if j < i + ys.length then ys[j - i]? else l[j]? := by
  unfold splice
  have e1 : (List.take i l).length = i := by simp; omega
  rw [List.getElem?_append, List.getElem?_append, e1, List.getElem?_take, List.getElem?_drop]
  split
  · rfl
  · split
    · rw [if_pos (by omega)]
    · rw [if_neg (by omega)]; congr 1; omega
/-- the elements of a window. -/
def win (l : List α) (q n : Nat) : List α := (l.drop q).take n
theorem get_win (l : List α) (q n j : Nat) : (win l q n)[j]? = if j < n then l[q + j]? else none := by
  unfold win; rw [List.getElem?_take, List.getElem?_drop]
theorem length_win (l : List α) (q n : Nat) (h : q + n ≤ l.length) : (win l q n).length = n := by simp [win]; omega
theorem win_splice (l ys : List α) (q i n : Nat) (h1 : i + ys.length ≤ n) (h2 : q + n ≤ l.length) : win (splice l (q + i) ys) q n = splice (win l q n) i ys := by
  apply List.ext_getElem?
  intro j
  rw [get_win, get_splice _ _ _ _ (by omega), get_splice _ _ _ _ (by rw [length_win _ _ _ h2]; omega), get_win]
  by_cases hj : j < n
  · rw [if_pos hj, if_pos hj]
    by_cases h3 : j < i
    · rw [if_pos (by omega), if_pos h3]
    · rw [if_neg (by omega), if_neg h3]
      by_cases h4 : j < i + ys.length
      · rw [if_pos (by omega), if_pos h4]; congr 1; omega
      · rw [if_neg (by omega), if_neg h4]
  · rw [if_neg hj, if_neg hj, if_neg (by omega), if_neg (by omega)]
theorem splice_fill2 (A R ys B : List α) (i : Nat) (hi : A.length = i) (hR : R.length = ys.length + B.length) : splice (splice (A ++ R) i ys) (i + ys.length) B = A ++ ys ++ B := by
  apply List.ext_getElem?
  intro j
  rw [get_splice _ _ _ _ (by rw [length_splice _ _ _ (by simp; omega)]; simp; omega), get_splice _ _ _ _ (by simp; omega)]
  simp only [List.append_assoc, List.getElem?_append, hi]
  (repeat' split) <;> first | rfl | (exfalso; omega) | (congr 1; omega) | (rw [List.getElem?_eq_none (by omega), List.getElem?_eq_none (by omega)])
theorem splice_fill3 (xs sp ys : List α) (i : Nat) (hi : i ≤ xs.length) (hs : sp.length = ys.length) : splice (splice (xs ++ sp) (i + ys.length) (xs.drop i)) i ys = xs.take i ++ ys ++ xs.drop i := by
  apply List.ext_getElem?
  intro j
  rw [get_splice _ _ _ _ (by rw [length_splice _ _ _ (by simp; omega)]; simp; omega), get_splice _ _ _ _ (by simp; omega)]
  have e1 : (List.take i xs).length = i := by simp; omega
  have e2 : (List.drop i xs).length = xs.length - i := by simp
  simp only [List.append_assoc, List.getElem?_append, e1, e2, List.getElem?_take, List.getElem?_drop]
  (repeat' split) <;> first | rfl | (exfalso; omega) | (congr 1; omega) | (rw [List.getElem?_eq_none (by omega), List.getElem?_eq_none (by omega)])
end lists

theorem overlaps_run (w : World) (a b : Addr) (la ca lb cb : Nat) (hne : a.block ≠ b.block) (tA tB : TypeId) (cA cB : Array Value)
    (hA : w.heap[a.block]? = some (.cells cA tA (0, 0))) (hB : w.heap[b.block]? = some (.cells cB tB (0, 0))) (hk : cB.size ≠ 0) :
    (callFunc 103 #[.slice (some a) la ca, .slice (some b) lb cb]).run Tryz.prog w = .ok (.value (.bool false)) w := by
  have hf : Tryz.prog.funcs[103]? = some Tryz.f103 := by kernel_rfl
  have hz : ∀ w, (Go.sizeOf 104).run Tryz.prog w = .ok 2 w := fun w => by
    obtain ⟨i, z, hi, _, hs, _⟩ := tiR.row
    simp [sizeOf, typeInfo, hi, hs]
  have hsA : w.shape? a.block = some (tA, cA.size) := by simp [World.shape?, hA]
  have hsB : w.shape? b.block = some (tB, cB.size) := by simp [World.shape?, hB]
  have h := Lib.run_overlaps_apart (P := Tryz.prog) w 60 4 104 Tryz.underlying60 2 hz a b la ca lb cb hne tA tB cA.size cB.size hsA hsB hk (by simp [World.frozen?, hA]) (by simp [World.frozen?, hA])
  rw [run_callFunc_extern (e := Extern.SlicesOverlaps.overlaps #[60, 60] #[4]) hf (by kernel_rfl) (by kernel_rfl) (by kernel_rfl) (by kernel_rfl), h]
  rfl

end Go.Proofs.YtgfajlaibgbdoaaGreat
