
import Derived.Test.YtgfajlaibgbdoaaGreatSpD
namespace Go.Proofs.YtgfajlaibgbdoaaGreat
open Go.RowKit

set_option maxHeartbeats 1000000 in
theorem delete_c (g q cap : Nat) (l xs : List Rng) (i j : Nat) (w : World) (hg : w.heap[g]? = some (.cells (ER.flat l).toArray 104 (0, 0))) (hcap : xs.length ≤ cap) (hq : q + cap ≤ l.length) (hxs : win l q xs.length = xs)
    (hij : i < j) (hj : j ≤ xs.length) (hl : xs.length ≤ 1000000) :
    Calls Tryz.prog 83 #[.slice (some ⟨g, q * 2, none⟩) xs.length cap, .int .i64 i, .int .i64 j] w (InsPost ER 104 (.slice (some ⟨g, q * 2, none⟩) xs.length cap) (xs.take i ++ xs.drop j) w) := by
  have HG := Lib.hid hg
  have HX := Lib.hid hxs
  have e1 : (xs.take i).length = i := by simp; omega
  have ekk : (xs.drop j).length = xs.length - j := by simp
  have e3 : (xs.take i ++ xs.drop j).length = i + (xs.length - j) := by simp; omega
  clear hg hxs
  have hci : ¬ cap = i := by omega
  have hL1 : (splice l (q + i) (xs.drop j)).length = l.length := length_splice _ _ _ (by simp; omega)
  have hz1 : (j : Int) ≤ xs.length := by omega
  have hz2 : (i : Int) ≤ cap := by omega
  by_cases hjn : j = xs.length
  · subst hjn
    have hLL : splice l (q + i) ([] : List Rng) = l := by simp [splice]
    have hcj : xs.length = cap ∨ ¬ cap = xs.length := by omega
    have ex : xs.take i ++ xs.drop xs.length = xs.take i := by simp
    rw [ex]
    rcases hcj with hcj | hcj
    all_goals
      (try subst hcj)
      go_enter Tryz.func83, Tryz.ntmps83
      go_wp2_with fail
      go_region_law ((try simp only [Act.put, List.getElem_toArray, List.getElem_cons_zero, List.getElem_cons_succ, List.setIfInBounds_toArray, List.set_cons_zero, List.set_cons_succ]); rw [if_pos (show Region.wanted _ _ = true from rfl)]; refine (opw_append_fit (s := .tmp 22) (x := .tmp 25) (E := ER) (T := 104) (zero := (0,0)) (bytes := 16) (g := g) (q := q) (n := i) (l := l) (ys := []) tiR Tryz.underlying112 Tryz.underlying112 (by rfl) (by rfl) (by rfl) (by exact HG.out) (by exact .inr ⟨g, _, _, rfl, Nat.zero_le _, lt_of_blk HG.out, fun _ _ h => by simp at h⟩) (by simp; omega) (by omega) ?_); intro w2 hb2 hext2)
      rw [hLL] at hb2
      have HB2 := Lib.hid hb2
      have hE2 : Ext [g] w w2 := (Ext.refl [g] w).drew.trans hext2
      clear hb2 hext2
      go_wp2_with (with_reducible refine hold_clear ?_)
      refine wpl_of rfl fun K hK => opw_clear (E := ER) (T := 104) (zero := (0,0)) (bytes := 16) (g := g) (q := q + i) (l := l) tiR Tryz.underlying112 rfl rfl HB2.out ?_ (by omega) ?_
      · intro hpos
        simp [Nat.add_mul]
      intro w3 hb3 hext3
      have hE : Ext [g] w w3 := hE2.trans hext3
      have HB3 := Lib.hid hb3
      clear hb3 hext3
      refine hK _ _ ?_
      clear hK
      go_wp2
      go_ret
      refine ⟨_, rfl, .inr ⟨g, q, _, _, by rw [e1]; rfl, HB3.out, by rw [e1]; omega, by rw [length_splice _ _ _ (by simp; omega)]; omega, ?_⟩, hE, fun x hx => .inl hx⟩
      rw [e1]
      show win _ _ _ = _
      apply List.ext_getElem?
      intro k
      have hx := congrArg (fun (z : List Rng) => z[k]?) HX.out
      simp only [get_win] at hx
      rw [get_win, get_splice _ _ _ _ (by omega), List.getElem?_take]
      (repeat' split) <;> first | rfl | (exfalso; omega) | (rw [← hx, if_pos (by omega)]) | (congr 1 <;> omega)
  · have hn3 : ¬ cap = i + (xs.length - j) := by omega
    have hcj : ¬ cap = j := by omega
    go_enter Tryz.func83, Tryz.ntmps83
    go_wp2_with fail
    have hsrc : ∀ W : World, W.heap[g]? = some (.cells (ER.flat l).toArray 104 (0, 0)) → ER.Rd W (.slice (some ⟨g, q * 2 + j * 2, none⟩) (xs.length - j) (cap - j)) (xs.drop j) := by
      intro W hW
      exact .inr ⟨g, _, cap - j, by rw [ekk], by rw [ekk]; omega, lt_of_blk hW, src_tail hW HX.out j⟩
    go_region_law ((try simp only [Act.put, List.getElem_toArray, List.getElem_cons_zero, List.getElem_cons_succ, List.setIfInBounds_toArray, List.set_cons_zero, List.set_cons_succ]); rw [if_pos (show Region.wanted _ _ = true from rfl)]; refine (opw_append_fit (s := .tmp 22) (x := .tmp 25) (E := ER) (T := 104) (zero := (0,0)) (bytes := 16) (g := g) (q := q) (n := i) (l := l) (ys := xs.drop j) tiR Tryz.underlying112 Tryz.underlying112 (by rfl) (by rfl) (by rfl) (by exact HG.out) (by exact hsrc _ HG.out) (by rw [ekk]; omega) hq ?_); intro w2 hb2 hext2)
    clear hsrc
    have HB2 := Lib.hid hb2
    have hE2 : Ext [g] w w2 := (Ext.refl [g] w).drew.trans hext2
    clear hb2 hext2
    go_wp2_with (with_reducible refine hold_clear ?_)
    refine wpl_of rfl fun K hK => opw_clear (E := ER) (T := 104) (zero := (0,0)) (bytes := 16) (g := g) (q := q + (i + (xs.length - j))) tiR Tryz.underlying112 rfl rfl HB2.out ?_ (by rw [hL1]; omega) ?_
    · intro hpos
      simp [Nat.add_mul]
    intro w3 hb3 hext3
    have hE : Ext [g] w w3 := hE2.trans hext3
    have HB3 := Lib.hid hb3
    clear hb3 hext3
    refine hK _ _ ?_
    clear hK
    go_wp2
    go_ret
    refine ⟨_, rfl, .inr ⟨g, q, _, _, by rw [e3]; rfl, HB3.out, by rw [e3]; omega, by rw [length_splice _ _ _ (by rw [hL1]; simp; omega), hL1]; exact hq, ?_⟩, hE, fun x hx => .inl hx⟩
    rw [e3]
    show win _ _ _ = _
    apply List.ext_getElem?
    intro k
    have hx := congrArg (fun (z : List Rng) => z[k]?) HX.out
    simp only [get_win] at hx
    rw [get_win, get_splice _ _ _ _ (by rw [hL1]; omega), get_splice _ _ _ _ (by omega)]
    simp only [List.getElem?_append, e1, List.getElem?_take, ekk, List.getElem?_drop]
    (repeat' split) <;> first | rfl | (exfalso; omega) | (rw [← hx, if_pos (by omega)]) | (congr 1 <;> omega) | (rw [List.getElem?_eq_none (by omega)])

end Go.Proofs.YtgfajlaibgbdoaaGreat
