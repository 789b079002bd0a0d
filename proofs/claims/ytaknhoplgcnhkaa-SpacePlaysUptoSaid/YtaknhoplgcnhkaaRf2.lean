
import Derived.Test.YtaknhoplgcnhkaaRf
import Derived.Test.YtaknhoplgcnhkaaSpH
import Derived.BigQuiet
namespace Go.Proofs.Ytaknhoplgcnhkaa
open Go.RowKit

/-- the ranges of a state, among the first k cells. -/
def RsOf (h : List Int) (v : Int) (k : Nat) (rs : List Rng) : Prop := Ok rs ∧ ∀ c : Int, Mem rs c ↔ (0 ≤ c ∧ c < k ∧ h.getD c.toNat 9 = v)

theorem RsOf.zero (h : List Int) (v : Int) : RsOf h v 0 [] := ⟨Ok.nil, fun c => ⟨fun h => (Mem_nil h).elim, fun h => by omega⟩⟩
theorem RsOf.stay {h : List Int} {v : Int} {k : Nat} {rs : List Rng} (r : RsOf h v k rs) (hk : h.getD k 9 ≠ v) : RsOf h v (k + 1) rs := by
  refine ⟨r.1, fun c => ?_⟩
  rw [r.2 c]
  constructor
  · rintro ⟨h1, h2, h3⟩; exact ⟨h1, by omega, h3⟩
  · rintro ⟨h1, h2, h3⟩
    refine ⟨h1, ?_, h3⟩
    rcases Int.lt_or_le c k with h4 | h4
    · exact h4
    · have e : c.toNat = k := by omega
      rw [e] at h3
      exact (hk h3).elim
theorem RsOf.ends {h : List Int} {v : Int} {k : Nat} {rs : List Rng} (r : RsOf h v k rs) : ∀ x ∈ rs, 0 ≤ x.1 ∧ x.1 < x.2 ∧ x.2 ≤ k := by
  intro x hx
  have h1 := r.1.2 x hx
  have h2 := (r.2 (x.2 - 1)).1 ⟨x, hx, by omega, by omega⟩
  omega
theorem RsOf.add {h : List Int} {v : Int} {k : Nat} {rs : List Rng} (r : RsOf h v k rs) (hk : h.getD k 9 = v) (hl : k < 40000) : RsOf h v (k + 1) (addR rs ((k : Int), (k : Int) + 1) []) := by
  obtain ⟨h1, h2, _⟩ := addR_ok (A := rs) (B := []) (r := ((k : Int), (k : Int) + 1)) (by simpa using r.1) (by simp only; omega) (fun x hx => (r.ends x hx).2.2) (by simp)
  refine ⟨h1, fun c => ?_⟩
  rw [h2 c, List.append_nil, r.2 c]
  simp only
  constructor
  · rintro (⟨h3, h4, h5⟩ | ⟨h3, h4⟩)
    · exact ⟨h3, by omega, h5⟩
    · have e : c.toNat = k := by omega
      exact ⟨by omega, by omega, by rw [e]; exact hk⟩
  · rintro ⟨h3, h4, h5⟩
    rcases Int.lt_or_le c k with h6 | h6
    · exact .inl ⟨h3, h6, h5⟩
    · exact .inr ⟨h6, by omega⟩
theorem RsOf.same {h : List Int} {v : Int} {k : Nat} {rs rs' : List Rng} (r : RsOf h v k rs) (r' : RsOf h v k rs') : rs = rs' := r.1.ext r'.1 (fun c => by rw [r.2, r'.2])

theorem addR_join {rs : List Rng} {k : Int} (hne : 0 < rs.length) (h : (rs.getD (rs.length - 1) (0,0)).2 = k) : addR rs (k, k + 1) [] = rs.set (rs.length - 1) ((rs.getD (rs.length - 1) (0,0)).1, k + 1) := by
  rcases List.eq_nil_or_concat rs with e | ⟨A, y, e⟩
  · subst e; simp at hne
  · rw [List.concat_eq_append] at e
    subst e
    have e1 : (A ++ [y]).length - 1 = A.length := by simp
    have e2 : (A ++ [y]).getD A.length (0,0) = y := by simp [List.getD]
    rw [e1, e2] at h
    rw [e1, e2, addR_eq]
    simp [h, addT]
theorem addR_new {rs : List Rng} {k : Int} (h : 0 < rs.length → (rs.getD (rs.length - 1) (0,0)).2 ≠ k) : addR rs (k, k + 1) [] = rs ++ [(k, k + 1)] := by
  rcases List.eq_nil_or_concat rs with e | ⟨A, y, e⟩
  · subst e; rfl
  · rw [List.concat_eq_append] at e
    subst e
    have e1 : (A ++ [y]).length - 1 = A.length := by simp
    have e2 : (A ++ [y]).getD A.length (0,0) = y := by simp [List.getD]
    have h1 := h (by simp)
    rw [e1, e2] at h1
    rw [addR_eq]
    simp [h1, addT]

theorem blk_setT {T : TypeId} {w : World} {g j o : Nat} {l : List Rng} (hg : w.heap[g]? = some (.cells (ER.flat l).toArray T (0, 0))) (h : j < l.length) (ho : o = j * 2 + 1) (b : Int) :
    (w.setCell ⟨g, o, none⟩ (.int .i64 b)).heap[g]? = some (.cells (ER.flat (l.set j ((l.getD j (0,0)).1, b))).toArray T (0, 0)) := by
  subst ho
  rw [heap_setCell_same w g _ _ _ _ hg]
  congr 2
  apply Array.ext'
  simp only [Array.toList_setIfInBounds]
  exact flat_set h 1 _ _ rfl (by omega)

/-- the end of a range is set in its place. -/
theorem ER_setTo {T : TypeId} {w : World} {g o n cap : Nat} {xs : List Rng} (h : ER.Ow T w (.slice (some ⟨g, o, none⟩) n cap) xs) {j : Nat} (hj : j < xs.length) :
    (∀ u, w.frozen? ⟨g, u, none⟩ = false) ∧ ∀ y, ER.Ow T (w.setCell ⟨g, o + j * 2 + 1, none⟩ (.int .i64 y)) (.slice (some ⟨g, o, none⟩) n cap) (xs.set j ((xs.getD j (0,0)).1, y)) := by
  rcases h with ⟨h, _⟩ | ⟨g', q, c, l, h, hg, h1, h2, h3⟩
  · cases h
  · simp only [Value.slice.injEq, Option.some.injEq, Addr.mk.injEq] at h
    obtain ⟨⟨rfl, rfl, _⟩, rfl, rfl⟩ := h
    have hqj : q + j < l.length := by omega
    refine ⟨fun u => frozen_of_row _ _ _ _ _ hg, fun y => ?_⟩
    have hg2 := blk_setT hg hqj (o := q * ER.k + j * 2 + 1) (by show q * 2 + j * 2 + 1 = _; omega) y
    have e : l.getD (q + j) (0,0) = xs.getD j (0,0) := by
      have h4 := congrArg (fun (z : List Rng) => z.getD j (0,0)) h3
      simp only [List.getD, List.getElem?_take, if_pos hj, List.getElem?_drop] at h4
      exact h4
    rw [e] at hg2
    refine .inr ⟨g, q, cap, _, by rw [List.length_set], hg2, by rw [List.length_set]; exact h1, by rw [List.length_set]; exact h2, ?_⟩
    have h5 := win_set l q j xs.length ((xs.getD j (0,0)).1, y) hj
    simp only [win] at h5
    rw [List.length_set, h5, h3]

theorem tiRR : Ti Try.prog ER 40 16 (0, 0) := Ti.mk' (z := .agg #[.int .i64 0, .int .i64 0]) (by kernel_rfl) rfl

theorem one_rdR {T : TypeId} (W0 : World) (f k : Int) : ER.Rd (W0.alloc (.cells #[.int .i64 f, .int .i64 k] T)) (.slice (some ⟨W0.heap.size, 0, none⟩) 1 1) [(f, k)] := by
  refine .inr ⟨W0.heap.size, 0, 1, rfl, Nat.le_refl _, by simp, fun j u hj => ?_⟩
  rw [cell_of_row _ W0.heap.size _ _ _ _ (heap_alloc_new _ _)]
  match j, hj with
  | 0, hj => exact hj
  | 1, hj => exact hj
  | j + 2, hj => simp [ER, Enc.flat] at hj

set_option maxRecDepth 100000 in
set_option maxHeartbeats 1000000 in
theorem rranges_c (b g : Nat) (h : List Int) (back v : Int) (w : World) (hr : RfR w b g h back) (hl : h.length ≤ 40000) :
    Calls Try.prog 40 #[.pointer (some ⟨b, 0, none⟩), .int .i64 v] w fun e w' => ∃ vv, e = .returned vv ∧ ∃ rs, ER.Ow 40 w' vv rs ∧ RsOf h v h.length rs ∧ Ext [] w w' ∧ ∀ y ∈ blkL vv, w.heap.size ≤ y := by
  have HR := Lib.hid hr
  obtain ⟨n, hn⟩ : ∃ n, n = h.length := ⟨_, rfl⟩
  rw [← hn] at hl
  rw [← hn]
  have HN := Lib.hid hn
  clear hr hn
  go_enter Try.func40, Try.ntmps40
  go_wp2_with fail
  go_loopw [5, 6] (fun ov iv wr => ∃ (k : Nat) (rs : List Rng), k ≤ n ∧ iv = .int .i64 k ∧ Ext [] w wr ∧ Hid (RsOf h v k rs) ∧ Hid (ER.Ow 40 wr ov rs ∧ ∀ y ∈ blkL ov, w.heap.size ≤ y)) (fun _ iv _ => n - (intOf iv).toNat)
  case atStart => exact ⟨0, [], Nat.zero_le _, rfl, Ext.refl _ _, RsOf.zero _ _, .inl ⟨rfl, rfl⟩, by simp [blkL]⟩
  case round =>
    obtain ⟨k, rs, hk, rfl, hE, HS, HO⟩ := hrel
    have m0 : wr.cell? ⟨b, 0, none⟩ = some (.slice (some ⟨g, 0, none⟩) n n) := by rw [cell_of_row wr b 0 _ _ _ (HR.out.ext0 hE).1, HN.out]; rfl
    by_cases hlt : k < n
    · have z1 : (k : Int) < (n : Int) := by omega
      have hcell := row_get (HR.out.ext0 hE).2 (j := k) (by rw [← HN.out]; exact hlt)
      have hrl := HS.out.1.len
      by_cases hv : h.getD k 9 = v
      · have hadd := HS.out.add hv (by omega)
        have HADD := Lib.hid hadd
        rw [hv] at hcell
        clear hv hadd
        obtain ⟨p5, c5, rfl, l5⟩ := HO.out.1.rd.len_eq
        by_cases h0 : 0 < rs.length
        · obtain ⟨g5, o5, rfl⟩ : ∃ g o, p5 = some ⟨g, o, none⟩ := by
            rcases HO.out.1.rd with ⟨_, h⟩ | ⟨g, o, c, h, _⟩
            · rw [h] at h0; simp at h0
            · simp only [Value.slice.injEq] at h; exact ⟨g, o, h.1⟩
          obtain ⟨hm1, hm2⟩ := ER_cells HO.out.1.rd (rs.length - 1) (by omega)
          obtain ⟨hfz, hset⟩ := ER_setTo HO.out.1 (j := rs.length - 1) (by omega)
          have hjn := addR_join (rs := rs) (k := (k : Int)) h0
          have hnw := addR_new (rs := rs) (k := (k : Int))
          have hgn := HO.out.2 g5 (by simp [blkL])
          obtain ⟨y, hy⟩ : ∃ y, y = rs.getD (rs.length - 1) (0,0) := ⟨_, rfl⟩
          rw [← hy] at hm1 hm2 hset hjn hnw
          obtain ⟨m, hm⟩ : ∃ m, m = rs.length := ⟨_, rfl⟩
          rw [← hm] at h0 l5 hrl hm1 hm2 hset hjn hnw HO
          rw [← hm]
          have HM := Lib.hid hm
          clear hy hm
          have z0 : (0 : Int) < (m : Int) := by omega
          have z2 : IntKind.i64.wrap ((m : Int) - 1) = (m : Int) - 1 := IntWalk.i64_in _ (by omega)
          have z3 : ((m : Int) - 1).toNat = m - 1 := by omega
          have z4 : (0 : Int) ≤ (m : Int) - 1 := by omega
          have z5 : (m : Int) - 1 < (m : Int) := by omega
          have HSET := Lib.hid hset
          by_cases hyk : y.2 = (k : Int)
          · have HNEW := Lib.hid (hjn hyk)
            rw [hyk] at hm2
            clear hset hjn hnw hyk
            go_wp2_with fail
            generalize hWW : World.setCell _ _ _ = W7
            have hw7 : Ext [] w W7 := by rw [← hWW]; exact hE.setCell (.inr hgn) _
            have how7 := HSET.out ((k : Int) + 1)
            have hW7 : W7 = wr.setCell ⟨g5, o5 + (m - 1) * 2 + 1, none⟩ (.int .i64 ((k : Int) + 1)) := by rw [← hWW]
            rw [← hW7] at how7
            have HW7 := Lib.hid how7
            clear how7 hW7 hWW
            go_roundw
            case rel => exact ⟨k + 1, addR rs ((k : Int), (k : Int) + 1) [], by omega, by go_num, hw7, HADD.out, ⟨by rw [HNEW.out]; exact HW7.out, HO.out.2⟩⟩
            case measure => simp [intOf]; omega
          · have HNEW := Lib.hid (hnw (fun _ => hyk))
            have hyk' : (y.2 == (k : Int)) = false := by simpa using hyk
            clear hset hjn hnw HSET
            go_wp2_with (with_reducible refine hold_at (d := 53) ?_)
            refine wpl_of rfl fun K hK => opw_append (E := ER) (T := 40) (zero := (0,0)) (bytes := 16) (v := .slice (some ⟨g5, o5, none⟩) m c5) (xs := rs) (ys := [((k : Int), (k : Int) + 1)]) tiRR Try.underlying37 Try.underlying37 rfl rfl rfl (HO.out.1.ext0 ((Ext.refl [] _).alloc _)) (one_rdR _ _ _) (by have := HS.out.1.len; simp; omega) (by have := HS.out.1.len; simp; omega) ?_
            intro v6 W6 how6 hE6 hnear6 _
            refine hK _ _ ?_
            clear hK
            have hw6 : Ext [] w W6 := (hE.alloc _).trans' hE6 (by simp) (fun y hy => .inr (HO.out.2 y hy))
            have hn6 : ∀ y ∈ blkL v6, w.heap.size ≤ y := fun y hy => by
              rcases hnear6 y hy with h | h
              · exact HO.out.2 y h
              · have h1 := hE.size
                have h2 : wr.heap.size + 1 ≤ y := by simpa using h
                omega
            have HW6 := Lib.hid how6
            have HN6 := Lib.hid hn6
            clear how6 hE6 hnear6 hn6
            go_wp2
            go_roundw
            case rel => exact ⟨k + 1, addR rs ((k : Int), (k : Int) + 1) [], by omega, by go_num, hw6, HADD.out, ⟨by rw [HNEW.out]; exact HW6.out, HN6.out⟩⟩
            case measure => simp [intOf]; omega
        · have z0 : ¬ ((0 : Int) < ((rs.length : Nat) : Int)) := by omega
          have z0' : decide ((0 : Int) < ((rs.length : Nat) : Int)) = false := by simpa using z0
          have HNEW := Lib.hid (addR_new (rs := rs) (k := (k : Int)) (fun h => (h0 h).elim))
          go_wp2_with (with_reducible refine hold_at (d := 53) ?_)
          refine wpl_of rfl fun K hK => opw_append (E := ER) (T := 40) (zero := (0,0)) (bytes := 16) (v := .slice p5 rs.length c5) (xs := rs) (ys := [((k : Int), (k : Int) + 1)]) tiRR Try.underlying37 Try.underlying37 rfl rfl rfl (HO.out.1.ext0 ((Ext.refl [] _).alloc _)) (one_rdR _ _ _) (by have := HS.out.1.len; simp; omega) (by have := HS.out.1.len; simp; omega) ?_
          intro v6 W6 how6 hE6 hnear6 _
          refine hK _ _ ?_
          clear hK
          have hw6 : Ext [] w W6 := (hE.alloc _).trans' hE6 (by simp) (fun y hy => .inr (HO.out.2 y hy))
          have hn6 : ∀ y ∈ blkL v6, w.heap.size ≤ y := fun y hy => by
            rcases hnear6 y hy with h | h
            · exact HO.out.2 y h
            · have h1 := hE.size
              have h2 : wr.heap.size + 1 ≤ y := by simpa using h
              omega
          have HW6 := Lib.hid how6
          have HN6 := Lib.hid hn6
          clear how6 hE6 hnear6 hn6
          go_wp2
          go_roundw
          case rel => exact ⟨k + 1, addR rs ((k : Int), (k : Int) + 1) [], by omega, by go_num, hw6, HADD.out, ⟨by rw [HNEW.out]; exact HW6.out, HN6.out⟩⟩
          case measure => simp [intOf]; omega
      · have hst := HS.out.stay hv
        have HST := Lib.hid hst
        generalize h.getD k 9 = z at hv hcell
        have hz' : (z == v) = false := by simpa using hv
        clear hst
        go_wp2_with fail
        go_roundw
        case rel => exact ⟨k + 1, rs, by omega, by go_num, hE, HST, HO⟩
        case measure => simp [intOf]; omega
    · have z1 : ¬ ((k : Int) < (n : Int)) := by omega
      obtain rfl : k = n := by omega
      go_wp2
      go_ret
      exact ⟨_, rfl, rs, HO.out.1, HS.out, hE, HO.out.2⟩

end Go.Proofs.Ytaknhoplgcnhkaa
