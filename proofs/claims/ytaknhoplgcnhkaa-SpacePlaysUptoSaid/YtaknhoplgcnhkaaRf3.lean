
import Derived.Test.YtaknhoplgcnhkaaRf2
namespace Go.Proofs.Ytaknhoplgcnhkaa
open Go.RowKit

theorem RsOf.find {h : List Int} {v : Int} {rs : List Rng} (r : RsOf h v h.length rs) {p : Rng → Bool} {f : Rng} (hf : rs.find? p = some f) : 0 ≤ f.1 ∧ f.1 < f.2 ∧ f.2 ≤ h.length := r.ends f (List.mem_of_find?_eq_some hf)

def RTake (h : List Int) (back : Int) (rs : List Rng) (n : Int) (h' : List Int) (a err : Int) : Prop :=
  (n < 1 ∧ h' = h ∧ a = 0 ∧ err = 1) ∨
  (1 ≤ n ∧ ((cntS h 0 h.length : Int) - back < n ∨ rs.find? (fitsB n) = none) ∧ h' = h ∧ a = 0 ∧ err = 5) ∨
  (1 ≤ n ∧ n ≤ (cntS h 0 h.length : Int) - back ∧ (∃ f, rs.find? (fitsB n) = some f ∧ a = f.1 ∧ SetTo h h' f.1 n 1) ∧ err = 0)

def RTakePost (b g : Nat) (h : List Int) (back n : Int) (w : World) (e : Ending) (w' : World) : Prop :=
  ∃ rs h' a err, e = .returned (.tuple #[.int .i64 a, .int .i64 err]) ∧ RsOf h 0 h.length rs ∧ RfR w' b g h' back ∧ Ext [g] w w' ∧ RTake h back rs n h' a err

/-- there are such ranges. -/
theorem rs_all (h : List Int) (v : Int) (hl : h.length ≤ 40000) : ∀ k ≤ h.length, ∃ rs, RsOf h v k rs
  | 0, _ => ⟨[], RsOf.zero _ _⟩
  | k + 1, hk => by
    obtain ⟨rs, hr⟩ := rs_all h v hl k (by omega)
    by_cases hv : h.getD k 9 = v
    · exact ⟨_, hr.add hv (by omega)⟩
    · exact ⟨_, hr.stay hv⟩

set_option maxRecDepth 100000 in
set_option maxHeartbeats 1000000 in
theorem rtake_c (b g : Nat) (h : List Int) (back n : Int) (w : World) (hr : RfR w b g h back) (hl : h.length ≤ 40000) (hb0 : 0 ≤ back) (hb1 : back ≤ 40000) (hn1 : -9223372036854775808 ≤ n) (hn2 : n ≤ 9223372036854775807) :
    Calls Try.prog 23 #[.pointer (some ⟨b, 0, none⟩), .int .i64 n] w (RTakePost b g h back n w) := by
  obtain ⟨rs, hrs⟩ := rs_all h 0 hl h.length (Nat.le_refl _)
  have HR := Lib.hid hr
  have HS := Lib.hid hrs
  have hcl := cntS_le h 0 h.length
  obtain ⟨c, hc⟩ : ∃ c, c = cntS h 0 h.length := ⟨_, rfl⟩
  have HC := Lib.hid hc
  rw [← hc] at hcl
  clear hc hrs hr
  by_cases g1 : n < 1
  · go_enter Try.func23, Try.ntmps23
    go_wp2
    go_ret2
    exact ⟨rs, h, 0, 1, rfl, HS.out, HR.out, Ext.refl _ _, .inl ⟨g1, rfl, rfl, rfl⟩⟩
  · by_cases g2 : (c : Int) - back < n
    · go_enter Try.func23, Try.ntmps23
      go_wp2_with fail
      refine (rfree_c b g h back _ HR.out hl hb0 hb1).mono ?_
      rintro e w1 ⟨rfl, hE⟩
      rw [← HC.out]
      go_wp2
      go_ret2
      exact ⟨rs, h, 0, 5, rfl, HS.out, HR.out.ext0 hE, hE.nil, .inr (.inl ⟨by omega, .inl (by rw [← HC.out]; exact g2), rfl, rfl, rfl⟩)⟩
    · go_enter Try.func23, Try.ntmps23
      go_wp2_with fail
      refine (rfree_c b g h back _ HR.out hl hb0 hb1).mono ?_
      rintro e w1 ⟨rfl, hE⟩
      rw [← HC.out]
      go_wp2_with fail
      refine (rranges_c b g h back 0 _ (HR.out.ext0 hE) hl).mono ?_
      rintro e w2 ⟨v2, rfl, rs2, how2, hrs2, hE2, hnew2⟩
      obtain rfl := hrs2.same HS.out
      have hE02 : Ext [] w w2 := hE.trans hE2
      have HR2 := Lib.hid ((HR.out.ext0 hE).ext0 hE2)
      have hgne : ∀ y ∈ blkL v2, y ≠ g := fun y hy => by
        have h1 := hnew2 y hy
        have h2 := lt_of_blk (HR.out.ext0 hE).2
        omega
      obtain ⟨p2, c2, rfl, l2⟩ := how2.rd.len_eq
      have HO2 := Lib.hid how2
      have HGN := Lib.hid hgne
      have hrl := hrs2.1.len
      obtain ⟨m, hm⟩ : ∃ m, m = rs2.length := ⟨_, rfl⟩
      rw [← hm] at hrl l2 HO2
      rw [← hm]
      have HM := Lib.hid hm
      clear hm hrs2 how2 hnew2 hE hE2 hgne
      go_wp2_with fail
      go_loopw [4, 5, 7] (fun _ _ iv wr => ∃ k : Nat, k ≤ m ∧ iv = .int .i64 k ∧ Ext [] w2 wr ∧ Hid ((rs2.take k).find? (fitsB n) = none)) (fun _ _ iv _ => m - (intOf iv).toNat)
      case atStart => exact ⟨0, Nat.zero_le _, rfl, Ext.refl _ _, rfl⟩
      case round =>
        obtain ⟨k, hk, rfl, hB, hnone⟩ := hrel
        by_cases hlt : k < m
        · have hlt' : k < rs2.length := by rw [← HM.out]; exact hlt
          obtain ⟨g5, o5, rfl⟩ : ∃ g o, p2 = some ⟨g, o, none⟩ := by
            rcases HO2.out.rd with ⟨_, h⟩ | ⟨g, o, c, h, _⟩
            · rw [h] at hlt'; simp at hlt'
            · simp only [Value.slice.injEq] at h; exact ⟨g, o, h.1⟩
          obtain ⟨hm1, hm2⟩ := ER_cells (HO2.out.rd.ext0 hB) k hlt'
          have hx0 := HS.out.1.at hlt'
          have hst : (rs2.take (k + 1)).find? (fitsB n) = if fitsB n (rs2.getD k (0,0)) then some (rs2.getD k (0,0)) else none := by
            rw [take_step hlt', List.find?_append, hnone.out]
            generalize rs2.getD k (0,0) = x
            cases hp : fitsB n x <;> simp [hp]
          obtain ⟨x, hx⟩ : ∃ x, x = rs2.getD k (0,0) := ⟨_, rfl⟩
          rw [← hx] at hm1 hm2 hx0 hst
          have HST := Lib.hid hst
          obtain ⟨x1, x2, x3⟩ := hx0
          have z1 : (k : Int) < (m : Int) := by omega
          have d0 : (0 : Int) ≤ (k : Int) := by omega
          have d1 : ((k : Nat) : Int).toNat = k := by omega
          have e1 : IntKind.i64.wrap (x.2 - x.1) = x.2 - x.1 := IntWalk.i64_in _ (by omega)
          clear hx hst hlt'
          by_cases hfit : n ≤ x.2 - x.1
          · have hfb : fitsB n x = true := by simp [fitsB]; omega
            have hfind : rs2.find? (fitsB n) = some x := by
              have h := HST.out
              rw [if_pos hfb] at h
              rw [← List.take_append_drop (k + 1) rs2, List.find?_append, h]
              rfl
            have hxe := HS.out.find hfind
            have HFIND := Lib.hid hfind
            have hm1' := hm1
            clear hfb hfind
            go_wp2_with fail
            go_quiet (fail)
            go_wp2_with fail
            refine (rset_c b g h back x.1 n 1 _ (HR2.out.ext0 (hB.drewN _)) hl (by omega) (by omega) (by omega)).mono ?_
            rintro e w5 ⟨rfl, h', hr5, hs5, hE5⟩
            have hm5 := hE5.cell (by exact (Ext.drewN (Ext.refl [] _) _).cell hm1' (by simp)) (by simpa using HGN.out g5 (by simp [blkL]))
            go_wp2
            go_ret2
            exact ⟨rs2, h', x.1, 0, rfl, HS.out, hr5, ((hE02.trans (hB.drewN _)).nil (S := [g])).trans hE5, .inr (.inr ⟨by omega, by rw [← HC.out]; omega, ⟨x, HFIND.out, rfl, hs5⟩, rfl⟩)⟩
          · have hfb : ¬ fitsB n x = true := by simp [fitsB]; omega
            have hfit' : decide (n ≤ x.2 - x.1) = false := by simpa using hfit
            have HFB := Lib.hid hfb
            clear hfb
            go_wp2_with fail
            go_quiet (fail)
            go_wp2_with fail
            go_roundw
            case rel =>
              refine ⟨k + 1, by omega, by go_num, by first | exact hB.drewN _ | exact hB, ?_⟩
              have h := HST.out
              rw [if_neg HFB.out] at h
              exact h
            case measure => simp [intOf]; omega
        · have z1 : ¬ ((k : Int) < (m : Int)) := by omega
          have hnone' : rs2.find? (fitsB n) = none := by have h := hnone.out; rwa [List.take_of_length_le (by rw [← HM.out]; omega)] at h
          have HNN := Lib.hid hnone'
          clear hnone'
          go_wp2
          go_ret2
          exact ⟨rs2, h, 0, 5, rfl, HS.out, HR2.out.ext0 hB, (hE02.trans hB).nil, .inr (.inl ⟨by omega, .inr HNN.out, rfl, rfl, rfl⟩)⟩

def RGive (h : List Int) (f n : Int) (h' : List Int) (err : Int) : Prop :=
  (inH h f n = false ∧ h' = h ∧ err = 1) ∨ (inH h f n = true ∧ ¬ AllAre h f n 1 ∧ h' = h ∧ err = 7) ∨ (inH h f n = true ∧ AllAre h f n 1 ∧ SetTo h h' f n 2 ∧ err = 0)

def RGivePost (b g : Nat) (h : List Int) (back f n : Int) (w : World) (e : Ending) (w' : World) : Prop :=
  ∃ h' err, e = .returned (.int .i64 err) ∧ RfR w' b g h' back ∧ Ext [g] w w' ∧ RGive h f n h' err

theorem inH_bounds {h : List Int} {f n : Int} (hin : inH h f n = true) : 1 ≤ n ∧ 0 ≤ f ∧ f + n ≤ h.length := by
  simp only [inH, Bool.and_eq_true, decide_eq_true_eq] at hin
  omega

set_option maxRecDepth 100000 in
theorem rgive_c (b g : Nat) (h : List Int) (back f n : Int) (w : World) (hr : RfR w b g h back) (hl : h.length ≤ 40000) :
    Calls Try.prog 24 #[.pointer (some ⟨b, 0, none⟩), .int .i64 f, .int .i64 n] w (RGivePost b g h back f n w) := by
  have HR := Lib.hid hr
  cases hin : inH h f n with
  | false =>
    go_enter Try.func24, Try.ntmps24
    go_wp2_with fail
    refine (rin_c b g h back f n _ HR.out hl).mono ?_
    rintro e w1 ⟨rfl, rfl⟩
    rw [hin]
    go_wp2
    go_ret
    exact ⟨h, 1, rfl, HR.out, Ext.refl _ _, .inl ⟨hin, rfl, rfl⟩⟩
  | true =>
    have hbd := inH_bounds hin
    by_cases hA : AllAre h f n 1
    · go_enter Try.func24, Try.ntmps24
      go_wp2_with fail
      refine (rin_c b g h back f n _ HR.out hl).mono ?_
      rintro e w1 ⟨rfl, rfl⟩
      rw [hin]
      go_wp2_with fail
      refine (rall_c b g h back f n 1 _ HR.out hl hin true ⟨fun _ => hA, fun _ => rfl⟩).mono ?_
      rintro e w1 ⟨rfl, rfl⟩
      go_wp2_with fail
      refine (rset_c b g h back f n 2 _ HR.out hl hbd.2.1 (by omega) hbd.2.2).mono ?_
      rintro e w5 ⟨rfl, h', hr5, hs5, hE5⟩
      go_wp2
      go_ret
      exact ⟨h', 0, rfl, hr5, hE5, .inr (.inr ⟨hin, hA, hs5, rfl⟩)⟩
    · go_enter Try.func24, Try.ntmps24
      go_wp2_with fail
      refine (rin_c b g h back f n _ HR.out hl).mono ?_
      rintro e w1 ⟨rfl, rfl⟩
      rw [hin]
      go_wp2_with fail
      refine (rall_c b g h back f n 1 _ HR.out hl hin false ⟨fun h => (by cases h), fun h => (hA h).elim⟩).mono ?_
      rintro e w1 ⟨rfl, rfl⟩
      go_wp2
      go_ret
      exact ⟨h, 7, rfl, HR.out, Ext.refl _ _, .inr (.inl ⟨hin, hA, rfl, rfl⟩)⟩

def RReserve (h : List Int) (back n back' err : Int) : Prop :=
  (n < -back ∧ back' = back ∧ err = 1) ∨ (-back ≤ n ∧ (cntS h 0 h.length : Int) - back < n ∧ back' = back ∧ err = 5) ∨ (-back ≤ n ∧ n ≤ (cntS h 0 h.length : Int) - back ∧ back' = back + n ∧ err = 0)

def RReservePost (b g : Nat) (h : List Int) (back n : Int) (w : World) (e : Ending) (w' : World) : Prop :=
  ∃ back' err, e = .returned (.int .i64 err) ∧ RfR w' b g h back' ∧ Ext [b] w w' ∧ RReserve h back n back' err

set_option maxRecDepth 100000 in
theorem rreserve_c (b g : Nat) (h : List Int) (back n : Int) (w : World) (hr : RfR w b g h back) (hl : h.length ≤ 40000) (hb0 : 0 ≤ back) (hb1 : back ≤ 40000) (hn1 : -9223372036854775808 ≤ n) (hn2 : n ≤ 9223372036854775807) :
    Calls Try.prog 26 #[.pointer (some ⟨b, 0, none⟩), .int .i64 n] w (RReservePost b g h back n w) := by
  have HR := Lib.hid hr
  have hbg : g ≠ b := by
    rintro rfl
    have h3 := hr.1
    rw [hr.2] at h3
    simp only [Option.some.injEq, Obj.cells.injEq] at h3
    exact absurd h3.2.1 (by decide)
  have m1 : w.cell? ⟨b, 1, none⟩ = some (.int .i64 back) := by rw [cell_of_row w b 1 _ _ _ hr.1]; rfl
  have hcl := cntS_le h 0 h.length
  obtain ⟨c, hc⟩ : ∃ c, c = cntS h 0 h.length := ⟨_, rfl⟩
  have HC := Lib.hid hc
  rw [← hc] at hcl
  clear hc hr
  have e1 : IntKind.i64.wrap (-back) = -back := IntWalk.i64_in _ (by omega)
  by_cases g1 : n < -back
  · have g0 : n < 0 := by omega
    go_enter Try.func26, Try.ntmps26
    go_wp2
    go_ret
    exact ⟨back, 1, rfl, HR.out, Ext.refl _ _, .inl ⟨g1, rfl, rfl⟩⟩
  · by_cases g0 : n < 0
    · by_cases g2 : (c : Int) - back < n
      · go_enter Try.func26, Try.ntmps26
        go_wp2_with fail
        refine (rfree_c b g h back _ HR.out hl hb0 hb1).mono ?_
        rintro e w1 ⟨rfl, hE⟩
        rw [← HC.out]
        go_wp2
        go_ret
        exact ⟨back, 5, rfl, HR.out.ext0 hE, hE.nil, .inr (.inl ⟨by omega, by rw [← HC.out]; exact g2, rfl, rfl⟩)⟩
      · go_enter Try.func26, Try.ntmps26
        go_wp2_with fail
        refine (rfree_c b g h back _ HR.out hl hb0 hb1).mono ?_
        rintro e w1 ⟨rfl, hE⟩
        rw [← HC.out]
        have hr1 := HR.out.ext0 hE
        have m2 : w1.cell? ⟨b, 1, none⟩ = some (.int .i64 back) := by rw [cell_of_row w1 b 1 _ _ _ hr1.1]; rfl
        have hfz : ∀ j, w1.frozen? ⟨b, j, none⟩ = false := fun j => frozen_of_row _ _ _ _ _ hr1.1
        have e2 : IntKind.i64.wrap (back + n) = back + n := IntWalk.i64_in _ (by omega)
        have HR1 := Lib.hid hr1
        clear hr1
        go_wp2
        go_ret
        refine ⟨back + n, 0, rfl, ⟨?_, (((Ext.refl [b] w1).setCell (.inl (by simp)) _).blk HR1.out.2 (by simpa using hbg))⟩, (hE.nil (S := [b])).setCell (.inl (by simp)) _, .inr (.inr ⟨by omega, by rw [← HC.out]; omega, rfl, rfl⟩)⟩
        rw [heap_setCell_same w1 b 1 _ _ _ HR1.out.1]
        rfl
    · by_cases g2 : (c : Int) - back < n
      · go_enter Try.func26, Try.ntmps26
        go_wp2_with fail
        refine (rfree_c b g h back _ HR.out hl hb0 hb1).mono ?_
        rintro e w1 ⟨rfl, hE⟩
        rw [← HC.out]
        go_wp2
        go_ret
        exact ⟨back, 5, rfl, HR.out.ext0 hE, hE.nil, .inr (.inl ⟨by omega, by rw [← HC.out]; exact g2, rfl, rfl⟩)⟩
      · go_enter Try.func26, Try.ntmps26
        go_wp2_with fail
        refine (rfree_c b g h back _ HR.out hl hb0 hb1).mono ?_
        rintro e w1 ⟨rfl, hE⟩
        rw [← HC.out]
        have hr1 := HR.out.ext0 hE
        have m2 : w1.cell? ⟨b, 1, none⟩ = some (.int .i64 back) := by rw [cell_of_row w1 b 1 _ _ _ hr1.1]; rfl
        have hfz : ∀ j, w1.frozen? ⟨b, j, none⟩ = false := fun j => frozen_of_row _ _ _ _ _ hr1.1
        have e2 : IntKind.i64.wrap (back + n) = back + n := IntWalk.i64_in _ (by omega)
        have HR1 := Lib.hid hr1
        clear hr1
        go_wp2
        go_ret
        refine ⟨back + n, 0, rfl, ⟨?_, (((Ext.refl [b] w1).setCell (.inl (by simp)) _).blk HR1.out.2 (by simpa using hbg))⟩, (hE.nil (S := [b])).setCell (.inl (by simp)) _, .inr (.inr ⟨by omega, by rw [← HC.out]; omega, rfl, rfl⟩)⟩
        rw [heap_setCell_same w1 b 1 _ _ _ HR1.out.1]
        rfl

def RSettlePost (b g : Nat) (h : List Int) (back : Int) (w : World) (e : Ending) (w' : World) : Prop :=
  ∃ h', e = .returned (.int .i64 (cntS h 2 h.length)) ∧ RfR w' b g h' back ∧ Ext [g] w w' ∧ Loosed h h' h.length

set_option maxRecDepth 100000 in
theorem rsettle_c (b g : Nat) (h : List Int) (back : Int) (w : World) (hr : RfR w b g h back) (hl : h.length ≤ 40000) :
    Calls Try.prog 25 #[.pointer (some ⟨b, 0, none⟩)] w (RSettlePost b g h back w) := by
  have hbg : b ≠ g := by
    rintro rfl
    have h3 := hr.1
    rw [hr.2] at h3
    simp only [Option.some.injEq, Obj.cells.injEq] at h3
    exact absurd h3.2.1 (by decide)
  obtain ⟨hb, hg⟩ := hr
  have HB := Lib.hid hb
  have HG := Lib.hid hg
  obtain ⟨n, hn⟩ : ∃ n, n = h.length := ⟨_, rfl⟩
  rw [← hn] at hl
  have HN := Lib.hid hn
  clear hb hg hn
  go_enter Try.func25, Try.ntmps25
  go_wp2_with fail
  go_loopw [3, 4] (fun cv iv wr => ∃ (k : Nat) (h' : List Int), k ≤ n ∧ iv = .int .i64 k ∧ cv = .int .i64 (cntS h 2 k) ∧ Ext [g] w wr ∧ Hid (wr.heap[g]? = some (.cells (EI.flat h').toArray 3 (0, 0))) ∧ Hid (Loosed h h' k)) (fun _ iv _ => n - (intOf iv).toNat)
  case atStart => exact ⟨0, h, Nat.zero_le _, rfl, by simp [cntS], Ext.refl _ _, HG, Loosed.zero _⟩
  case round =>
    obtain ⟨k, h', hk, rfl, rfl, hE, HG', HS⟩ := hrel
    have hb' := hE.blk HB.out (by simpa using hbg)
    have m0 : wr.cell? ⟨b, 0, none⟩ = some (.slice (some ⟨g, 0, none⟩) n n) := by rw [cell_of_row wr b 0 _ _ _ hb', HN.out]; rfl
    have HB' := Lib.hid hb'
    clear hb'
    have hle := cntS_le h 2 k
    by_cases hlt : k < n
    · have z1 : (k : Int) < (n : Int) := by omega
      have hkh : k < h.length := by rw [← HN.out]; exact hlt
      have hlk : k < h'.length := by rw [HS.out.1]; exact hkh
      have hcell := row_get HG'.out hlk
      have hfz : ∀ j, wr.frozen? ⟨g, j, none⟩ = false := fun j => frozen_of_row _ _ _ _ _ HG'.out
      have hs := cntS_succ (v := 2) hkh
      rw [HS.out.2 k hkh, if_neg (by omega)] at hcell
      by_cases hv : h.getD k 9 = 2
      · rw [if_pos hv] at hs
        rw [hv] at hcell
        have hst := HS.out.step hv
        have HS' := Lib.hid hs
        have HST := Lib.hid hst
        clear hs hst hv hkh
        obtain ⟨c, hc⟩ : ∃ c, c = cntS h 2 k := ⟨_, rfl⟩
        rw [← hc] at hle HS'
        rw [← hc]
        clear hc
        go_wp2_with fail
        go_roundw
        case rel => exact ⟨k + 1, _, by omega, by go_num, by rw [HS'.out]; go_num, hE.setCell (.inl (by simp)) _, row_set HG'.out k 0, HST⟩
        case measure => simp [intOf]; omega
      · rw [if_neg hv] at hs
        have hst := HS.out.stay hv
        have HS' := Lib.hid hs
        have HST := Lib.hid hst
        generalize h.getD k 9 = z at hv hcell
        have hz' : (z == 2) = false := by simpa using hv
        clear hs hst hkh
        go_wp2_with fail
        go_roundw
        case rel => exact ⟨k + 1, h', by omega, by go_num, by rw [HS'.out]; rfl, hE, HG', HST⟩
        case measure => simp [intOf]; omega
    · have z1 : ¬ ((k : Int) < (n : Int)) := by omega
      obtain rfl : k = n := by omega
      go_wp2
      go_ret
      refine ⟨h', by rw [← HN.out]; rfl, ⟨?_, HG'.out⟩, hE, by rw [← HN.out]; exact HS.out⟩
      rw [HS.out.1]
      exact HB'.out

end Go.Proofs.Ytaknhoplgcnhkaa
