
import Derived.Test.YtaknhoplgcnhkaaRf4
import Derived.Test.YtaknhoplgcnhkaaSpS
namespace Go.Proofs.Ytaknhoplgcnhkaa
open Go.RowKit

theorem inC_eq (h : List Int) (f n : Int) : inC h.length f n = inH h f n := by
  simp only [inC, inH]
  cases decide (1 ≤ n) <;> cases decide (0 ≤ f) <;> cases decide (n ≤ (h.length : Int)) <;> cases decide (f ≤ (h.length : Int) - n) <;> rfl

theorem rin_b (b g : Nat) (h : List Int) (back f n : Int) (r : Bool) (hin : inH h f n = r) (w : World) (hr : RfR w b g h back) (hl : h.length ≤ 40000) :
    Calls Try.prog 42 #[.pointer (some ⟨b, 0, none⟩), .int .i64 f, .int .i64 n] w fun e w' => e = .returned (.bool r) ∧ w' = w :=
  (rin_c b g h back f n w hr hl).mono fun _ _ ⟨h1, h2⟩ => ⟨by rw [h1, hin], h2.symm⟩

theorem rall_b (b g : Nat) (h : List Int) (back f n v : Int) (r : Bool) (hA : r = true ↔ AllAre h f n v) (hin : inH h f n = true) (w : World) (hr : RfR w b g h back) (hl : h.length ≤ 40000) :
    Calls Try.prog 43 #[.pointer (some ⟨b, 0, none⟩), .int .i64 f, .int .i64 n, .int .i64 v] w fun e w' => e = .returned (.bool r) ∧ w' = w :=
  (rall_c b g h back f n v w hr hl hin r hA).mono fun _ _ ⟨h1, h2⟩ => ⟨h1, h2.symm⟩

theorem StM.zero {h : List Int} (s : StM h []) : h = List.replicate h.length 0 := by
  refine List.ext_getElem (by simp) (fun i h1 h2 => ?_)
  rcases s i h1 with ⟨_, h3⟩ | ⟨h3, _⟩
  · exact (Mem_nil h3).elim
  · simp [List.getD, h1] at h3
    simp [h3]

def RRep (nc : Int) (l : List Lin) (w w' : World) (p : Option Addr) (err : Int) : Prop :=
  ((nc < 1 ∨ 40000 < nc) ∧ p = none ∧ err = 1) ∨
  (1 ≤ nc ∧ nc ≤ 40000 ∧ (∃ k h, Played (List.replicate nc.toNat 0) l k h ∧ k < l.length ∧ Bad h (l.getD k (false,0,0))) ∧ p = none ∧ err = 2) ∨
  (1 ≤ nc ∧ nc ≤ 40000 ∧ err = 0 ∧ ∃ b g h, p = some ⟨b, 0, none⟩ ∧ w.heap.size ≤ b ∧ w.heap.size ≤ g ∧ RfR w' b g h 0 ∧ (h.length : Int) = nc ∧ Played (List.replicate nc.toNat 0) l l.length h)

def RRepPost (nc : Int) (l : List Lin) (w : World) (e : Ending) (w' : World) : Prop :=
  ∃ p err, e = .returned (.tuple #[.pointer p, .int .i64 err]) ∧ Ext [] w w' ∧ RRep nc l w w' p err

set_option maxRecDepth 100000 in
set_option maxHeartbeats 2000000 in
theorem rreplay_c (nc : Int) (v : Value) (l : List Lin) (w : World) (hu : AR EL w v l) (hc1 : -9223372036854775808 ≤ nc) (hc2 : nc ≤ 9223372036854775807) (hl : l.length ≤ 9223372036854775807)
    (hg : ∀ x ∈ l, (-9223372036854775808 ≤ x.2.1 ∧ x.2.1 ≤ 9223372036854775807) ∧ (-9223372036854775808 ≤ x.2.2 ∧ x.2.2 ≤ 9223372036854775807)) :
    Calls Try.prog 30 #[.int .i64 nc, v] w (RRepPost nc l w) := by
  obtain ⟨pv, cv, rfl, hu⟩ := hu
  have HU := Lib.hid hu
  have HGD := Lib.hid hg
  clear hu hg
  go_enter Try.func30, Try.ntmps30
  go_wp2_with fail
  refine (rnew_c nc _ [] _ ⟨none, 0, rfl, fun h => (h rfl).elim⟩ hc1 hc2 (by simp)).mono ?_
  rintro e W1 ⟨p, err, rfl, hE1, hrel⟩
  rcases hrel with ⟨h, rfl, rfl⟩ | ⟨_, _, h, _⟩ | ⟨_, _, _, h, _⟩ | ⟨n1, n2, _, _, rfl, b, g, h0, rfl, hbw, hgw, hr, hlen, hst⟩
  · go_wp2
    go_ret2
    exact ⟨none, 1, rfl, hE1, .inl ⟨h, rfl, rfl⟩⟩
  · cases h
  · exact (h (fun i hi => by simp at hi)).elim
  · have hz := hst.zero
    have hn0 : h0.length = nc.toNat := by omega
    rw [hn0] at hz
    have hbg : b ≠ g := by
      rintro rfl
      have h3 := hr.1
      rw [hr.2] at h3
      simp only [Option.some.injEq, Obj.cells.injEq] at h3
      exact absurd h3.2.1 (by decide)
    have hg1 := lt_of_blk hr.2
    subst hz
    have HR0 := Lib.hid hr
    clear hr hst hn0
    simp only [List.length_replicate] at hlen
    go_wp2_with fail
    go_loopw [8, 9, 10] (fun iv _ _ wr => ∃ (k : Nat) (h : List Int), k ≤ l.length ∧ iv = .int .i64 k ∧ Ext [g] W1 wr ∧ Hid (RfR wr b g h 0) ∧ (h.length : Int) = nc ∧ Hid (Played (List.replicate nc.toNat 0) l k h)) (fun iv _ _ _ => l.length - (intOf iv).toNat)
    case atStart => exact ⟨0, _, Nat.zero_le _, rfl, Ext.refl _ _, HR0, by simpa using hlen, Played.start⟩
    case round =>
      clear hlen
      obtain ⟨k, h, hk, rfl, hB, HR, hlen, HP⟩ := hrel
      have hBw : Ext [] w wr := hE1.trans' hB (by simp) (fun x hx => by simp at hx; subst hx; exact .inr hgw)
      have hl0 : h.length ≤ 40000 := by omega
      by_cases hlt : k < l.length
      · obtain ⟨ga, o, rfl⟩ : ∃ g o, pv = some ⟨g, o, none⟩ := by
          rcases (HU.out (by intro h; rw [h] at hlt; simp at hlt)) with ⟨_, h⟩ | ⟨g, o, c, h, _⟩
          · rw [h] at hlt; simp at hlt
          · cases h; exact ⟨g, o, rfl⟩
        obtain ⟨hm1, hm2, hm3⟩ := EL_cells ((HU.out (by intro h; rw [h] at hlt; simp at hlt)).ext0 hBw) k hlt
        have hbd := HGD.out (l.getD k (false,0,0)) (by rw [show l.getD k (false,0,0) = l[k] by simp [List.getD, hlt]]; exact List.getElem_mem hlt)
        obtain ⟨x, hx⟩ : ∃ x, x = l.getD k (false,0,0) := ⟨_, rfl⟩
        rw [← hx] at hm1 hm2 hm3 hbd
        obtain ⟨xt, xf, xn⟩ := x
        simp only at hm1 hm2 hm3 hbd
        obtain ⟨⟨u1, u2⟩, ⟨u3, u4⟩⟩ := hbd
        have hgal : ga ≠ g := by
          intro h
          have := (HU.out (by intro h; rw [h] at hlt; simp at hlt)).lt ga (by simp [blkL]); omega
        have z1 : (k : Int) < ((l.length : Nat) : Int) := by omega
        have d0 : (0 : Int) ≤ (k : Int) := by omega
        have d1 : ((k : Nat) : Int).toNat = k := by omega
        have HX := Lib.hid hx
        clear hx
        cases xt with
        | true =>
          cases hin : inH h xf xn with
          | false =>
            have hbad : Bad h (l.getD k (false,0,0)) := by
              rw [← HX.out]
              exact .inl (by simp only; rw [inC_eq]; exact hin)
            have HBAD := Lib.hid hbad
            have HIN := Lib.hid hin
            clear hbad hin
            go_wp2_with fail
            go_big_quiet ((go_at_call 42; refine Calls.quiet_of_same (rin_b b g h 0 xf xn false HIN.out _ (HR.out.ext0 ((Ext.refl [] _).drewN _)) hl0)))
            go_wp2
            go_ret2
            exact ⟨none, 2, rfl, by first | exact hBw.drewN _ | exact hBw, .inr (.inl ⟨by omega, by omega, ⟨k, h, HP.out, hlt, HBAD.out⟩, rfl, rfl⟩)⟩
          | true =>
            have hbd := inH_bounds hin
            by_cases hall : AllAre h xf xn 0
            · have HIN := Lib.hid hin
              have HALL := Lib.hid hall
              clear hin hall
              go_wp2_with fail
              go_big_quiet (first
                | (go_at_call 42; refine Calls.quiet_of_same (rin_b b g h 0 xf xn true HIN.out _ (HR.out.ext0 ((Ext.refl [] _).drewN _)) hl0))
                | (go_at_call 43; refine Calls.quiet_of_same (rall_b b g h 0 xf xn 0 true ⟨fun _ => HALL.out, fun _ => rfl⟩ HIN.out _ (HR.out.ext0 ((Ext.refl [] _).drewN _)) hl0)))
              go_wp2_with fail
              have hE2 : Ext [] wr (wr.drewN nq) := (Ext.refl [] _).drewN _
              have k2 := hE2.cell hm2 (by simp)
              have k3 := hE2.cell hm3 (by simp)
              have HR2 := Lib.hid (HR.out.ext0 hE2)
              revert hE2 k2 k3 HR2
              generalize wr.drewN nq = W2
              intro hE2 k2 k3 HR2
              have hD0 : Ext [] W2 W2.drew := (Ext.refl [] _).drew
              refine wp_region_u (fun W => W.cell? ⟨ga, o + k * 3 + 1, none⟩ = some (.int .i64 xf) ∧ W.cell? ⟨ga, o + k * 3 + 2, none⟩ = some (.int .i64 xn)) (fun i => decide (i < 12)) (by kernel_rfl) ⟨hD0.cell k2 (by simp), hD0.cell k3 (by simp)⟩ (fun hS => ?_)
              (refine wpAnyU_take (i := 0) rfl (by kernel_rfl) (by kernel_rfl) (by kernel_rfl) (by kernel_rfl) (by exact fun _ _ _ h => h) (by assumption) (Or.inl ⟨by rfl, fun W hW => by (have hWW := hW; clear hW; go_split_ands; go_simp; try rfl)⟩) ?_); (try go_frame)
              (refine wpAnyU_take (i := 1) rfl (by kernel_rfl) (by kernel_rfl) (by kernel_rfl) (by kernel_rfl) (by exact fun _ _ _ h => h) (by assumption) (Or.inl ⟨by rfl, fun W hW => by (have hWW := hW; clear hW; go_split_ands; go_simp; try rfl)⟩) ?_); (try go_frame)
              (refine wpAnyU_take (i := 2) rfl (by kernel_rfl) (by kernel_rfl) (by kernel_rfl) (by kernel_rfl) (by exact fun _ _ _ h => h) (by assumption) (Or.inl ⟨by rfl, fun W hW => by (have hWW := hW; clear hW; go_split_ands; go_simp; try rfl)⟩) ?_); (try go_frame)
              (refine wpAnyU_take (i := 3) rfl (by kernel_rfl) (by kernel_rfl) (by kernel_rfl) (by kernel_rfl) (by exact fun _ _ _ h => h) (by assumption) (Or.inl ⟨by rfl, fun W hW => by (have hWW := hW; clear hW; go_split_ands; go_simp; try rfl)⟩) ?_); (try go_frame)
              (refine wpAnyU_take (i := 4) rfl (by kernel_rfl) (by kernel_rfl) (by kernel_rfl) (by kernel_rfl) (by exact fun _ _ _ h => h) (by assumption) (Or.inl ⟨by rfl, fun W hW => by (have hWW := hW; clear hW; go_split_ands; go_simp; try rfl)⟩) ?_); (try go_frame)
              (refine wpAnyU_take (i := 5) rfl (by kernel_rfl) (by kernel_rfl) (by kernel_rfl) (by kernel_rfl) (by exact fun _ _ _ h => h) (by assumption) (Or.inl ⟨by rfl, fun W hW => by (have hWW := hW; clear hW; go_split_ands; go_simp; try rfl)⟩) ?_); (try go_frame)
              (refine wpAnyU_take (i := 6) rfl (by kernel_rfl) (by kernel_rfl) (by kernel_rfl) (by kernel_rfl) (by exact fun _ _ _ h => h) (by assumption) (Or.inl ⟨by rfl, fun W hW => by (have hWW := hW; clear hW; go_split_ands; go_simp; try rfl)⟩) ?_); (try go_frame)
              (refine wpAnyU_take (i := 7) rfl (by kernel_rfl) (by kernel_rfl) (by kernel_rfl) (by kernel_rfl) (by exact fun _ _ _ h => h) (by assumption) (Or.inl ⟨by rfl, fun W hW => by (have hWW := hW; clear hW; go_split_ands; go_simp; try rfl)⟩) ?_); (try go_frame)
              (refine wpAnyU_take (i := 8) rfl (by kernel_rfl) (by kernel_rfl) (by kernel_rfl) (by kernel_rfl) (by exact fun _ _ _ h => h) (by assumption) (Or.inl ⟨by rfl, fun W hW => by (have hWW := hW; clear hW; go_split_ands; go_simp; try rfl)⟩) ?_); (try go_frame)
              (refine wpAnyU_take (i := 9) rfl (by kernel_rfl) (by kernel_rfl) (by kernel_rfl) (by kernel_rfl) (by exact fun _ _ _ h => h) (by assumption) (Or.inl ⟨by rfl, fun W hW => by (have hWW := hW; clear hW; go_split_ands; go_simp; try rfl)⟩) ?_); (try go_frame)
              (refine wpAnyU_take (i := 10) rfl (by kernel_rfl) (by kernel_rfl) (by kernel_rfl) (by kernel_rfl) (by exact fun _ _ _ h => h) (by assumption) (Or.inl ⟨by rfl, fun W hW => by (have hWW := hW; clear hW; go_split_ands; go_simp; try rfl)⟩) ?_); (try go_frame)
              (refine wpAnyU_take (i := 11) rfl (by kernel_rfl) (by kernel_rfl) (by kernel_rfl) (by kernel_rfl) (by exact fun _ _ _ h => h) (by assumption) (Or.inl ⟨by rfl, fun W hW => by (have hWW := hW; clear hW; go_split_ands; go_simp; try rfl)⟩) ?_); (try go_frame)
              refine wpAnyU_one (i := 12) (by kernel_rfl) rfl (fun K hK => ?_)
              (try simp only [Act.put, List.getElem_toArray, List.getElem_cons_zero, List.getElem_cons_succ, List.setIfInBounds_toArray, List.set_cons_zero, List.set_cons_succ]); rw [if_pos (show Region.wanted _ _ = true from rfl)]
              go_simp
              refine (rset_c b g h 0 xf xn 1 _ (HR2.out.ext0 hD0) hl0 (by omega) (by omega) (by omega)).mono ?_
              rintro e W5 ⟨rfl, h', hr5, hs5, hE5⟩
              have hst : Step h (l.getD k (false,0,0)) h' := by
                rw [← HX.out]
                exact ⟨by simp only; rw [inC_eq]; exact HIN.out, HALL.out, hs5⟩
              have hE5' : Ext [g] W1 W5 := (hB.trans ((hE2.trans hD0).nil)).trans hE5
              have hl5 : (h'.length : Int) = nc := by rw [hs5.1]; exact hlen
              have HST := Lib.hid hst
              have HR5 := Lib.hid hr5
              clear hst hr5 hs5 hE5 hS
              refine hK.out _ _ (fun h => by cases h) (fun _ => ?_)
              clear hK
              refine wpAnyU_done (by kernel_rfl) ?_ _
              go_wp2_with fail
              go_roundw
              case rel => exact ⟨k + 1, h', by omega, by go_num, hE5', HR5, hl5, Played.next HP.out hlt HST.out⟩
              case measure => simp [intOf]; omega
            · have hbad : Bad h (l.getD k (false,0,0)) := by
                rw [← HX.out]
                exact .inr ⟨by simp only; rw [inC_eq]; exact hin, hall⟩
              have HBAD := Lib.hid hbad
              have HIN := Lib.hid hin
              have HALL := Lib.hid hall
              clear hbad hin hall
              go_wp2_with fail
              go_big_quiet (first
                | (go_at_call 42; refine Calls.quiet_of_same (rin_b b g h 0 xf xn true HIN.out _ (HR.out.ext0 ((Ext.refl [] _).drewN _)) hl0))
                | (go_at_call 43; refine Calls.quiet_of_same (rall_b b g h 0 xf xn 0 false ⟨fun h => (by cases h), fun h => (HALL.out h).elim⟩ HIN.out _ (HR.out.ext0 ((Ext.refl [] _).drewN _)) hl0)))
              go_wp2
              go_ret2
              exact ⟨none, 2, rfl, by first | exact hBw.drewN _ | exact hBw, .inr (.inl ⟨by omega, by omega, ⟨k, h, HP.out, hlt, HBAD.out⟩, rfl, rfl⟩)⟩
        | false =>
          cases hin : inH h xf xn with
          | false =>
            have hbad : Bad h (l.getD k (false,0,0)) := by
              rw [← HX.out]
              exact .inl (by simp only; rw [inC_eq]; exact hin)
            have HBAD := Lib.hid hbad
            have HIN := Lib.hid hin
            clear hbad hin
            go_wp2_with fail
            go_big_quiet ((go_at_call 42; refine Calls.quiet_of_same (rin_b b g h 0 xf xn false HIN.out _ (HR.out.ext0 ((Ext.refl [] _).drewN _)) hl0)))
            go_wp2
            go_ret2
            exact ⟨none, 2, rfl, by first | exact hBw.drewN _ | exact hBw, .inr (.inl ⟨by omega, by omega, ⟨k, h, HP.out, hlt, HBAD.out⟩, rfl, rfl⟩)⟩
          | true =>
            have hbd := inH_bounds hin
            by_cases hall : AllAre h xf xn 1
            · have HIN := Lib.hid hin
              have HALL := Lib.hid hall
              clear hin hall
              go_wp2_with fail
              go_big_quiet (first
                | (go_at_call 42; refine Calls.quiet_of_same (rin_b b g h 0 xf xn true HIN.out _ (HR.out.ext0 ((Ext.refl [] _).drewN _)) hl0))
                | (go_at_call 43; refine Calls.quiet_of_same (rall_b b g h 0 xf xn 1 true ⟨fun _ => HALL.out, fun _ => rfl⟩ HIN.out _ (HR.out.ext0 ((Ext.refl [] _).drewN _)) hl0)))
              go_wp2_with fail
              have hE2 : Ext [] wr (wr.drewN nq) := (Ext.refl [] _).drewN _
              have k2 := hE2.cell hm2 (by simp)
              have k3 := hE2.cell hm3 (by simp)
              have HR2 := Lib.hid (HR.out.ext0 hE2)
              revert hE2 k2 k3 HR2
              generalize wr.drewN nq = W2
              intro hE2 k2 k3 HR2
              have hD0 : Ext [] W2 W2.drew := (Ext.refl [] _).drew
              refine wp_region_u (fun W => W.cell? ⟨ga, o + k * 3 + 1, none⟩ = some (.int .i64 xf) ∧ W.cell? ⟨ga, o + k * 3 + 2, none⟩ = some (.int .i64 xn)) (fun i => decide (i < 12)) (by kernel_rfl) ⟨hD0.cell k2 (by simp), hD0.cell k3 (by simp)⟩ (fun hS => ?_)
              (refine wpAnyU_take (i := 0) rfl (by kernel_rfl) (by kernel_rfl) (by kernel_rfl) (by kernel_rfl) (by exact fun _ _ _ h => h) (by assumption) (Or.inl ⟨by rfl, fun W hW => by (have hWW := hW; clear hW; go_split_ands; go_simp; try rfl)⟩) ?_); (try go_frame)
              (refine wpAnyU_take (i := 1) rfl (by kernel_rfl) (by kernel_rfl) (by kernel_rfl) (by kernel_rfl) (by exact fun _ _ _ h => h) (by assumption) (Or.inl ⟨by rfl, fun W hW => by (have hWW := hW; clear hW; go_split_ands; go_simp; try rfl)⟩) ?_); (try go_frame)
              (refine wpAnyU_take (i := 2) rfl (by kernel_rfl) (by kernel_rfl) (by kernel_rfl) (by kernel_rfl) (by exact fun _ _ _ h => h) (by assumption) (Or.inl ⟨by rfl, fun W hW => by (have hWW := hW; clear hW; go_split_ands; go_simp; try rfl)⟩) ?_); (try go_frame)
              (refine wpAnyU_take (i := 3) rfl (by kernel_rfl) (by kernel_rfl) (by kernel_rfl) (by kernel_rfl) (by exact fun _ _ _ h => h) (by assumption) (Or.inl ⟨by rfl, fun W hW => by (have hWW := hW; clear hW; go_split_ands; go_simp; try rfl)⟩) ?_); (try go_frame)
              (refine wpAnyU_take (i := 4) rfl (by kernel_rfl) (by kernel_rfl) (by kernel_rfl) (by kernel_rfl) (by exact fun _ _ _ h => h) (by assumption) (Or.inl ⟨by rfl, fun W hW => by (have hWW := hW; clear hW; go_split_ands; go_simp; try rfl)⟩) ?_); (try go_frame)
              (refine wpAnyU_take (i := 5) rfl (by kernel_rfl) (by kernel_rfl) (by kernel_rfl) (by kernel_rfl) (by exact fun _ _ _ h => h) (by assumption) (Or.inl ⟨by rfl, fun W hW => by (have hWW := hW; clear hW; go_split_ands; go_simp; try rfl)⟩) ?_); (try go_frame)
              (refine wpAnyU_take (i := 6) rfl (by kernel_rfl) (by kernel_rfl) (by kernel_rfl) (by kernel_rfl) (by exact fun _ _ _ h => h) (by assumption) (Or.inl ⟨by rfl, fun W hW => by (have hWW := hW; clear hW; go_split_ands; go_simp; try rfl)⟩) ?_); (try go_frame)
              (refine wpAnyU_take (i := 7) rfl (by kernel_rfl) (by kernel_rfl) (by kernel_rfl) (by kernel_rfl) (by exact fun _ _ _ h => h) (by assumption) (Or.inl ⟨by rfl, fun W hW => by (have hWW := hW; clear hW; go_split_ands; go_simp; try rfl)⟩) ?_); (try go_frame)
              (refine wpAnyU_take (i := 8) rfl (by kernel_rfl) (by kernel_rfl) (by kernel_rfl) (by kernel_rfl) (by exact fun _ _ _ h => h) (by assumption) (Or.inl ⟨by rfl, fun W hW => by (have hWW := hW; clear hW; go_split_ands; go_simp; try rfl)⟩) ?_); (try go_frame)
              (refine wpAnyU_take (i := 9) rfl (by kernel_rfl) (by kernel_rfl) (by kernel_rfl) (by kernel_rfl) (by exact fun _ _ _ h => h) (by assumption) (Or.inl ⟨by rfl, fun W hW => by (have hWW := hW; clear hW; go_split_ands; go_simp; try rfl)⟩) ?_); (try go_frame)
              (refine wpAnyU_take (i := 10) rfl (by kernel_rfl) (by kernel_rfl) (by kernel_rfl) (by kernel_rfl) (by exact fun _ _ _ h => h) (by assumption) (Or.inl ⟨by rfl, fun W hW => by (have hWW := hW; clear hW; go_split_ands; go_simp; try rfl)⟩) ?_); (try go_frame)
              (refine wpAnyU_take (i := 11) rfl (by kernel_rfl) (by kernel_rfl) (by kernel_rfl) (by kernel_rfl) (by exact fun _ _ _ h => h) (by assumption) (Or.inl ⟨by rfl, fun W hW => by (have hWW := hW; clear hW; go_split_ands; go_simp; try rfl)⟩) ?_); (try go_frame)
              refine wpAnyU_one (i := 12) (by kernel_rfl) rfl (fun K hK => ?_)
              (try simp only [Act.put, List.getElem_toArray, List.getElem_cons_zero, List.getElem_cons_succ, List.setIfInBounds_toArray, List.set_cons_zero, List.set_cons_succ]); rw [if_pos (show Region.wanted _ _ = true from rfl)]
              go_simp
              refine (rset_c b g h 0 xf xn 0 _ (HR2.out.ext0 hD0) hl0 (by omega) (by omega) (by omega)).mono ?_
              rintro e W5 ⟨rfl, h', hr5, hs5, hE5⟩
              have hst : Step h (l.getD k (false,0,0)) h' := by
                rw [← HX.out]
                exact ⟨by simp only; rw [inC_eq]; exact HIN.out, HALL.out, hs5⟩
              have hE5' : Ext [g] W1 W5 := (hB.trans ((hE2.trans hD0).nil)).trans hE5
              have hl5 : (h'.length : Int) = nc := by rw [hs5.1]; exact hlen
              have HST := Lib.hid hst
              have HR5 := Lib.hid hr5
              clear hst hr5 hs5 hE5 hS
              refine hK.out _ _ (fun h => by cases h) (fun _ => ?_)
              clear hK
              refine wpAnyU_done (by kernel_rfl) ?_ _
              go_wp2_with fail
              go_roundw
              case rel => exact ⟨k + 1, h', by omega, by go_num, hE5', HR5, hl5, Played.next HP.out hlt HST.out⟩
              case measure => simp [intOf]; omega
            · have hbad : Bad h (l.getD k (false,0,0)) := by
                rw [← HX.out]
                exact .inr ⟨by simp only; rw [inC_eq]; exact hin, hall⟩
              have HBAD := Lib.hid hbad
              have HIN := Lib.hid hin
              have HALL := Lib.hid hall
              clear hbad hin hall
              go_wp2_with fail
              go_big_quiet (first
                | (go_at_call 42; refine Calls.quiet_of_same (rin_b b g h 0 xf xn true HIN.out _ (HR.out.ext0 ((Ext.refl [] _).drewN _)) hl0))
                | (go_at_call 43; refine Calls.quiet_of_same (rall_b b g h 0 xf xn 1 false ⟨fun h => (by cases h), fun h => (HALL.out h).elim⟩ HIN.out _ (HR.out.ext0 ((Ext.refl [] _).drewN _)) hl0)))
              go_wp2
              go_ret2
              exact ⟨none, 2, rfl, by first | exact hBw.drewN _ | exact hBw, .inr (.inl ⟨by omega, by omega, ⟨k, h, HP.out, hlt, HBAD.out⟩, rfl, rfl⟩)⟩
      · obtain rfl : k = l.length := by omega
        have z1 : ¬ (((l.length : Nat) : Int) < ((l.length : Nat) : Int)) := by omega
        go_wp2
        go_ret2
        exact ⟨_, 0, rfl, hBw, .inr (.inr ⟨n1, n2, rfl, b, g, h, rfl, by have := hE1.size; omega, by omega, HR.out, hlen, HP.out⟩)⟩

end Go.Proofs.Ytaknhoplgcnhkaa
