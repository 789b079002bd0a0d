
import Derived.Test.YtaknhoplgcnhkaaAl
import Derived.Test.YtaknhoplgcnhkaaRf6
import Derived.Test.YtaknhoplgcnhkaaLwKeeps
namespace Go.Proofs.Ytaknhoplgcnhkaa
open Go.RowKit

theorem rep_match {nc : Int} {l : List Lin} {w w' v v' : World} {p q : Option Addr} {e f : Int} (r : RepRel nc l w w' p e) (s : RRep nc l v v' q f) :
    (p = none ∧ q = none ∧ e = f) ∨
    (e = 0 ∧ f = 0 ∧ ∃ b s b2 g h, p = some ⟨b, 0, none⟩ ∧ q = some ⟨b2, 0, none⟩ ∧ SpR w' b s ∧ SpI s ∧ s.back = 0 ∧ StRel s h ∧ RfR v' b2 g h 0) := by
  rcases r with ⟨h1, rfl, rfl⟩ | ⟨h1, h2, h3, rfl, rfl⟩ | ⟨h1, h2, rfl, b, sp, h, rfl, _, hr, hi, hk, _, hs, hp⟩
  · rcases s with ⟨_, rfl, rfl⟩ | ⟨_, _, _, rfl, rfl⟩ | ⟨_, _, _⟩
    · exact .inl ⟨rfl, rfl, rfl⟩
    · omega
    · omega
  · rcases s with ⟨_, rfl, rfl⟩ | ⟨_, _, _, rfl, rfl⟩ | ⟨_, _, rfl, b2, g, h', rfl, _, _, _, _, hp'⟩
    · omega
    · exact .inl ⟨rfl, rfl, rfl⟩
    · exact (played_one hp' h3).elim
  · rcases s with ⟨_, rfl, rfl⟩ | ⟨_, _, h4, rfl, rfl⟩ | ⟨_, _, rfl, b2, g, h', rfl, _, _, hr', _, hp'⟩
    · omega
    · exact (played_one hp h4).elim
    · obtain rfl := hp.same _ hp'
      exact .inr ⟨rfl, rfl, b, sp, b2, g, h, rfl, rfl, hr, hi, hk, hs, hr'⟩

theorem cond_match {nc : Int} {l : List Lin} {w w' v v' : World} {x y : Value} {e f : Int} (r : CondRel nc l w w' x e) (s : RCond nc l v v' y f) :
    (x = .slice none 0 0 ∧ y = .slice none 0 0 ∧ e = f) ∨
    (e = 0 ∧ f = 0 ∧ ∃ U, Ok U ∧ EL.Ow 58 w' x (lg U) ∧ EL.Ow 57 v' y (lg U)) := by
  rcases r with ⟨h1, rfl, rfl⟩ | ⟨h1, h2, h3, rfl, rfl⟩ | ⟨h1, h2, rfl, sp, h, hi, _, _, hs, hp, how, _⟩
  · rcases s with ⟨_, rfl, rfl⟩ | ⟨_, _, _, rfl, rfl⟩ | ⟨_, _, _⟩
    · exact .inl ⟨rfl, rfl, rfl⟩
    · omega
    · omega
  · rcases s with ⟨_, rfl, rfl⟩ | ⟨_, _, _, rfl, rfl⟩ | ⟨_, _, rfl, h', rs, _, hp', _⟩
    · omega
    · exact .inl ⟨rfl, rfl, rfl⟩
    · exact (played_one hp' h3).elim
  · rcases s with ⟨_, rfl, rfl⟩ | ⟨_, _, h4, rfl, rfl⟩ | ⟨_, _, rfl, h', rs, _, hp', hrs, how', _⟩
    · omega
    · exact (played_one hp h4).elim
    · obtain rfl := hp.same _ hp'
      obtain rfl := rs_used hi hs hrs
      exact .inr ⟨rfl, rfl, sp.used, hi.okU, how, how'⟩

theorem one_rdL {W0 : World} {t : Bool} {f k : Int} {n : Nat} (h : n = W0.heap.size) : EL.Rd (W0.alloc (.cells #[.bool t, .int .i64 f, .int .i64 k] 58)) (.slice (some ⟨n, 0, none⟩) 1 1) [(t, f, k)] := one_rdLT h

set_option maxRecDepth 100000 in
set_option maxHeartbeats 2000000 in
theorem logs_walk (a0 : Int) (w0 : -9223372036854775808 ≤ a0 ∧ a0 ≤ 9223372036854775807) (v1 : Value) (l : List Lin) (w : World) (hu : AR EL w v1 l) (hlen : l.length ≤ 1048576)
    (hg : ∀ x ∈ l, (-9223372036854775808 ≤ x.2.1 ∧ x.2.1 ≤ 9223372036854775807) ∧ (-9223372036854775808 ≤ x.2.2 ∧ x.2.2 ≤ 9223372036854775807)) :
    Calls Try.prog 9 #[.int .i64 a0, v1] w fun e w' => e = .returned (.bool true) ∧ Ext [] w w' := by
  obtain ⟨pu, cu, rfl, hu⟩ := hu
  have HU := Lib.hid hu
  have HG := Lib.hid hg
  clear hu hg
  go_enter Try.func9, Try.ntmps9
  go_wp2_with fail
  refine (known_c _).mono ?_
  rintro e W1 ⟨rfl, hE1⟩
  go_wp2_with fail
  refine (few_c a0 _).mono ?_
  rintro e W1 ⟨rfl, rfl⟩
  have hcc : ∃ c : Int, c = (if 80 < a0 ∧ a0 ≤ 40000 then 80 else a0) ∧ -9223372036854775808 ≤ c ∧ c ≤ 9223372036854775807 := ⟨_, rfl, by split <;> omega, by split <;> omega⟩
  obtain ⟨c, hc, c1, c2⟩ := hcc
  rw [← hc]
  clear hc
  go_wp2_with fail
  go_loopw [5, 6] (fun v i wr => ∃ k : Nat, k ≤ l.length ∧ i = .int .i64 k ∧ Ext [] w wr ∧ Hid (EL.Ow 58 wr v (l.take k) ∧ ∀ g ∈ blkL v, w.heap.size ≤ g)) (fun _ i _ => l.length - (intOf i).toNat)
  case atStart => exact ⟨0, Nat.zero_le _, rfl, hE1, .inl ⟨rfl, by simp⟩, by simp [blkL]⟩
  case round =>
    obtain ⟨k, hk, rfl, hB, HV⟩ := hrel
    by_cases hlt : k < l.length
    · obtain ⟨g, o, rfl⟩ : ∃ g o, pu = some ⟨g, o, none⟩ := by
        rcases HU.out (by intro h; rw [h] at hlt; simp at hlt) with ⟨_, h⟩ | ⟨g, o, c, h, _⟩
        · rw [h] at hlt; simp at hlt
        · cases h; exact ⟨g, o, rfl⟩
      obtain ⟨hm1, hm2, hm3⟩ := EL_cells ((HU.out (by intro h; rw [h] at hlt; simp at hlt)).ext0 hB) k hlt
      have hts : l.take (k + 1) = l.take k ++ [l.getD k (false,0,0)] := by
        have e : l.getD k (false,0,0) = l[k] := by simp [List.getD, hlt]
        rw [e, List.take_succ_eq_append_getElem hlt]
      obtain ⟨x, hx⟩ : ∃ x, x = l.getD k (false,0,0) := ⟨_, rfl⟩
      rw [← hx] at hm1 hm2 hm3 hts
      obtain ⟨xt, xf, xn⟩ := x
      simp only at hm1 hm2 hm3
      have HTS := Lib.hid hts
      clear hx hts
      have z1 : (k : Int) < ((l.length : Nat) : Int) := by omega
      have hd1 := (Ext.refl [] wr).drew.cell hm1 (by simp)
      have hd2 := (Ext.refl [] wr).drew.cell hm2 (by simp)
      have hd3 := (Ext.refl [] wr).drew.cell hm3 (by simp)
      go_wp2_with fail
      refine wp_region_u (fun W => W.cell? ⟨g, o + k * 3, none⟩ = some (.bool xt) ∧ W.cell? ⟨g, o + k * 3 + 1, none⟩ = some (.int .i64 xf) ∧ W.cell? ⟨g, o + k * 3 + 2, none⟩ = some (.int .i64 xn)) (fun i => decide (i < 17) && !(i == 0)) (by kernel_rfl) (⟨hd1, hd2, hd3⟩) (fun hS => ?_)
      (refine wpAnyU_pure (i := 0) rfl (by kernel_rfl) (by kernel_rfl) (by kernel_rfl) (by rfl) (by exact fun _ _ _ h => h) (Or.inl ⟨by rfl, fun W => by (go_simp; try rfl)⟩) ?_); (try go_frame)
      (refine wpAnyU_take (i := 1) rfl (by kernel_rfl) (by kernel_rfl) (by kernel_rfl) (by kernel_rfl) (by exact fun _ _ _ h => h) (by assumption) (Or.inl ⟨by rfl, fun W hW => by (have hWW := hW; clear hW; go_split_ands; go_simp; try rfl)⟩) ?_); (try go_frame)
      (refine wpAnyU_take (i := 2) rfl (by kernel_rfl) (by kernel_rfl) (by kernel_rfl) (by kernel_rfl) (by exact fun _ _ _ h => h) (by assumption) (Or.inl ⟨by rfl, fun W hW => by (have hWW := hW; clear hW; go_split_ands; go_simp; try rfl)⟩) ?_); (try go_frame)
      (refine wpAnyU_take (i := 3) rfl (by kernel_rfl) (by kernel_rfl) (by kernel_rfl) (by kernel_rfl) (by exact fun _ _ _ h => h) (by assumption) (Or.inl ⟨by rfl, fun W hW => by (have hWW := hW; clear hW; go_split_ands; go_simp; try rfl)⟩) ?_); (try go_frame)
      (refine wpAnyU_take (i := 4) rfl (by kernel_rfl) (by kernel_rfl) (by kernel_rfl) (by kernel_rfl) (by exact fun _ _ _ h => h) (by assumption) (Or.inl ⟨by rfl, fun W hW => by (have hWW := hW; clear hW; go_split_ands; go_simp; try rfl)⟩) ?_); (try go_frame)
      (refine wpAnyU_take (i := 5) rfl (by kernel_rfl) (by kernel_rfl) (by kernel_rfl) (by kernel_rfl) (by exact fun _ _ _ h => h) (by assumption) (Or.inl ⟨by rfl, fun W hW => by (have hWW := hW; clear hW; go_split_ands; go_simp; try rfl)⟩) ?_); (try go_frame)
      (refine wpAnyU_take (i := 6) rfl (by kernel_rfl) (by kernel_rfl) (by kernel_rfl) (by kernel_rfl) (by exact fun _ _ _ h => h) (by assumption) (Or.inl ⟨by rfl, fun W hW => by (have hWW := hW; clear hW; go_split_ands; go_simp; try rfl)⟩) ?_); (try go_frame)
      (refine wpAnyU_take (i := 7) rfl (by kernel_rfl) (by kernel_rfl) (by kernel_rfl) (by kernel_rfl) (by exact fun _ _ _ h => h) (by assumption) (Or.inl ⟨by rfl, fun W hW => by (have hWW := hW; clear hW; go_split_ands; go_simp; try rfl)⟩) ?_); (try go_frame)
      (refine wpAnyU_take (i := 8) rfl (by kernel_rfl) (by kernel_rfl) (by kernel_rfl) (by kernel_rfl) (by exact fun _ _ _ h => h) (by assumption) (Or.inl ⟨by rfl, fun W hW => by (have hWW := hW; clear hW; go_split_ands; go_simp; try rfl)⟩) ?_); (try go_frame)
      (refine wpAnyU_take (i := 9) rfl (by kernel_rfl) (by kernel_rfl) (by kernel_rfl) (by kernel_rfl) (by exact fun _ _ _ h => h) (by assumption) (Or.inl ⟨by rfl, fun W hW => by (have hWW := hW; clear hW; go_split_ands; go_simp; try rfl)⟩) ?_); (try go_frame)
      (refine wpAnyU_take (i := 10) rfl (by kernel_rfl) (by kernel_rfl) (by kernel_rfl) (by kernel_rfl) (by exact fun _ _ _ h => h) (by assumption) (Or.inl ⟨by rfl, fun W hW => by (have hWW := hW; clear hW; go_split_ands; go_simp; try rfl)⟩) ?_); (try go_frame)
      (refine wpAnyU_take (i := 11) rfl (by kernel_rfl) (by kernel_rfl) (by kernel_rfl) (by kernel_rfl) (by exact fun _ _ _ h => h) (by assumption) (Or.inl ⟨by rfl, fun W hW => by (have hWW := hW; clear hW; go_split_ands; go_simp; try rfl)⟩) ?_); (try go_frame)
      (refine wpAnyU_take (i := 12) rfl (by kernel_rfl) (by kernel_rfl) (by kernel_rfl) (by kernel_rfl) (by exact fun _ _ _ h => h) (by assumption) (Or.inl ⟨by rfl, fun W hW => by (have hWW := hW; clear hW; go_split_ands; go_simp; try rfl)⟩) ?_); (try go_frame)
      (refine wpAnyU_take (i := 13) rfl (by kernel_rfl) (by kernel_rfl) (by kernel_rfl) (by kernel_rfl) (by exact fun _ _ _ h => h) (by assumption) (Or.inl ⟨by rfl, fun W hW => by (have hWW := hW; clear hW; go_split_ands; go_simp; try rfl)⟩) ?_); (try go_frame)
      (refine wpAnyU_take (i := 14) rfl (by kernel_rfl) (by kernel_rfl) (by kernel_rfl) (by kernel_rfl) (by exact fun _ _ _ h => h) (by assumption) (Or.inl ⟨by rfl, fun W hW => by (have hWW := hW; clear hW; go_split_ands; go_simp; try rfl)⟩) ?_); (try go_frame)
      (refine wpAnyU_take (i := 15) rfl (by kernel_rfl) (by kernel_rfl) (by kernel_rfl) (by kernel_rfl) (by exact fun _ _ _ h => h) (by assumption) (Or.inl ⟨by rfl, fun W hW => by (have hWW := hW; clear hW; go_split_ands; go_simp; try rfl)⟩) ?_); (try go_frame)
      (refine wpAnyU_take (i := 16) rfl (by kernel_rfl) (by kernel_rfl) (by kernel_rfl) (by kernel_rfl) (by exact fun _ _ _ h => h) (by assumption) (Or.inl ⟨by rfl, fun W hW => by (have hWW := hW; clear hW; go_split_ands; go_simp; try rfl)⟩) ?_); (try go_frame)
      refine wpAnyU_one (i := 17) (by kernel_rfl) rfl (fun K hK => ?_)
      (try simp only [Act.put, List.getElem_toArray, List.getElem_cons_zero, List.getElem_cons_succ, List.setIfInBounds_toArray, List.set_cons_zero, List.set_cons_succ]); rw [if_pos (show Region.wanted _ _ = true from rfl)]
      go_simp
      refine hK.out _ _ (fun h => by cases h) (fun _ => ?_)
      clear hK
      refine wpAnyU_one (i := 18) (by kernel_rfl) rfl (fun K hK => ?_)
      (try simp only [Act.put, List.getElem_toArray, List.getElem_cons_zero, List.getElem_cons_succ, List.setIfInBounds_toArray, List.set_cons_zero, List.set_cons_succ]); rw [if_pos (show Region.wanted _ _ = true from rfl)]
      refine opw_append (s := .tmp 24) (x := .tmp 41) (E := EL) (T := 58) (zero := (false,0,0)) (bytes := 24) (v := u5) (xs := l.take k) (ys := [(xt, xf, xn)]) tiL Try.underlying55 Try.underlying55 rfl rfl rfl (HV.out.1.ext0 ((Ext.refl [] wr).drew.alloc _)) (one_rdL rfl) (by simp; omega) (by simp; omega) ?_
      intro v5 w5 how5 hE5 hnear5 _
      refine hK.out _ _ (fun h => by cases h) (fun _ => ?_)
      (refine wpAnyU_pure (i := 19) rfl (by kernel_rfl) (by kernel_rfl) (by kernel_rfl) (by rfl) (by exact fun _ _ _ h => h) (Or.inl ⟨by rfl, fun W => by (go_simp; try rfl)⟩) ?_); (try go_frame)
      refine wpAnyU_done (by kernel_rfl) ?_ _
      clear hK hS
      go_wp2
      go_roundw
      case rel =>
        have hEw : Ext [] w w5 := (hB.trans ((Ext.refl [] wr).drew.alloc _)).trans' hE5 (by simp) (fun x hx => .inr (HV.out.2 x hx))
        refine ⟨k + 1, by omega, by go_num, hEw, ?_⟩
        refine ⟨by rw [HTS.out]; exact how5, fun y hy => ?_⟩
        rcases hnear5 y hy with h | h
        · exact HV.out.2 y h
        · have h1 := hB.size
          have h2 : wr.heap.size + 1 ≤ y := by simpa using h
          omega
      case measure => simp [intOf]; omega
    · obtain rfl : k = l.length := by omega
      have hv0 := HV.out.1
      rw [List.take_length] at hv0
      have HV0 := Lib.hid hv0
      obtain ⟨p5, c5, rfl, _⟩ := hv0.rd.len_eq
      clear HV hv0
      go_wp2_with fail
      refine (replay_c c _ l _ HV0.out.rd c1 c2 (by omega) HG.out).mono ?_
      rintro e W2 ⟨p2, err2, rfl, hE2, hrel2⟩
      have hB2 := hB.trans hE2
      go_wp2_with fail
      refine (rreplay_c c _ l _ ⟨_, _, rfl, fun h => (HU.out h).ext0 hB2⟩ c1 c2 (by omega) HG.out).mono ?_
      rintro e W3 ⟨p3, err3, rfl, hE3, hrel3⟩
      have hE23 := hE2.trans hE3
      rcases rep_match hrel2 hrel3 with ⟨rfl, rfl, rfl⟩ | ⟨rfl, rfl, b, s, b2, g, h, rfl, rfl, hr, hi, hk0, hs, hr'⟩
      · clear hrel2 hrel3 hE2 hE3 hB2
        go_wp2_with fail
        refine (condense_c c _ l _ (HV0.out.ext0 hE23).rd c1 c2 (by omega) HG.out).mono ?_
        rintro e W5 ⟨v5, err5, rfl, hE5, hrel5⟩
        have hB5 := (hB.trans hE23).trans hE5
        go_wp2_with fail
        refine (rcond_c c _ l _ ⟨_, _, rfl, fun h => (HU.out h).ext0 hB5⟩ c1 c2 (by omega) HG.out).mono ?_
        rintro e W6 ⟨v6, err6, rfl, hE6, hrel6⟩
        have hB6 := hB5.trans hE6
        rcases cond_match hrel5 hrel6 with ⟨rfl, rfl, rfl⟩ | ⟨rfl, rfl, U, hok, how5, how6⟩
        · clear hrel5 hrel6 hE5 hE6 HV0 HU HG hB5
          go_wp2_with fail
          go_loopw [13] (fun iv wr => iv = .int .i64 0 ∧ wr = W6) (fun _ _ => 0)
          case atStart => exact ⟨rfl, rfl⟩
          case round =>
            obtain ⟨rfl, rfl⟩ := hrel
            go_wp2
            go_ret
            exact ⟨rfl, hB6⟩
        · obtain ⟨p5, k5, e5, _⟩ := how5.rd.len_eq
          obtain ⟨p6, k6, e6, _⟩ := how6.rd.len_eq
          have hUl := hok.len
          have hlg : (lg U).length = U.length := by simp [lg]
          have HLG := Lib.hid hlg
          obtain ⟨m, hm⟩ : ∃ m, m = (lg U).length := ⟨_, rfl⟩
          have HM := Lib.hid hm
          rw [← hlg, ← hm] at hUl
          rw [← hm] at e5 e6
          subst e5 e6
          have HO5 := Lib.hid (how5.rd.ext0 hE6)
          have HO6 := Lib.hid how6.rd
          clear hrel5 hrel6 hE5 hE6 HV0 HU HG hB5 how5 how6 hm hlg hok
          go_wp2_with fail
          go_loopw [13] (fun iv wr => ∃ q : Nat, q ≤ m ∧ iv = .int .i64 q ∧ Ext [] W6 wr) (fun iv _ => m - (intOf iv).toNat)
          case atStart => exact ⟨0, Nat.zero_le _, rfl, Ext.refl _ _⟩
          case round =>
            obtain ⟨q, hq, rfl, hB7⟩ := hrel
            by_cases hqm : q < m
            · have hqL : q < (lg U).length := by rw [← HM.out]; exact hqm
              obtain ⟨g2, o2, rfl⟩ : ∃ g o, p5 = some ⟨g, o, none⟩ := by
                rcases HO5.out with ⟨_, h⟩ | ⟨g, o, c, h, _⟩
                · rw [h] at hqL; simp at hqL
                · simp only [Value.slice.injEq] at h; exact ⟨g, o, h.1⟩
              obtain ⟨g3, o3, rfl⟩ : ∃ g o, p6 = some ⟨g, o, none⟩ := by
                rcases HO6.out with ⟨_, h⟩ | ⟨g, o, c, h, _⟩
                · rw [h] at hqL; simp at hqL
                · simp only [Value.slice.injEq] at h; exact ⟨g, o, h.1⟩
              obtain ⟨hc1, hc2, hc3⟩ := EL_cells (HO5.out.ext0 hB7) q hqL
              obtain ⟨hd1, hd2, hd3⟩ := EL_cells (HO6.out.ext0 hB7) q hqL
              obtain ⟨y, hy⟩ : ∃ y, y = (lg U).getD q (false,0,0) := ⟨_, rfl⟩
              rw [← hy] at hc1 hc2 hc3 hd1 hd2 hd3
              obtain ⟨y1, y2, y3⟩ := y
              simp only at hc1 hc2 hc3 hd1 hd2 hd3
              have z1 : (q : Int) < (m : Int) := by omega
              have d0 : (0 : Int) ≤ (q : Int) := by omega
              have d1 : ((q : Nat) : Int).toNat = q := by omega
              clear hy hqL
              go_wp2_with fail
              go_big_quiet (fail)
              go_wp2_with fail
              go_roundw
              case rel => exact ⟨q + 1, by omega, by go_num, by first | exact hB7.drewN _ | exact hB7⟩
              case measure => simp [intOf]; omega
            · have z1 : ¬ ((q : Int) < (m : Int)) := by omega
              go_wp2
              go_ret
              exact ⟨rfl, hB6.trans hB7⟩
      · have HR := Lib.hid (hr.ext0 hE3)
        have HI := Lib.hid hi
        have HS := Lib.hid hs
        rw [← hk0] at hr'
        have HR' := Lib.hid hr'
        clear hrel2 hrel3 hE2 hE3 hB2 hr hi hs hr' hk0
        go_wp2_with fail
        refine (alike_c b b2 g s h _ HR.out HI.out HR'.out HS.out).mono ?_
        rintro e W4 ⟨rfl, hE4⟩
        have hE24 := hE23.trans hE4
        clear hE4 hE23
        go_wp2_with fail
        refine (condense_c c _ l _ (HV0.out.ext0 hE24).rd c1 c2 (by omega) HG.out).mono ?_
        rintro e W5 ⟨v5, err5, rfl, hE5, hrel5⟩
        have hB5 := (hB.trans hE24).trans hE5
        go_wp2_with fail
        refine (rcond_c c _ l _ ⟨_, _, rfl, fun h => (HU.out h).ext0 hB5⟩ c1 c2 (by omega) HG.out).mono ?_
        rintro e W6 ⟨v6, err6, rfl, hE6, hrel6⟩
        have hB6 := hB5.trans hE6
        rcases cond_match hrel5 hrel6 with ⟨rfl, rfl, rfl⟩ | ⟨rfl, rfl, U, hok, how5, how6⟩
        · clear hrel5 hrel6 hE5 hE6 HV0 HU HG hB5
          go_wp2_with fail
          go_loopw [13] (fun iv wr => iv = .int .i64 0 ∧ wr = W6) (fun _ _ => 0)
          case atStart => exact ⟨rfl, rfl⟩
          case round =>
            obtain ⟨rfl, rfl⟩ := hrel
            go_wp2
            go_ret
            exact ⟨rfl, hB6⟩
        · obtain ⟨p5, k5, e5, _⟩ := how5.rd.len_eq
          obtain ⟨p6, k6, e6, _⟩ := how6.rd.len_eq
          have hUl := hok.len
          have hlg : (lg U).length = U.length := by simp [lg]
          have HLG := Lib.hid hlg
          obtain ⟨m, hm⟩ : ∃ m, m = (lg U).length := ⟨_, rfl⟩
          have HM := Lib.hid hm
          rw [← hlg, ← hm] at hUl
          rw [← hm] at e5 e6
          subst e5 e6
          have HO5 := Lib.hid (how5.rd.ext0 hE6)
          have HO6 := Lib.hid how6.rd
          clear hrel5 hrel6 hE5 hE6 HV0 HU HG hB5 how5 how6 hm hlg hok
          go_wp2_with fail
          go_loopw [13] (fun iv wr => ∃ q : Nat, q ≤ m ∧ iv = .int .i64 q ∧ Ext [] W6 wr) (fun iv _ => m - (intOf iv).toNat)
          case atStart => exact ⟨0, Nat.zero_le _, rfl, Ext.refl _ _⟩
          case round =>
            obtain ⟨q, hq, rfl, hB7⟩ := hrel
            by_cases hqm : q < m
            · have hqL : q < (lg U).length := by rw [← HM.out]; exact hqm
              obtain ⟨g2, o2, rfl⟩ : ∃ g o, p5 = some ⟨g, o, none⟩ := by
                rcases HO5.out with ⟨_, h⟩ | ⟨g, o, c, h, _⟩
                · rw [h] at hqL; simp at hqL
                · simp only [Value.slice.injEq] at h; exact ⟨g, o, h.1⟩
              obtain ⟨g3, o3, rfl⟩ : ∃ g o, p6 = some ⟨g, o, none⟩ := by
                rcases HO6.out with ⟨_, h⟩ | ⟨g, o, c, h, _⟩
                · rw [h] at hqL; simp at hqL
                · simp only [Value.slice.injEq] at h; exact ⟨g, o, h.1⟩
              obtain ⟨hc1, hc2, hc3⟩ := EL_cells (HO5.out.ext0 hB7) q hqL
              obtain ⟨hd1, hd2, hd3⟩ := EL_cells (HO6.out.ext0 hB7) q hqL
              obtain ⟨y, hy⟩ : ∃ y, y = (lg U).getD q (false,0,0) := ⟨_, rfl⟩
              rw [← hy] at hc1 hc2 hc3 hd1 hd2 hd3
              obtain ⟨y1, y2, y3⟩ := y
              simp only at hc1 hc2 hc3 hd1 hd2 hd3
              have z1 : (q : Int) < (m : Int) := by omega
              have d0 : (0 : Int) ≤ (q : Int) := by omega
              have d1 : ((q : Nat) : Int).toNat = q := by omega
              clear hy hqL
              go_wp2_with fail
              go_big_quiet (fail)
              go_wp2_with fail
              go_roundw
              case rel => exact ⟨q + 1, by omega, by go_num, by first | exact hB7.drewN _ | exact hB7⟩
              case measure => simp [intOf]; omega
            · have z1 : ¬ ((q : Int) < (m : Int)) := by omega
              go_wp2
              go_ret
              exact ⟨rfl, hB6.trans hB7⟩

end Go.Proofs.Ytaknhoplgcnhkaa
