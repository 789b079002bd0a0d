
import Derived.Test.YtaknhoplgcnhkaaLwKeeps
import Derived.Test.YtaknhoplgcnhkaaOp
namespace Go.Proofs.Ytaknhoplgcnhkaa
open Go.RowKit


theorem find_first {l : List Rng} (h : Ok l) {p : Rng → Bool} {f : Rng} (hf : l.find? p = some f) : ∀ y ∈ l, p y = true → f.1 ≤ y.1 := by
  induction l with
  | nil => simp at hf
  | cons a l ih =>
    intro y hy hp
    have ha := (h.2 a (by simp)).2.1
    rw [List.find?_cons] at hf
    cases hpa : p a with
    | true =>
      rw [hpa] at hf
      simp only [Option.some.injEq] at hf
      subst hf
      rcases List.mem_cons.1 hy with rfl | hy
      · omega
      · have := (List.pairwise_cons.1 h.1).1 y hy; omega
    | false =>
      rw [hpa] at hf
      rcases List.mem_cons.1 hy with rfl | hy
      · rw [hpa] at hp; cases hp
      · exact ih h.cons hf y hy hp

theorem Took.next {s s' : Spc} {n : Int} {f : Rng} (hi : SpI s) (hok : Ok s'.free) (ht : Took s s' f.1 n) (hn : 1 ≤ n) (hf : s.free.find? (fitsB n) = some f) : ∀ y ∈ s'.free, n ≤ y.2 - y.1 → f.1 < y.1 := by
  intro y hy hfit
  have h1 : ∀ c, y.1 ≤ c ∧ c < y.2 → Mem s.free c ∧ ¬ (f.1 ≤ c ∧ c < f.1 + n) := fun c hc => (ht.free c).1 ⟨y, hy, hc⟩
  have h2 := (hok.2 y hy).2.1
  rcases Int.lt_or_le f.1 y.1 with h | h
  · exact h
  · exfalso
    have h3 := (h1 y.1 ⟨by omega, h2⟩).2
    have h4 : y.2 ≤ f.1 := by
      rcases Int.lt_or_le f.1 y.2 with h5 | h5
      · exact ((h1 f.1 ⟨h, h5⟩).2 ⟨by omega, by omega⟩).elim
      · exact h5
    have h5 := hasB_of_mem hi.okF h2 (fun c hc => (h1 c hc).1)
    simp only [hasB, List.any_eq_true, Bool.and_eq_true, decide_eq_true_eq] at h5
    obtain ⟨z, hz, h6, h7⟩ := h5
    have h8 := find_first hi.okF hf z hz (by simp [fitsB]; omega)
    omega

theorem fit_count {l : List Rng} (h : Ok l) {x : Rng} (hx : x ∈ l) : x.2 - x.1 ≤ cntL l := by
  induction l with
  | nil => simp at hx
  | cons a l ih =>
    have h1 := cntL_nonneg h.cons
    have h2 := (h.2 a (by simp)).2.1
    simp only [cntL]
    rcases List.mem_cons.1 hx with rfl | hx
    · omega
    · have := ih h.cons hx; omega

theorem find_step {l : List Rng} {k : Nat} (hk : k < l.length) (p : Rng → Bool) (h : (l.take k).find? p = none) : (l.take (k + 1)).find? p = if p (l.getD k (0,0)) then some (l.getD k (0,0)) else none := by
  rw [take_step hk, List.find?_append, h]
  generalize l.getD k (0,0) = x
  cases hp : p x <;> simp [hp]

theorem find_more {l : List Rng} {k : Nat} {p : Rng → Bool} {x : Rng} (h : (l.take k).find? p = some x) : l.find? p = some x := by
  rw [← List.take_append_drop k l, List.find?_append, h]
  rfl

set_option maxRecDepth 100000 in
set_option maxHeartbeats 1000000 in
theorem fits_walk (a0 a2 : Int) (v1 : Value) (us : List Rng) (w : World) (hu : AR ER w v1 us) :
    Calls Try.prog 4 #[.int .i64 a0, v1, .int .i64 a2] w fun e w' => e = .returned (.bool true) ∧ Ext [] w w' := by
  obtain ⟨pu, cu, rfl, hu⟩ := hu
  have HU := Lib.hid hu
  clear hu
  go_enter Try.func4, Try.ntmps4
  go_wp2_with fail
  refine (known_c _).mono ?_
  rintro e W1 ⟨rfl, hE1⟩
  go_wp2_with fail
  have b0 := modw a0 70 (by omega)
  have b2 := modw a2 8 (by omega)
  obtain ⟨c, hc⟩ : ∃ c, c = 1 + (IntKind.u64.wrap a0).tmod 70 := ⟨_, rfl⟩
  obtain ⟨n, hn⟩ : ∃ n, n = 1 + (IntKind.u64.wrap a2).tmod 8 := ⟨_, rfl⟩
  have ec : wrap64 (1 + wrap64 ((IntKind.u64.wrap a0).tmod 70)) = c := by
    rw [show wrap64 ((IntKind.u64.wrap a0).tmod 70) = (IntKind.u64.wrap a0).tmod 70 from by unfold wrap64; omega, ← hc]
    unfold wrap64; omega
  have en : wrap64 (1 + wrap64 ((IntKind.u64.wrap a2).tmod 8)) = n := by
    rw [show wrap64 ((IntKind.u64.wrap a2).tmod 8) = (IntKind.u64.wrap a2).tmod 8 from by unfold wrap64; omega, ← hn]
    unfold wrap64; omega
  rw [ec, en]
  have c1 : 1 ≤ c := by omega
  have c2 : c ≤ 70 := by omega
  have n1 : 1 ≤ n := by omega
  have n2 : n ≤ 8 := by omega
  have HC := Lib.hid hc
  have HN := Lib.hid hn
  clear hc hn ec en b0 b2
  go_loopw [7, 8] (fun v i wr => ∃ k : Nat, k ≤ us.length ∧ k ≤ 10 ∧ i = .int .i64 k ∧ Ext [] w wr ∧ Hid (ER.Ow 41 wr v (us.take k) ∧ ∀ g ∈ blkL v, w.heap.size ≤ g)) (fun _ i _ => us.length - (intOf i).toNat)
  case atStart => exact ⟨0, Nat.zero_le _, by omega, rfl, hE1, .inl ⟨rfl, by simp⟩, by simp [blkL]⟩
  case round =>
    obtain ⟨k, hk, hk10, rfl, hB, HV⟩ := hrel
    by_cases hlt : k < us.length
    · by_cases hlt2 : k < 10
      · obtain ⟨g, o, rfl⟩ : ∃ g o, pu = some ⟨g, o, none⟩ := by
          rcases HU.out (by intro h; rw [h] at hlt; simp at hlt) with ⟨_, h⟩ | ⟨g, o, c, h, _⟩
          · rw [h] at hlt; simp at hlt
          · cases h; exact ⟨g, o, rfl⟩
        obtain ⟨hm1, hm2⟩ := ER_cells ((HU.out (by intro h; rw [h] at hlt; simp at hlt)).ext0 hB) k hlt
        have hts : us.take (k + 1) = us.take k ++ [us.getD k (0,0)] := take_step hlt
        obtain ⟨x, hx⟩ : ∃ x, x = us.getD k (0,0) := ⟨_, rfl⟩
        rw [← hx] at hm1 hm2 hts
        have HTS := Lib.hid hts
        clear hx hts
        have z1 : (k : Int) < ((us.length : Nat) : Int) := by omega
        have z2 : (k : Int) < 10 := by omega
        have hd1 := (Ext.refl [] wr).drew.cell hm1 (by simp)
        have hd2 := (Ext.refl [] wr).drew.cell hm2 (by simp)
        go_wp2_with fail
        refine wp_region_u (fun W => W.cell? ⟨g, o + k * 2, none⟩ = some (.int .i64 x.1) ∧ W.cell? ⟨g, o + k * 2 + 1, none⟩ = some (.int .i64 x.2)) (fun i => decide (i < 12) && !(i == 0)) (by kernel_rfl) (⟨hd1, hd2⟩) (fun hS => ?_)
        (refine wpAnyU_pure (i := 0) rfl (by kernel_rfl) (by kernel_rfl) (by kernel_rfl) (by rfl) (by exact fun _ _ _ h => h) (Or.inl ⟨by rfl, fun W => by (go_simp; try rfl)⟩) ?_); (try go_frame)
        (refine wpAnyU_take (i := 1) rfl (by kernel_rfl) (by kernel_rfl) (by kernel_rfl) (by kernel_rfl) (by exact fun _ _ _ h => h) (by assumption) (Or.inl ⟨by rfl, fun W hW => by (have hWW := hW; clear hW; go_split_ands; go_simp; try rfl)⟩) ?_); (try go_frame)
        (refine wpAnyU_take (i := 2) rfl (by kernel_rfl) (by kernel_rfl) (by kernel_rfl) (by kernel_rfl) (by exact fun _ _ _ h => h) (by assumption) (Or.inl ⟨by rfl, fun W hW => by (have hWW := hW; clear hW; go_split_ands; go_simp; try rfl)⟩) ?_); (try go_frame)
        (refine wpAnyU_take (i := 3) rfl (by kernel_rfl) (by kernel_rfl) (by kernel_rfl) (by kernel_rfl) (by exact fun _ _ _ h => h) (by assumption) (Or.inl ⟨by rfl, fun W hW => by (have hWW := hW; clear hW; go_split_ands; go_simp; try rfl)⟩) ?_); (try go_frame)
        (refine wpAnyU_take (i := 4) rfl (by kernel_rfl) (by kernel_rfl) (by kernel_rfl) (by kernel_rfl) (by exact fun _ _ _ h => h) (by assumption) (Or.inl ⟨by rfl, fun W hW => by (have hWW := hW; clear hW; go_split_ands; go_simp; try rfl)⟩) ?_); (try go_frame)
        (refine wpAnyU_take (i := 5) rfl (by kernel_rfl) (by kernel_rfl) (by kernel_rfl) (by kernel_rfl) (by exact fun _ _ _ h => h) (by assumption) (Or.inl ⟨by rfl, fun W hW => by (have hWW := hW; clear hW; go_split_ands; go_simp; try rfl)⟩) ?_); (try go_frame)
        (refine wpAnyU_take (i := 6) rfl (by kernel_rfl) (by kernel_rfl) (by kernel_rfl) (by kernel_rfl) (by exact fun _ _ _ h => h) (by assumption) (Or.inl ⟨by rfl, fun W hW => by (have hWW := hW; clear hW; go_split_ands; go_simp; try rfl)⟩) ?_); (try go_frame)
        (refine wpAnyU_take (i := 7) rfl (by kernel_rfl) (by kernel_rfl) (by kernel_rfl) (by kernel_rfl) (by exact fun _ _ _ h => h) (by assumption) (Or.inl ⟨by rfl, fun W hW => by (have hWW := hW; clear hW; go_split_ands; go_simp; try rfl)⟩) ?_); (try go_frame)
        (refine wpAnyU_take (i := 8) rfl (by kernel_rfl) (by kernel_rfl) (by kernel_rfl) (by kernel_rfl) (by exact fun _ _ _ h => h) (by assumption) (Or.inl ⟨by rfl, fun W hW => by (have hWW := hW; clear hW; go_split_ands; go_simp; try rfl)⟩) ?_); (try go_frame)
        (refine wpAnyU_take (i := 9) rfl (by kernel_rfl) (by kernel_rfl) (by kernel_rfl) (by kernel_rfl) (by exact fun _ _ _ h => h) (by assumption) (Or.inl ⟨by rfl, fun W hW => by (have hWW := hW; clear hW; go_split_ands; go_simp; try rfl)⟩) ?_); (try go_frame)
        (refine wpAnyU_take (i := 10) rfl (by kernel_rfl) (by kernel_rfl) (by kernel_rfl) (by kernel_rfl) (by exact fun _ _ _ h => h) (by assumption) (Or.inl ⟨by rfl, fun W hW => by (have hWW := hW; clear hW; go_split_ands; go_simp; try rfl)⟩) ?_); (try go_frame)
        (refine wpAnyU_take (i := 11) rfl (by kernel_rfl) (by kernel_rfl) (by kernel_rfl) (by kernel_rfl) (by exact fun _ _ _ h => h) (by assumption) (Or.inl ⟨by rfl, fun W hW => by (have hWW := hW; clear hW; go_split_ands; go_simp; try rfl)⟩) ?_); (try go_frame)
        refine wpAnyU_one (i := 12) (by kernel_rfl) rfl (fun K hK => ?_)
        (try simp only [Act.put, List.getElem_toArray, List.getElem_cons_zero, List.getElem_cons_succ, List.setIfInBounds_toArray, List.set_cons_zero, List.set_cons_succ]); rw [if_pos (show Region.wanted _ _ = true from rfl)]
        go_simp
        refine hK.out _ _ (fun h => by cases h) (fun _ => ?_)
        clear hK
        refine wpAnyU_one (i := 13) (by kernel_rfl) rfl (fun K hK => ?_)
        (try simp only [Act.put, List.getElem_toArray, List.getElem_cons_zero, List.getElem_cons_succ, List.setIfInBounds_toArray, List.set_cons_zero, List.set_cons_succ]); rw [if_pos (show Region.wanted _ _ = true from rfl)]
        refine opw_append (s := .tmp 41) (x := .tmp 53) (E := ER) (T := 41) (zero := (0,0)) (bytes := 16) (v := u7) (xs := us.take k) (ys := [(x.1, x.2)]) tiR Try.underlying38 Try.underlying38 rfl rfl rfl (HV.out.1.ext0 ((Ext.refl [] wr).drew.alloc _)) ((one_rd rfl).rd) (by simp; omega) (by simp; omega) ?_
        intro v5 w5 how5 hE5 hnear5 _
        refine hK.out _ _ (fun h => by cases h) (fun _ => ?_)
        (refine wpAnyU_pure (i := 14) rfl (by kernel_rfl) (by kernel_rfl) (by kernel_rfl) (by rfl) (by exact fun _ _ _ h => h) (Or.inl ⟨by rfl, fun W => by (go_simp; try rfl)⟩) ?_); (try go_frame)
        refine wpAnyU_done (by kernel_rfl) ?_ _
        clear hK hS
        go_wp2
        go_roundw
        case rel =>
          have hEw : Ext [] w w5 := (hB.trans ((Ext.refl [] wr).drew.alloc _)).trans' hE5 (by simp) (fun x hx => .inr (HV.out.2 x hx))
          refine ⟨k + 1, by omega, by omega, by go_num, hEw, ?_⟩
          refine ⟨by rw [HTS.out]; exact how5, fun y hy => ?_⟩
          rcases hnear5 y hy with h | h
          · exact HV.out.2 y h
          · have h1 := hB.size
            have h2 : wr.heap.size + 1 ≤ y := by simpa using h
            omega
        case measure => simp [intOf]; omega
      · have z1 : (k : Int) < ((us.length : Nat) : Int) := by omega
        have z2 : ¬ ((k : Int) < 10) := by omega
        have hlk : (us.take k).length ≤ 9223372036854775807 := by simp; omega
        obtain ⟨us', hus⟩ : ∃ us', us' = us.take k := ⟨_, rfl⟩
        rw [← hus] at HV hlk
        clear hus
        go_wp2_with fail
        refine (new_c c _ us' _ HV.out.1.rd (by omega) (by omega) hlk).mono ?_
        rintro e W2 ⟨p, err, rfl, hE2, hrel⟩
        rcases hrel with ⟨h, _⟩ | ⟨_, _, _, rfl, rfl⟩ | ⟨_, _, _, _, rfl, rfl⟩ | ⟨_, _, _, _, rfl, b, s, rfl, hb, hr, hi, hf⟩
        · omega
        · go_wp2
          go_ret
          exact ⟨rfl, hB.trans hE2⟩
        · go_wp2
          go_ret
          exact ⟨rfl, hB.trans hE2⟩
        · have k0 := hf.back
          have c0 := hf.cells
          have HR := Lib.hid hr
          have HI := Lib.hid hi
          clear hr hi hf
          have hbw : w.heap.size ≤ b := by have := hB.size; omega
          have hB0 : Ext [] w W2 := hB.trans hE2
          clear hB HV hE2 hlk
          go_wp2_with fail
          go_loopw [11, 12, 13, 14, 15, 16, 17, 18] (fun lv iv _ _ _ _ _ _ wr => ∃ (l i : Int) (s : Spc), lv = .int .i64 l ∧ iv = .int .i64 i ∧ 0 ≤ i ∧ i ≤ c + 1 ∧ i - 1 ≤ l ∧ l < c ∧ Ext [] w wr ∧ Hid (SpR wr b s) ∧ Hid (SpI s ∧ s.back = 0 ∧ s.cells = c) ∧ Hid (∀ y ∈ s.free, n ≤ y.2 - y.1 → l < y.1)) (fun _ iv _ _ _ _ _ _ _ => (c + 1 - intOf iv).toNat)
          case atStart => exact ⟨-1, 0, s, rfl, rfl, by omega, by omega, by omega, by omega, hB0, HR, ⟨HI.out, k0, c0⟩, fun y hy _ => by have := HI.out.okF.2 y hy; omega⟩
          case round =>
            clear HR HI k0 c0 hB0
            obtain ⟨l, i, s, rfl, rfl, i0, i1, l0, l1, hB, HR, HI, HL⟩ := hrel
            by_cases hic : i ≤ c
            · have hlF := HI.out.1.okF.len
              go_wp2_with fail
              refine (ranges_c b s _ HR.out HI.out.1).mono ?_
              rintro e W3 ⟨v3, rfl, how3, hE3, hnew3⟩
              obtain ⟨p3, c3, rfl, _⟩ := how3.rd.len_eq
              have HO3 := Lib.hid how3
              clear how3 hnew3
              go_wp2_with fail
              go_loopw [14, 15, 16] (fun fv ff kv wr' => ∃ q : Nat, q ≤ s.free.length ∧ kv = .int .i64 q ∧ Ext [] W3 wr' ∧ ((fv = .bool false ∧ ff = .int .i64 0 ∧ Hid ((s.free.take q).find? (fitsB n) = none)) ∨ ∃ x : Rng, fv = .bool true ∧ ff = .int .i64 x.1 ∧ Hid (s.free.find? (fitsB n) = some x))) (fun _ _ kv _ => s.free.length - (intOf kv).toNat)
              case atStart => exact ⟨0, Nat.zero_le _, rfl, Ext.refl _ _, .inl ⟨rfl, rfl, rfl⟩⟩
              case round =>
                obtain ⟨q, hq, rfl, hB3, hcase⟩ := hrel
                rcases hcase with ⟨rfl, rfl, hnone⟩ | ⟨x, rfl, rfl, hsome⟩
                · by_cases hlq : q < s.free.length
                  · obtain ⟨g3, o3, rfl⟩ : ∃ g o, p3 = some ⟨g, o, none⟩ := by
                      rcases HO3.out.rd with ⟨_, h⟩ | ⟨g, o, c, h, _⟩
                      · rw [h] at hlq; simp at hlq
                      · cases h; exact ⟨g, o, rfl⟩
                    obtain ⟨hm1, hm2⟩ := ER_cells (HO3.out.rd.ext0 hB3) q hlq
                    have hx0 := HI.out.1.okF.at hlq
                    have hst := find_step hlq (fitsB n) hnone.out
                    have hmem := getD_mem hlq
                    obtain ⟨x, hx⟩ : ∃ x, x = s.free.getD q (0,0) := ⟨_, rfl⟩
                    rw [← hx] at hm1 hm2 hx0 hst hmem
                    have HST := Lib.hid hst
                    have HM := Lib.hid hmem
                    obtain ⟨x1, x2, x3⟩ := hx0
                    have y1 : (q : Int) < ((s.free.length : Nat) : Int) := by omega
                    clear hx hst hmem
                    have e1 : IntKind.i64.wrap (x.2 - x.1) = x.2 - x.1 := IntWalk.i64_in _ (by omega)
                    have d0 : (0 : Int) ≤ (q : Int) := by omega
                    have d1 : ((q : Nat) : Int).toNat = q := by omega
                    by_cases hfit : n ≤ x.2 - x.1
                    · have hfb : fitsB n x = true := by simp [fitsB]; omega
                      have HFB := Lib.hid hfb
                      clear hfb
                      go_wp2_with fail
                      go_quiet (fail)
                      go_wp2_with fail
                      go_quiet (fail)
                      go_wp2
                      go_roundw
                      case rel =>
                        refine ⟨q + 1, by omega, by go_num, by first | exact (hB3.drewN _).drewN _ | exact hB3.drewN _ | exact hB3, .inr ⟨x, rfl, rfl, ?_⟩⟩
                        have h := HST.out
                        rw [if_pos HFB.out] at h
                        exact find_more h
                      case measure => simp [intOf]; omega
                    · have hfb : ¬ fitsB n x = true := by simp [fitsB]; omega
                      have HFB := Lib.hid hfb
                      have hfit' : decide (n ≤ x.2 - x.1) = false := by simpa using hfit
                      clear hfb
                      go_wp2_with fail
                      go_quiet (fail)
                      go_wp2_with fail
                      go_roundw
                      case rel =>
                        refine ⟨q + 1, by omega, by go_num, by first | exact (hB3.drewN _).drewN _ | exact hB3.drewN _ | exact hB3, .inl ⟨rfl, rfl, ?_⟩⟩
                        have h := HST.out
                        rw [if_neg HFB.out] at h
                        exact h
                      case measure => simp [intOf]; omega
                  · have hnone' : s.free.find? (fitsB n) = none := by have h := hnone.out; rwa [List.take_of_length_le (by omega)] at h
                    have y1 : ¬ ((q : Int) < ((s.free.length : Nat) : Int)) := by omega
                    go_wp2_with fail
                    refine (take_c b s n _ ((HR.out.ext0 hE3).ext0 hB3) HI.out.1 (by omega) (by omega)).mono ?_
                    rintro e W5 ⟨s5, a, err, rfl, hr5, hi5, hE5, hrel⟩
                    obtain ⟨rfl, rfl⟩ : a = 0 ∧ err = 5 := by
                      rcases hrel with ⟨h, _⟩ | ⟨_, _, _, h1, h2⟩ | ⟨_, _, ⟨f, h, _⟩, _⟩
                      · omega
                      · exact ⟨h1, h2⟩
                      · rw [hnone'] at h; cases h
                    have hEw : Ext [] w W5 := ((hB.trans hE3).trans hB3).trans' hE5 (by simp) (fun y hy => .inr (by simp at hy; subst hy; exact hbw))
                    clear hrel hr5 hi5
                    go_wp2
                    go_ret
                    exact ⟨rfl, hEw⟩
                · by_cases hlq : q < s.free.length
                  · have y1 : (q : Int) < ((s.free.length : Nat) : Int) := by omega
                    have hxm := List.mem_of_find?_eq_some hsome.out
                    have hxf := List.find?_some hsome.out
                    simp only [fitsB, decide_eq_true_eq] at hxf
                    have hcnt := fit_count HI.out.1.okF hxm
                    have hcell := HI.out.1.okF.2 x hxm
                    have hxc : x.1 < c := by
                      have := (HI.out.1.all x.1).2 (.inl ⟨x, hxm, by omega, by omega⟩)
                      rw [HI.out.2.2] at this
                      omega
                    have hxl := HL.out x hxm hxf
                    have hk0 := HI.out.2.1
                    go_wp2_with fail
                    refine (take_c b s n _ ((HR.out.ext0 hE3).ext0 hB3) HI.out.1 (by omega) (by omega)).mono ?_
                    rintro e W5 ⟨s5, a, err, rfl, hr5, hi5, hE5, hrel⟩
                    obtain ⟨rfl, rfl, ht⟩ := hrel.ok (by omega) (by omega) hsome.out
                    have hnx := ht.next HI.out.1 hi5.okF (by omega) hsome.out
                    have hb5 : s5.back = 0 := by rw [ht.back]; exact hk0
                    have hc5 : s5.cells = c := by rw [ht.cells]; exact HI.out.2.2
                    have HR5 := Lib.hid hr5
                    have HI5 := Lib.hid hi5
                    have HNX := Lib.hid hnx
                    have w1 : ¬ (x.1 ≤ l) := by omega
                    have hEw : Ext [] w W5 := ((hB.trans hE3).trans hB3).trans' hE5 (by simp) (fun y hy => .inr (by simp at hy; subst hy; exact hbw))
                    clear hrel ht hr5 hi5 hnx
                    go_wp2_with fail
                    go_roundw
                    case rel => exact ⟨x.1, i + 1, s5, rfl, by go_num, by omega, by omega, by omega, hxc, hEw, HR5, ⟨HI5.out, hb5, hc5⟩, HNX.out⟩
                    case measure => simp [intOf]; omega
                  · have y1 : ¬ ((q : Int) < ((s.free.length : Nat) : Int)) := by omega
                    have hxm := List.mem_of_find?_eq_some hsome.out
                    have hxf := List.find?_some hsome.out
                    simp only [fitsB, decide_eq_true_eq] at hxf
                    have hcnt := fit_count HI.out.1.okF hxm
                    have hcell := HI.out.1.okF.2 x hxm
                    have hxc : x.1 < c := by
                      have := (HI.out.1.all x.1).2 (.inl ⟨x, hxm, by omega, by omega⟩)
                      rw [HI.out.2.2] at this
                      omega
                    have hxl := HL.out x hxm hxf
                    have hk0 := HI.out.2.1
                    go_wp2_with fail
                    refine (take_c b s n _ ((HR.out.ext0 hE3).ext0 hB3) HI.out.1 (by omega) (by omega)).mono ?_
                    rintro e W5 ⟨s5, a, err, rfl, hr5, hi5, hE5, hrel⟩
                    obtain ⟨rfl, rfl, ht⟩ := hrel.ok (by omega) (by omega) hsome.out
                    have hnx := ht.next HI.out.1 hi5.okF (by omega) hsome.out
                    have hb5 : s5.back = 0 := by rw [ht.back]; exact hk0
                    have hc5 : s5.cells = c := by rw [ht.cells]; exact HI.out.2.2
                    have HR5 := Lib.hid hr5
                    have HI5 := Lib.hid hi5
                    have HNX := Lib.hid hnx
                    have w1 : ¬ (x.1 ≤ l) := by omega
                    have hEw : Ext [] w W5 := ((hB.trans hE3).trans hB3).trans' hE5 (by simp) (fun y hy => .inr (by simp at hy; subst hy; exact hbw))
                    clear hrel ht hr5 hi5 hnx
                    go_wp2_with fail
                    go_roundw
                    case rel => exact ⟨x.1, i + 1, s5, rfl, by go_num, by omega, by omega, by omega, hxc, hEw, HR5, ⟨HI5.out, hb5, hc5⟩, HNX.out⟩
                    case measure => simp [intOf]; omega
            · omega
    · have z1 : ¬ ((k : Int) < ((us.length : Nat) : Int)) := by omega
      have hlk : (us.take k).length ≤ 9223372036854775807 := by simp; omega
      obtain ⟨us', hus⟩ : ∃ us', us' = us.take k := ⟨_, rfl⟩
      rw [← hus] at HV hlk
      clear hus
      go_wp2_with fail
      refine (new_c c _ us' _ HV.out.1.rd (by omega) (by omega) hlk).mono ?_
      rintro e W2 ⟨p, err, rfl, hE2, hrel⟩
      rcases hrel with ⟨h, _⟩ | ⟨_, _, _, rfl, rfl⟩ | ⟨_, _, _, _, rfl, rfl⟩ | ⟨_, _, _, _, rfl, b, s, rfl, hb, hr, hi, hf⟩
      · omega
      · go_wp2
        go_ret
        exact ⟨rfl, hB.trans hE2⟩
      · go_wp2
        go_ret
        exact ⟨rfl, hB.trans hE2⟩
      · have k0 := hf.back
        have c0 := hf.cells
        have HR := Lib.hid hr
        have HI := Lib.hid hi
        clear hr hi hf
        have hbw : w.heap.size ≤ b := by have := hB.size; omega
        have hB0 : Ext [] w W2 := hB.trans hE2
        clear hB HV hE2 hlk
        go_wp2_with fail
        go_loopw [11, 12, 13, 14, 15, 16, 17, 18] (fun lv iv _ _ _ _ _ _ wr => ∃ (l i : Int) (s : Spc), lv = .int .i64 l ∧ iv = .int .i64 i ∧ 0 ≤ i ∧ i ≤ c + 1 ∧ i - 1 ≤ l ∧ l < c ∧ Ext [] w wr ∧ Hid (SpR wr b s) ∧ Hid (SpI s ∧ s.back = 0 ∧ s.cells = c) ∧ Hid (∀ y ∈ s.free, n ≤ y.2 - y.1 → l < y.1)) (fun _ iv _ _ _ _ _ _ _ => (c + 1 - intOf iv).toNat)
        case atStart => exact ⟨-1, 0, s, rfl, rfl, by omega, by omega, by omega, by omega, hB0, HR, ⟨HI.out, k0, c0⟩, fun y hy _ => by have := HI.out.okF.2 y hy; omega⟩
        case round =>
          clear HR HI k0 c0 hB0
          obtain ⟨l, i, s, rfl, rfl, i0, i1, l0, l1, hB, HR, HI, HL⟩ := hrel
          by_cases hic : i ≤ c
          · have hlF := HI.out.1.okF.len
            go_wp2_with fail
            refine (ranges_c b s _ HR.out HI.out.1).mono ?_
            rintro e W3 ⟨v3, rfl, how3, hE3, hnew3⟩
            obtain ⟨p3, c3, rfl, _⟩ := how3.rd.len_eq
            have HO3 := Lib.hid how3
            clear how3 hnew3
            go_wp2_with fail
            go_loopw [14, 15, 16] (fun fv ff kv wr' => ∃ q : Nat, q ≤ s.free.length ∧ kv = .int .i64 q ∧ Ext [] W3 wr' ∧ ((fv = .bool false ∧ ff = .int .i64 0 ∧ Hid ((s.free.take q).find? (fitsB n) = none)) ∨ ∃ x : Rng, fv = .bool true ∧ ff = .int .i64 x.1 ∧ Hid (s.free.find? (fitsB n) = some x))) (fun _ _ kv _ => s.free.length - (intOf kv).toNat)
            case atStart => exact ⟨0, Nat.zero_le _, rfl, Ext.refl _ _, .inl ⟨rfl, rfl, rfl⟩⟩
            case round =>
              obtain ⟨q, hq, rfl, hB3, hcase⟩ := hrel
              rcases hcase with ⟨rfl, rfl, hnone⟩ | ⟨x, rfl, rfl, hsome⟩
              · by_cases hlq : q < s.free.length
                · obtain ⟨g3, o3, rfl⟩ : ∃ g o, p3 = some ⟨g, o, none⟩ := by
                    rcases HO3.out.rd with ⟨_, h⟩ | ⟨g, o, c, h, _⟩
                    · rw [h] at hlq; simp at hlq
                    · cases h; exact ⟨g, o, rfl⟩
                  obtain ⟨hm1, hm2⟩ := ER_cells (HO3.out.rd.ext0 hB3) q hlq
                  have hx0 := HI.out.1.okF.at hlq
                  have hst := find_step hlq (fitsB n) hnone.out
                  have hmem := getD_mem hlq
                  obtain ⟨x, hx⟩ : ∃ x, x = s.free.getD q (0,0) := ⟨_, rfl⟩
                  rw [← hx] at hm1 hm2 hx0 hst hmem
                  have HST := Lib.hid hst
                  have HM := Lib.hid hmem
                  obtain ⟨x1, x2, x3⟩ := hx0
                  have y1 : (q : Int) < ((s.free.length : Nat) : Int) := by omega
                  clear hx hst hmem
                  have e1 : IntKind.i64.wrap (x.2 - x.1) = x.2 - x.1 := IntWalk.i64_in _ (by omega)
                  have d0 : (0 : Int) ≤ (q : Int) := by omega
                  have d1 : ((q : Nat) : Int).toNat = q := by omega
                  by_cases hfit : n ≤ x.2 - x.1
                  · have hfb : fitsB n x = true := by simp [fitsB]; omega
                    have HFB := Lib.hid hfb
                    clear hfb
                    go_wp2_with fail
                    go_quiet (fail)
                    go_wp2_with fail
                    go_quiet (fail)
                    go_wp2
                    go_roundw
                    case rel =>
                      refine ⟨q + 1, by omega, by go_num, by first | exact (hB3.drewN _).drewN _ | exact hB3.drewN _ | exact hB3, .inr ⟨x, rfl, rfl, ?_⟩⟩
                      have h := HST.out
                      rw [if_pos HFB.out] at h
                      exact find_more h
                    case measure => simp [intOf]; omega
                  · have hfb : ¬ fitsB n x = true := by simp [fitsB]; omega
                    have HFB := Lib.hid hfb
                    have hfit' : decide (n ≤ x.2 - x.1) = false := by simpa using hfit
                    clear hfb
                    go_wp2_with fail
                    go_quiet (fail)
                    go_wp2_with fail
                    go_roundw
                    case rel =>
                      refine ⟨q + 1, by omega, by go_num, by first | exact (hB3.drewN _).drewN _ | exact hB3.drewN _ | exact hB3, .inl ⟨rfl, rfl, ?_⟩⟩
                      have h := HST.out
                      rw [if_neg HFB.out] at h
                      exact h
                    case measure => simp [intOf]; omega
                · have hnone' : s.free.find? (fitsB n) = none := by have h := hnone.out; rwa [List.take_of_length_le (by omega)] at h
                  have y1 : ¬ ((q : Int) < ((s.free.length : Nat) : Int)) := by omega
                  go_wp2_with fail
                  refine (take_c b s n _ ((HR.out.ext0 hE3).ext0 hB3) HI.out.1 (by omega) (by omega)).mono ?_
                  rintro e W5 ⟨s5, a, err, rfl, hr5, hi5, hE5, hrel⟩
                  obtain ⟨rfl, rfl⟩ : a = 0 ∧ err = 5 := by
                    rcases hrel with ⟨h, _⟩ | ⟨_, _, _, h1, h2⟩ | ⟨_, _, ⟨f, h, _⟩, _⟩
                    · omega
                    · exact ⟨h1, h2⟩
                    · rw [hnone'] at h; cases h
                  have hEw : Ext [] w W5 := ((hB.trans hE3).trans hB3).trans' hE5 (by simp) (fun y hy => .inr (by simp at hy; subst hy; exact hbw))
                  clear hrel hr5 hi5
                  go_wp2
                  go_ret
                  exact ⟨rfl, hEw⟩
              · by_cases hlq : q < s.free.length
                · have y1 : (q : Int) < ((s.free.length : Nat) : Int) := by omega
                  have hxm := List.mem_of_find?_eq_some hsome.out
                  have hxf := List.find?_some hsome.out
                  simp only [fitsB, decide_eq_true_eq] at hxf
                  have hcnt := fit_count HI.out.1.okF hxm
                  have hcell := HI.out.1.okF.2 x hxm
                  have hxc : x.1 < c := by
                    have := (HI.out.1.all x.1).2 (.inl ⟨x, hxm, by omega, by omega⟩)
                    rw [HI.out.2.2] at this
                    omega
                  have hxl := HL.out x hxm hxf
                  have hk0 := HI.out.2.1
                  go_wp2_with fail
                  refine (take_c b s n _ ((HR.out.ext0 hE3).ext0 hB3) HI.out.1 (by omega) (by omega)).mono ?_
                  rintro e W5 ⟨s5, a, err, rfl, hr5, hi5, hE5, hrel⟩
                  obtain ⟨rfl, rfl, ht⟩ := hrel.ok (by omega) (by omega) hsome.out
                  have hnx := ht.next HI.out.1 hi5.okF (by omega) hsome.out
                  have hb5 : s5.back = 0 := by rw [ht.back]; exact hk0
                  have hc5 : s5.cells = c := by rw [ht.cells]; exact HI.out.2.2
                  have HR5 := Lib.hid hr5
                  have HI5 := Lib.hid hi5
                  have HNX := Lib.hid hnx
                  have w1 : ¬ (x.1 ≤ l) := by omega
                  have hEw : Ext [] w W5 := ((hB.trans hE3).trans hB3).trans' hE5 (by simp) (fun y hy => .inr (by simp at hy; subst hy; exact hbw))
                  clear hrel ht hr5 hi5 hnx
                  go_wp2_with fail
                  go_roundw
                  case rel => exact ⟨x.1, i + 1, s5, rfl, by go_num, by omega, by omega, by omega, hxc, hEw, HR5, ⟨HI5.out, hb5, hc5⟩, HNX.out⟩
                  case measure => simp [intOf]; omega
                · have y1 : ¬ ((q : Int) < ((s.free.length : Nat) : Int)) := by omega
                  have hxm := List.mem_of_find?_eq_some hsome.out
                  have hxf := List.find?_some hsome.out
                  simp only [fitsB, decide_eq_true_eq] at hxf
                  have hcnt := fit_count HI.out.1.okF hxm
                  have hcell := HI.out.1.okF.2 x hxm
                  have hxc : x.1 < c := by
                    have := (HI.out.1.all x.1).2 (.inl ⟨x, hxm, by omega, by omega⟩)
                    rw [HI.out.2.2] at this
                    omega
                  have hxl := HL.out x hxm hxf
                  have hk0 := HI.out.2.1
                  go_wp2_with fail
                  refine (take_c b s n _ ((HR.out.ext0 hE3).ext0 hB3) HI.out.1 (by omega) (by omega)).mono ?_
                  rintro e W5 ⟨s5, a, err, rfl, hr5, hi5, hE5, hrel⟩
                  obtain ⟨rfl, rfl, ht⟩ := hrel.ok (by omega) (by omega) hsome.out
                  have hnx := ht.next HI.out.1 hi5.okF (by omega) hsome.out
                  have hb5 : s5.back = 0 := by rw [ht.back]; exact hk0
                  have hc5 : s5.cells = c := by rw [ht.cells]; exact HI.out.2.2
                  have HR5 := Lib.hid hr5
                  have HI5 := Lib.hid hi5
                  have HNX := Lib.hid hnx
                  have w1 : ¬ (x.1 ≤ l) := by omega
                  have hEw : Ext [] w W5 := ((hB.trans hE3).trans hB3).trans' hE5 (by simp) (fun y hy => .inr (by simp at hy; subst hy; exact hbw))
                  clear hrel ht hr5 hi5 hnx
                  go_wp2_with fail
                  go_roundw
                  case rel => exact ⟨x.1, i + 1, s5, rfl, by go_num, by omega, by omega, by omega, hxc, hEw, HR5, ⟨HI5.out, hb5, hc5⟩, HNX.out⟩
                  case measure => simp [intOf]; omega
          · omega

end Go.Proofs.Ytaknhoplgcnhkaa
