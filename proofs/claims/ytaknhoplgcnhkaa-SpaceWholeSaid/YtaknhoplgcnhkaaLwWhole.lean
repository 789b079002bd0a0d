
import Derived.Test.YtaknhoplgcnhkaaWh
namespace Go.Proofs.Ytaknhoplgcnhkaa
open Go.RowKit

/-- a space, and what is held of it. -/
def WholeRel (w : World) (b C : Nat) (W : World) (fv cv : Value) (m : Nat) : Prop := ∃ (s : Spc) (L : List (Int × Int)), L.length = m ∧ Ext [] w W ∧ Hid (SpR W b s) ∧ Hid (SpI s ∧ s.back = 0 ∧ s.cells = C ∧ Parts s L) ∧
  Hid (EI.Ow 3 W fv (L.map Prod.fst) ∧ EI.Ow 3 W cv (L.map Prod.snd) ∧ (∀ g ∈ blkL fv, w.heap.size ≤ g) ∧ (∀ g ∈ blkL cv, w.heap.size ≤ g) ∧ ∀ g ∈ blkL fv, g ∉ blkL cv)

def lenOf : Value → Nat
  | .slice _ n _ => n
  | _ => 0

set_option maxRecDepth 100000 in
set_option maxHeartbeats 4000000 in
theorem whole_walk (a0 : Int) (v1 : Value) (xs : List Int) (v2 : Value) (ys : List Int) (w : World) (hx : AR EI w v1 xs) (hy : AR EI w v2 ys) :
    Calls Try.prog 5 #[.int .i64 a0, v1, v2] w fun e w' => e = .returned (.bool true) ∧ Ext [] w w' := by
  obtain ⟨pu, cu, rfl, hx⟩ := hx
  obtain ⟨py, cy, rfl, hy⟩ := hy
  have HU := Lib.hid hx
  have HY := Lib.hid hy
  clear hx hy
  have b0 := modw a0 200 (by omega)
  obtain ⟨C, hc⟩ : ∃ C : Nat, (C : Int) = 1 + (IntKind.u64.wrap a0).tmod 200 := ⟨(1 + (IntKind.u64.wrap a0).tmod 200).toNat, by omega⟩
  have ec : wrap64 (1 + wrap64 ((IntKind.u64.wrap a0).tmod 200)) = (C : Int) := by
    rw [show wrap64 ((IntKind.u64.wrap a0).tmod 200) = (IntKind.u64.wrap a0).tmod 200 from by unfold wrap64; omega, ← hc]
    unfold wrap64; omega
  have c1 : 1 ≤ C := by omega
  have c2 : C ≤ 200 := by omega
  have HC := Lib.hid hc
  have HEC := Lib.hid ec
  clear hc ec b0
  go_enter Try.func5, Try.ntmps5
  go_wp2_with fail
  refine (known_c _).mono ?_
  rintro e W1 ⟨rfl, hE1⟩
  go_wp2_with fail
  rw [HEC.out]
  refine (new_c C _ [] _ (.inl ⟨rfl, rfl⟩) (by omega) (by omega) (by simp)).mono ?_
  rintro e W2 ⟨p, err, rfl, hE2, hrel⟩
  obtain ⟨rfl, b, s, rfl, hb, hr, hi, hf⟩ := hrel.ok (by omega) (by omega) rfl (by intro i hi; simp at hi)
  obtain ⟨hfr, hus⟩ := hf.all hi
  have hE3 : Ext [] w W2 := hE1.trans hE2
  have hbw : w.heap.size ≤ b := by have := hE1.size; omega
  have hRel : WholeRel w b C W2 (.slice none 0 0) (.slice none 0 0) 0 := ⟨s, [], rfl, hE3, hr, ⟨hi, hf.back, hf.cells, Parts.nil hus⟩, ⟨.inl ⟨rfl, rfl⟩, .inl ⟨rfl, rfl⟩, by simp [blkL], by simp [blkL], by simp [blkL]⟩⟩
  clear hrel hr hi hf hfr hus hE3 hE1 hE2 hb
  go_upto_block 0 with fail
  go_cut [9, 10, 11, 12, 13, 14] (fun fv cv _ _ _ _ W => ∃ m : Nat, m ≤ 40 ∧ WholeRel w b C W fv cv m)
  case first =>
    go_wp2_with fail
    go_loopw [9, 10, 11, 12, 13, 14] (fun fv cv iv _ _ _ wr => ∃ k m : Nat, m ≤ k ∧ k ≤ xs.length ∧ k ≤ 40 ∧ iv = .int .i64 k ∧ WholeRel w b C wr fv cv m) (fun _ _ iv _ _ _ _ => xs.length - (intOf iv).toNat)
    case atStart => exact ⟨0, 0, Nat.le_refl _, Nat.zero_le _, by omega, rfl, hRel⟩
    case round =>
      clear hRel
      obtain ⟨k, m, hm, hk, hk40, rfl, s, L, hL, hB, HR, HI, HV⟩ := hrel
      by_cases hlt : k < xs.length
      · have z1 : (k : Int) < ((xs.length : Nat) : Int) := by omega
        by_cases hlt2 : k < 40
        · have z2 : (k : Int) < 40 := by omega
          obtain ⟨ga, o, rfl⟩ : ∃ g o, pu = some ⟨g, o, none⟩ := by
            rcases HU.out (by intro h; rw [h] at hlt; simp at hlt) with ⟨_, h⟩ | ⟨g, o, c, h, _⟩
            · rw [h] at hlt; simp at hlt
            · cases h; exact ⟨g, o, rfl⟩
          have hm1 := EI_cell ((HU.out (by intro h; rw [h] at hlt; simp at hlt)).ext0 hB) k hlt
          obtain ⟨nn, hx⟩ : ∃ x, x = xs.getD k 0 := ⟨_, rfl⟩
          rw [← hx] at hm1
          clear hx
          have b1 := modw nn 9 (by omega)
          obtain ⟨N, hN⟩ : ∃ N : Nat, (N : Int) = 1 + (IntKind.u64.wrap nn).tmod 9 := ⟨(1 + (IntKind.u64.wrap nn).tmod 9).toNat, by omega⟩
          have eN : wrap64 (1 + wrap64 ((IntKind.u64.wrap nn).tmod 9)) = (N : Int) := by
            rw [show wrap64 ((IntKind.u64.wrap nn).tmod 9) = (IntKind.u64.wrap nn).tmod 9 from by unfold wrap64; omega, ← hN]
            unfold wrap64; omega
          have n1 : 1 ≤ N := by omega
          have n2 : N ≤ 9 := by omega
          clear hN b1
          go_wp2_with fail
          rw [eN]
          refine (take_c b s N _ HR.out HI.out.1 (by omega) (by omega)).mono ?_
          rintro e W5 ⟨s5, a, err, rfl, hr5, hi5, hE5, hrel⟩
          have hEw : Ext [] w W5 := hB.trans' hE5 (by simp) (fun y hy => .inr (by simp at hy; subst hy; exact hbw))
          have hbk : ∀ (fv : Value) (l : List Int), EI.Ow 3 wr fv l → EI.Ow 3 W5 fv l := fun fv l h => by
            obtain ⟨c, hc⟩ := HR.out.blk
            exact h.ext hE5 (by simpa using h.ne hc (by decide))
          have HBK := Lib.hid hbk
          have HR5 := Lib.hid hr5
          have HI5 := Lib.hid hi5
          clear hr5 hi5 hbk
          rcases hrel with ⟨h1, _⟩ | ⟨_, _, rfl, rfl, rfl⟩ | ⟨_, _, _, rfl, ht⟩
          · omega
          · go_wp2_with fail
            go_roundw
            case rel => exact ⟨k + 1, m, by omega, by omega, by omega, by go_num, s5, L, hL, hEw, HR5, HI, ⟨HBK.out _ _ HV.out.1, HBK.out _ _ HV.out.2.1, HV.out.2.2⟩⟩
            case measure => simp [intOf]; omega
          · have hP := HI.out.2.2.2.take HI.out.1 ht ⟨by omega, by omega⟩
            have hc5 : s5.cells = C := by rw [ht.cells]; exact HI.out.2.2.1
            have hb5 : s5.back = 0 := by rw [ht.back]; exact HI.out.2.1
            have HP := Lib.hid hP
            clear hP ht
            go_wp2_with (with_reducible refine hold_at (d := 60) ?_)
            refine wpl_of rfl fun K hK => opw_append (E := EI) (T := 3) (zero := 0) (bytes := 8) (v := u9) (xs := L.map Prod.fst) (ys := [a]) tiI Try.underlying29 Try.underlying29 rfl rfl rfl ((HBK.out _ _ HV.out.1).ext0 ((Ext.refl [] _).alloc _)) (one_int _ _) (by simp; omega) (by simp; omega) ?_
            intro v6 W6 how6 hE6 hnear6 _
            refine hK _ _ ?_
            clear hK
            have hc6 : EI.Ow 3 W6 u10 (L.map Prod.snd) := ((HBK.out _ _ HV.out.2.1).ext0 ((Ext.refl [] _).alloc _)).ext hE6 (fun g hg hg' => HV.out.2.2.2.2 g hg' hg)
            have hE56 : Ext (blkL u9) W5 W6 := (Ext.mono ((Ext.refl [] W5).alloc _) (by simp)).trans hE6
            have hf6 : ∀ g ∈ blkL v6, g ∈ blkL u9 ∨ W5.heap.size ≤ g := fun g hg => by
              rcases hnear6 g hg with h | h
              · exact .inl h
              · simp at h; exact .inr (by omega)
            have HC6 := Lib.hid hc6
            have HO6 := Lib.hid how6
            have HF6 := Lib.hid hf6
            have HE56 := Lib.hid hE56
            clear hc6 how6 hf6 hE56 hE6 hnear6
            go_wp2_with (with_reducible refine hold_at (d := 64) ?_)
            refine wpl_of rfl fun K hK => opw_append (E := EI) (T := 3) (zero := 0) (bytes := 8) (v := u10) (xs := L.map Prod.snd) (ys := [(N : Int)]) tiI Try.underlying29 Try.underlying29 rfl rfl rfl (HC6.out.ext0 ((Ext.refl [] _).alloc _)) (one_int _ _) (by simp; omega) (by simp; omega) ?_
            intro v7 W7 how7 hE7 hnear7 _
            refine hK _ _ ?_
            clear hK
            have hE67 : Ext (blkL u10) W6 W7 := (Ext.mono ((Ext.refl [] W6).alloc _) (by simp)).trans hE7
            have hrel : WholeRel w b C W7 v6 v7 (m + 1) := by
              have hU9 := (HBK.out _ _ HV.out.1)
              have hlt9 := hU9.lt
              have hlt10 := (HBK.out _ _ HV.out.2.1).lt
              have hs56 := HE56.out.size
              have hw5 := hEw.size
              have hn7 : ∀ g ∈ blkL v7, g ∈ blkL u10 ∨ W6.heap.size ≤ g := fun g hg => by
                rcases hnear7 g hg with h | h
                · exact .inl h
                · simp at h; exact .inr (by omega)
              have hf7 : ∀ g ∈ blkL v6, g ∉ blkL u10 := fun g hg hg' => by
                rcases HF6.out g hg with h | h
                · exact HV.out.2.2.2.2 g h hg'
                · have := hlt10 g hg'; omega
              obtain ⟨cb, hcb⟩ := HR5.out.blk
              have hbF : b ∉ blkL u9 := fun h => (hU9.ne hcb (by decide)) b h rfl
              have hbC : b ∉ blkL u10 := fun h => ((HBK.out _ _ HV.out.2.1).ne hcb (by decide)) b h rfl
              have hR6 : SpR W6 b s5 := by
                obtain ⟨pf, nf, cf, pu', nu, cu', pl, nl, cl, hb, a1, a2, a3⟩ := HR5.out
                have hne : ∀ {v : Value} {l : List Rng}, ER.Ow 41 W5 v l → ER.Ow 41 W6 v l := fun h => h.ext HE56.out (fun g hg hg' => by
                  obtain ⟨c', hc'⟩ := hU9.tag g hg'
                  exact h.ne hc' (by decide) g hg rfl)
                exact ⟨pf, nf, cf, pu', nu, cu', pl, nl, cl, HE56.out.blk hb hbF, hne a1, hne a2, hne a3⟩
              have hU10 := HC6.out
              have hR7 : SpR W7 b s5 := by
                obtain ⟨pf, nf, cf, pu', nu, cu', pl, nl, cl, hb, a1, a2, a3⟩ := hR6
                have hne : ∀ {v : Value} {l : List Rng}, ER.Ow 41 W6 v l → ER.Ow 41 W7 v l := fun h => h.ext hE67 (fun g hg hg' => by
                  obtain ⟨c', hc'⟩ := hU10.tag g hg'
                  exact h.ne hc' (by decide) g hg rfl)
                exact ⟨pf, nf, cf, pu', nu, cu', pl, nl, cl, hE67.blk hb hbC, hne a1, hne a2, hne a3⟩
              refine ⟨s5, L ++ [(a, (N : Int))], by simp [hL], ?_, hR7, ⟨HI5.out, hb5, hc5, HP.out⟩, ⟨?_, by simpa using how7, fun g hg => ?_, fun g hg => ?_, fun g hg hg' => ?_⟩⟩
              · have hEw6 : Ext [] w W6 := hEw.trans' HE56.out (by simp) (fun y hy => .inr (HV.out.2.2.1 y hy))
                exact hEw6.trans' hE67 (by simp) (fun y hy => .inr (HV.out.2.2.2.1 y hy))
              · have h := HO6.out.ext hE67 hf7
                simpa using h
              · rcases HF6.out g hg with h | h
                · exact HV.out.2.2.1 g h
                · omega
              · rcases hn7 g hg with h | h
                · exact HV.out.2.2.2.1 g h
                · omega
              · rcases hn7 g hg' with h | h
                · exact hf7 g hg h
                · have := HO6.out.lt g hg; omega
            clear how7 hE7 hnear7 hE67 HC6 HO6 HF6 HE56 HP HV HR5 HI5 HBK
            go_wp2
            go_roundw
            case rel => exact ⟨k + 1, m + 1, by omega, by omega, by omega, by go_num, hrel⟩
            case measure => simp [intOf]; omega
        · have z2 : ¬ ((k : Int) < 40) := by omega
          have z2' : decide ((k : Int) < 40) = false := by simpa using z2
          go_wp2_with fail
          go_meet
          exact ⟨m, by omega, s, L, hL, hB, HR, HI, HV⟩
      · have z1 : ¬ ((k : Int) < ((xs.length : Nat) : Int)) := by omega
        have z1' : decide ((k : Int) < ((xs.length : Nat) : Int)) = false := by simpa using z1
        go_wp2_with fail
        go_meet
        exact ⟨m, by omega, s, L, hL, hB, HR, HI, HV⟩
  case rest =>
    obtain ⟨m, hm40, hRel⟩ := hcut
    go_wp2_with fail
    go_loopw [9, 10, 15] (fun fv cv _ wr => ∃ m : Nat, m ≤ 40 ∧ WholeRel w b C wr fv cv m) (fun fv _ _ _ => lenOf fv)
    case atStart => exact ⟨m, hm40, hRel⟩
    case round =>
      clear hRel
      obtain ⟨m, hm40, s, L, hL, hB, HR, HI, HV⟩ := hrel
      obtain ⟨p9, c9, e9, l9⟩ := HV.out.1.rd.len_eq
      obtain ⟨p10, c10, e10, l10⟩ := HV.out.2.1.rd.len_eq
      rw [List.length_map, hL] at e9 e10 l9 l10
      subst e9 e10
      by_cases h0 : 0 < m
      · obtain ⟨g9, o9, rfl⟩ : ∃ g o, p9 = some ⟨g, o, none⟩ := by
          rcases HV.out.1.rd with ⟨_, h⟩ | ⟨g, o, c, h, _⟩
          · have := congrArg List.length h; simp [hL] at this; omega
          · simp only [Value.slice.injEq] at h; exact ⟨g, o, h.1⟩
        obtain ⟨g10, o10, rfl⟩ : ∃ g o, p10 = some ⟨g, o, none⟩ := by
          rcases HV.out.2.1.rd with ⟨_, h⟩ | ⟨g, o, c, h, _⟩
          · have := congrArg List.length h; simp [hL] at this; omega
          · simp only [Value.slice.injEq] at h; exact ⟨g, o, h.1⟩
        have z0 : (0 : Int) < (m : Int) := by omega
        obtain ⟨wr0, hwr0⟩ : ∃ wr0, wr0 = wr := ⟨_, rfl⟩
        rw [← hwr0] at hB HR HV
        rw [← hwr0]
        clear hwr0
        go_upto_region 19 with fail
        iterate 8 go_step
        go_cut [15] (fun kv W => ∃ k : Nat, k < m ∧ kv = .int .i64 k ∧ W = wr0)
        case first =>
          by_cases hmy : m ≤ ys.length
          · obtain ⟨gy, oy, rfl⟩ : ∃ g o, py = some ⟨g, o, none⟩ := by
              rcases HY.out (by intro h; rw [h] at hmy; simp at hmy; omega) with ⟨_, h⟩ | ⟨g, o, c, h, _⟩
              · rw [h] at hmy; simp at hmy; omega
              · simp only [Value.slice.injEq] at h; exact ⟨g, o, h.1⟩
            have hm1 := EI_cell ((HY.out (by intro h; rw [h] at hmy; simp at hmy; omega)).ext0 hB) (m - 1) (by omega)
            obtain ⟨nn, hx⟩ : ∃ x, x = ys.getD (m - 1) 0 := ⟨_, rfl⟩
            rw [← hx] at hm1
            clear hx
            have z1 : (m : Int) ≤ ((ys.length : Nat) : Int) := by omega
            have z2 : IntKind.i64.wrap ((m : Int) - 1) = (m : Int) - 1 := IntWalk.i64_in _ (by omega)
            have z3 : ((m : Int) - 1).toNat = m - 1 := by omega
            have z4 : (0 : Int) ≤ (m : Int) - 1 := by omega
            have z5 : (m : Int) - 1 < ((ys.length : Nat) : Int) := by omega
            have eM : IntKind.u64.wrap (m : Int) = m := IntWalk.u64_in _ (by omega)
            have b1 := modw nn m (by omega)
            obtain ⟨k, hkk⟩ : ∃ k : Nat, (k : Int) = (IntKind.u64.wrap nn).tmod m := ⟨((IntKind.u64.wrap nn).tmod m).toNat, by omega⟩
            have z7 : ¬ ((m : Int) = 0) := by omega
            go_wp2_with fail
            go_meet
            exact ⟨k, by omega, by rw [hkk], rfl⟩
          · have z1 : ¬ ((m : Int) ≤ ((ys.length : Nat) : Int)) := by omega
            go_wp2_with fail
            go_meet
            exact ⟨0, h0, rfl, rfl⟩
        case rest =>
          obtain ⟨k, hkm, rfl, rfl⟩ := hcut
          have hkL : k < L.length := by omega
          have hm1 := EI_cell HV.out.1.rd k (by simp; omega)
          have hm2 := EI_cell HV.out.2.1.rd k (by simp; omega)
          have ep1 : (L.map Prod.fst).getD k 0 = (L.getD k (0,0)).1 := by simp [List.getD, hkL]
          have ep2 : (L.map Prod.snd).getD k 0 = (L.getD k (0,0)).2 := by simp [List.getD, hkL]
          have hat := HI.out.2.2.2.at HI.out.1 hkL
          have hgv := fun (s' : Spc) => HI.out.2.2.2.give (s' := s') hkL
          rw [ep1] at hm1
          rw [ep2] at hm2
          obtain ⟨p, hp⟩ : ∃ p, p = L.getD k (0,0) := ⟨_, rfl⟩
          rw [← hp] at hm1 hm2 hat hgv
          obtain ⟨p1, p2⟩ := p
          simp only at hm1 hm2 hat hgv
          obtain ⟨t1, t2, t3, t4, t5, t6⟩ := hat
          have HIN := Lib.hid t5
          have HHAS := Lib.hid t6
          have HGV := Lib.hid hgv
          have hcc := HI.out.2.2.1
          clear hp ep1 ep2 hgv t5 t6
          have y1 : (k : Int) < (m : Int) := by omega
          have y2 : (0 : Int) ≤ (k : Int) := by omega
          have y3 : ((k : Nat) : Int).toNat = k := by omega
          go_wp2_with fail
          have hD0 : Ext [] wc wc.drew := (Ext.refl [] _).drew
          refine wp_region_u (fun W => W.cell? ⟨g9, o9 + k, none⟩ = some (.int .i64 p1) ∧ W.cell? ⟨g10, o10 + k, none⟩ = some (.int .i64 p2)) (fun _ => true) (by kernel_rfl) ⟨hD0.cell hm1 (by simp), hD0.cell hm2 (by simp)⟩ (fun hS => ?_)
          (refine wpAnyU_take (i := 0) rfl (by kernel_rfl) (by kernel_rfl) (by kernel_rfl) (by kernel_rfl) (by exact fun _ _ _ h => h) (by assumption) (Or.inl ⟨by rfl, fun W hW => by (have hWW := hW; clear hW; go_split_ands; go_simp; try rfl)⟩) ?_); (try go_frame)
          (refine wpAnyU_take (i := 1) rfl (by kernel_rfl) (by kernel_rfl) (by kernel_rfl) (by kernel_rfl) (by exact fun _ _ _ h => h) (by assumption) (Or.inl ⟨by rfl, fun W hW => by (have hWW := hW; clear hW; go_split_ands; go_simp; try rfl)⟩) ?_); (try go_frame)
          (refine wpAnyU_take (i := 2) rfl (by kernel_rfl) (by kernel_rfl) (by kernel_rfl) (by kernel_rfl) (by exact fun _ _ _ h => h) (by assumption) (Or.inl ⟨by rfl, fun W hW => by (have hWW := hW; clear hW; go_split_ands; go_simp; try rfl)⟩) ?_); (try go_frame)
          (refine wpAnyU_take (i := 3) rfl (by kernel_rfl) (by kernel_rfl) (by kernel_rfl) (by kernel_rfl) (by exact fun _ _ _ h => h) (by assumption) (Or.inl ⟨by rfl, fun W hW => by (have hWW := hW; clear hW; go_split_ands; go_simp; try rfl)⟩) ?_); (try go_frame)
          (refine wpAnyU_take (i := 4) rfl (by kernel_rfl) (by kernel_rfl) (by kernel_rfl) (by kernel_rfl) (by exact fun _ _ _ h => h) (by assumption) (Or.inl ⟨by rfl, fun W hW => by (have hWW := hW; clear hW; go_split_ands; go_simp; try rfl)⟩) ?_); (try go_frame)
          (refine wpAnyU_take (i := 5) rfl (by kernel_rfl) (by kernel_rfl) (by kernel_rfl) (by kernel_rfl) (by exact fun _ _ _ h => h) (by assumption) (Or.inl ⟨by rfl, fun W hW => by (have hWW := hW; clear hW; go_split_ands; go_simp; try rfl)⟩) ?_); (try go_frame)
          (refine wpAnyU_take (i := 6) rfl (by kernel_rfl) (by kernel_rfl) (by kernel_rfl) (by kernel_rfl) (by exact fun _ _ _ h => h) (by assumption) (Or.inl ⟨by rfl, fun W hW => by (have hWW := hW; clear hW; go_split_ands; go_simp; try rfl)⟩) ?_); (try go_frame)
          (refine wpAnyU_take (i := 7) rfl (by kernel_rfl) (by kernel_rfl) (by kernel_rfl) (by kernel_rfl) (by exact fun _ _ _ h => h) (by assumption) (Or.inl ⟨by rfl, fun W hW => by (have hWW := hW; clear hW; go_split_ands; go_simp; try rfl)⟩) ?_); (try go_frame)
          (refine wpAnyU_take (i := 8) rfl (by kernel_rfl) (by kernel_rfl) (by kernel_rfl) (by kernel_rfl) (by exact fun _ _ _ h => h) (by assumption) (Or.inl ⟨by rfl, fun W hW => by (have hWW := hW; clear hW; go_split_ands; go_simp; try rfl)⟩) ?_); (try go_frame)
          refine wpAnyU_one (i := 9) (by kernel_rfl) rfl (fun K hK => ?_)
          (try simp only [Act.put, List.getElem_toArray, List.getElem_cons_zero, List.getElem_cons_succ, List.setIfInBounds_toArray, List.set_cons_zero, List.set_cons_succ]); rw [if_pos (show Region.wanted _ _ = true from rfl)]
          go_simp
          refine (give_c b s p1 p2 _ (HR.out.ext0 hD0) HI.out.1 (by omega) (by omega) (by omega) (by omega)).mono ?_
          rintro e W5 ⟨s5, err, rfl, hr5, hi5, hE5, hrel⟩
          obtain ⟨rfl, ht⟩ := hrel.ok HIN.out HHAS.out
          obtain ⟨cb, hcb⟩ := HR.out.blk
          have hb9 : g9 ≠ b := fun h => (HV.out.1.ne hcb (by decide)) g9 (by simp [blkL]) h
          have hb10 : g10 ≠ b := fun h => (HV.out.2.1.ne hcb (by decide)) g10 (by simp [blkL]) h
          clear hcb hrel
          have hgone := ht.gone (by omega)
          have hc5 : s5.cells = s.cells := ht.cells
          have hin5 : inB s5 p1 p2 = true := by have h := HIN.out; simp only [inB, hc5] at h ⊢; exact h
          have hP5 := HGV.out s5 ht
          have hb5 : s5.back = 0 := by rw [ht.back]; exact HI.out.2.1
          have HR5 := Lib.hid hr5
          have HI5 := Lib.hid hi5
          have HGONE := Lib.hid hgone
          have HIN5 := Lib.hid hin5
          have HP5 := Lib.hid hP5
          clear hr5 hi5 ht hgone hin5 hP5
          refine hK.out _ _ (fun _ => ⟨hE5.cell hS.1 (by simpa using hb9), hE5.cell hS.2 (by simpa using hb10)⟩) (fun hS5 => ?_)
          have hS5' := hS5 rfl
          clear hS hS5 hK
          (refine wpAnyU_take (i := 10) rfl (by kernel_rfl) (by kernel_rfl) (by kernel_rfl) (by kernel_rfl) (by exact fun _ _ _ h => h) (by assumption) (Or.inl ⟨by rfl, fun W hW => by (have hWW := hW; clear hW; go_split_ands; go_simp; try rfl)⟩) ?_); (try go_frame); (simp only [List.getElem_toArray, List.getElem_cons_zero, List.getElem_cons_succ, List.set_cons_zero, List.set_cons_succ])
          (refine wpAnyU_take (i := 11) rfl (by kernel_rfl) (by kernel_rfl) (by kernel_rfl) (by kernel_rfl) (by exact fun _ _ _ h => h) (by assumption) (Or.inl ⟨by rfl, fun W hW => by (have hWW := hW; clear hW; go_split_ands; go_simp; try rfl)⟩) ?_); (try go_frame); (simp only [List.getElem_toArray, List.getElem_cons_zero, List.getElem_cons_succ, List.set_cons_zero, List.set_cons_succ])
          (refine wpAnyU_take (i := 12) rfl (by kernel_rfl) (by kernel_rfl) (by kernel_rfl) (by kernel_rfl) (by exact fun _ _ _ h => h) (by assumption) (Or.inl ⟨by rfl, fun W hW => by (have hWW := hW; clear hW; go_split_ands; go_simp; try rfl)⟩) ?_); (try go_frame); (simp only [List.getElem_toArray, List.getElem_cons_zero, List.getElem_cons_succ, List.set_cons_zero, List.set_cons_succ])
          (refine wpAnyU_take (i := 13) rfl (by kernel_rfl) (by kernel_rfl) (by kernel_rfl) (by kernel_rfl) (by exact fun _ _ _ h => h) (by assumption) (Or.inl ⟨by rfl, fun W hW => by (have hWW := hW; clear hW; go_split_ands; go_simp; try rfl)⟩) ?_); (try go_frame); (simp only [List.getElem_toArray, List.getElem_cons_zero, List.getElem_cons_succ, List.set_cons_zero, List.set_cons_succ])
          (refine wpAnyU_take (i := 14) rfl (by kernel_rfl) (by kernel_rfl) (by kernel_rfl) (by kernel_rfl) (by exact fun _ _ _ h => h) (by assumption) (Or.inl ⟨by rfl, fun W hW => by (have hWW := hW; clear hW; go_split_ands; go_simp; try rfl)⟩) ?_); (try go_frame); (simp only [List.getElem_toArray, List.getElem_cons_zero, List.getElem_cons_succ, List.set_cons_zero, List.set_cons_succ])
          (refine wpAnyU_take (i := 15) rfl (by kernel_rfl) (by kernel_rfl) (by kernel_rfl) (by kernel_rfl) (by exact fun _ _ _ h => h) (by assumption) (Or.inl ⟨by rfl, fun W hW => by (have hWW := hW; clear hW; go_split_ands; go_simp; try rfl)⟩) ?_); (try go_frame); (simp only [List.getElem_toArray, List.getElem_cons_zero, List.getElem_cons_succ, List.set_cons_zero, List.set_cons_succ])
          (refine wpAnyU_take (i := 16) rfl (by kernel_rfl) (by kernel_rfl) (by kernel_rfl) (by kernel_rfl) (by exact fun _ _ _ h => h) (by assumption) (Or.inl ⟨by rfl, fun W hW => by (have hWW := hW; clear hW; go_split_ands; go_simp; try rfl)⟩) ?_); (try go_frame); (simp only [List.getElem_toArray, List.getElem_cons_zero, List.getElem_cons_succ, List.set_cons_zero, List.set_cons_succ])
          (refine wpAnyU_take (i := 17) rfl (by kernel_rfl) (by kernel_rfl) (by kernel_rfl) (by kernel_rfl) (by exact fun _ _ _ h => h) (by assumption) (Or.inl ⟨by rfl, fun W hW => by (have hWW := hW; clear hW; go_split_ands; go_simp; try rfl)⟩) ?_); (try go_frame); (simp only [List.getElem_toArray, List.getElem_cons_zero, List.getElem_cons_succ, List.set_cons_zero, List.set_cons_succ])
          (refine wpAnyU_take (i := 18) rfl (by kernel_rfl) (by kernel_rfl) (by kernel_rfl) (by kernel_rfl) (by exact fun _ _ _ h => h) (by assumption) (Or.inl ⟨by rfl, fun W hW => by (have hWW := hW; clear hW; go_split_ands; go_simp; try rfl)⟩) ?_); (try go_frame); (simp only [List.getElem_toArray, List.getElem_cons_zero, List.getElem_cons_succ, List.set_cons_zero, List.set_cons_succ])
          (refine wpAnyU_take (i := 19) rfl (by kernel_rfl) (by kernel_rfl) (by kernel_rfl) (by kernel_rfl) (by exact fun _ _ _ h => h) (by assumption) (Or.inl ⟨by rfl, fun W hW => by (have hWW := hW; clear hW; go_split_ands; go_simp; try rfl)⟩) ?_); (try go_frame); (simp only [List.getElem_toArray, List.getElem_cons_zero, List.getElem_cons_succ, List.set_cons_zero, List.set_cons_succ])
          (refine wpAnyU_take (i := 20) rfl (by kernel_rfl) (by kernel_rfl) (by kernel_rfl) (by kernel_rfl) (by exact fun _ _ _ h => h) (by assumption) (Or.inl ⟨by rfl, fun W hW => by (have hWW := hW; clear hW; go_split_ands; go_simp; try rfl)⟩) ?_); (try go_frame); (simp only [List.getElem_toArray, List.getElem_cons_zero, List.getElem_cons_succ, List.set_cons_zero, List.set_cons_succ])
          refine wpAnyU_one (i := 21) (by kernel_rfl) rfl (fun K hK => ?_)
          (try simp only [Act.put, List.getElem_toArray, List.getElem_cons_zero, List.getElem_cons_succ, List.setIfInBounds_toArray, List.set_cons_zero, List.set_cons_succ]); rw [if_pos (show Region.wanted _ _ = true from rfl)]
          go_simp
          refine (give_c b s5 p1 p2 _ HR5.out HI5.out (by omega) (by omega) (by omega) (by omega)).mono ?_
          rintro e W6 ⟨s6, err, rfl, hr6, hi6, hE6, hrel⟩
          obtain ⟨rfl, rfl⟩ : s6 = s5 ∧ err = 7 := by
            rcases hrel with ⟨h1, _⟩ | ⟨_, _, h1, h2⟩ | ⟨_, h1, _⟩
            · rw [HIN5.out] at h1; cases h1
            · exact ⟨h1, h2⟩
            · rw [HGONE.out] at h1; cases h1
          have HR6 := Lib.hid hr6
          clear hrel hr6 hi6
          refine hK.out _ _ (fun _ => ⟨hE6.cell hS5'.1 (by simpa using hb9), hE6.cell hS5'.2 (by simpa using hb10)⟩) (fun hS6 => ?_)
          have hS6' := hS6 rfl
          clear hS5' hS6 hK
          (refine wpAnyU_take (i := 22) rfl (by kernel_rfl) (by kernel_rfl) (by kernel_rfl) (by kernel_rfl) (by exact fun _ _ _ h => h) (by assumption) (Or.inl ⟨by rfl, fun W hW => by (have hWW := hW; clear hW; go_split_ands; go_simp; try rfl)⟩) ?_); (try go_frame); (simp only [List.getElem_toArray, List.getElem_cons_zero, List.getElem_cons_succ, List.set_cons_zero, List.set_cons_succ])
          (refine wpAnyU_take (i := 23) rfl (by kernel_rfl) (by kernel_rfl) (by kernel_rfl) (by kernel_rfl) (by exact fun _ _ _ h => h) (by assumption) (Or.inl ⟨by rfl, fun W hW => by (have hWW := hW; clear hW; go_split_ands; go_simp; try rfl)⟩) ?_); (try go_frame); (simp only [List.getElem_toArray, List.getElem_cons_zero, List.getElem_cons_succ, List.set_cons_zero, List.set_cons_succ])
          refine wpAnyU_done (by kernel_rfl) ?_ _
          have hE06 : Ext [b] wc W6 := ((hD0.nil).trans hE5).trans hE6
          have hw6 : Ext [] w W6 := hB.trans' hE06 (by simp) (fun y hy => .inr (by simp at hy; subst hy; exact hbw))
          have hF6 : EI.Ow 3 W6 (.slice (some ⟨g9, o9, none⟩) m c9) (L.map Prod.fst) := HV.out.1.ext hE06 (by simpa [blkL] using hb9)
          have hC6 : EI.Ow 3 W6 (.slice (some ⟨g10, o10, none⟩) m c10) (L.map Prod.snd) := HV.out.2.1.ext hE06 (by simpa [blkL] using hb10)
          have HF6 := Lib.hid hF6
          have HC6 := Lib.hid hC6
          clear hS6' hE5 hE6 hE06 hD0 hF6 hC6 HR HGV HIN HHAS HR5 HGONE HIN5 HV
          go_wp2_with fail
          have w1 : k ≤ c9 := by omega
          have w2 : k ≤ c10 := by omega
          have w3 : k + 1 ≤ m := by omega
          have w4 : (k : Int) + 1 ≤ (m : Int) := by omega
          have w5 : (0 : Int) ≤ (k : Int) + 1 := by omega
          have w6 : ((k : Int) + 1).toNat = k + 1 := by omega
          have w7 : m ≤ c9 := by omega
          have w9 : IntKind.i64.wrap ((k : Int) + 1) = (k : Int) + 1 := IntWalk.i64_in _ (by omega)
          have w8 : m ≤ c10 := by omega
          refine wp_region_u (fun _ => True) (fun _ => false) (by kernel_rfl) trivial (fun hS => ?_)
          clear hS
          (refine wpAnyU_pure (i := 1) rfl (by kernel_rfl) (by kernel_rfl) (by kernel_rfl) (by rfl) (by exact fun _ _ _ h => h) (Or.inl ⟨by rfl, fun W => by (go_simp; try rfl)⟩) ?_); (try go_frame)
          (refine wpAnyU_pure (i := 2) rfl (by kernel_rfl) (by kernel_rfl) (by kernel_rfl) (by rfl) (by exact fun _ _ _ h => h) (Or.inl ⟨by rfl, fun W => by (go_simp; try rfl)⟩) ?_); (try go_frame)
          (refine wpAnyU_pure (i := 3) rfl (by kernel_rfl) (by kernel_rfl) (by kernel_rfl) (by rfl) (by exact fun _ _ _ h => h) (Or.inl ⟨by rfl, fun W => by (go_simp; try rfl)⟩) ?_); (try go_frame)
          (refine wpAnyU_pure (i := 5) rfl (by kernel_rfl) (by kernel_rfl) (by kernel_rfl) (by rfl) (by exact fun _ _ _ h => h) (Or.inl ⟨by rfl, fun W => by (go_simp; try rfl)⟩) ?_); (try go_frame)
          (refine wpAnyU_pure (i := 6) rfl (by kernel_rfl) (by kernel_rfl) (by kernel_rfl) (by rfl) (by exact fun _ _ _ h => h) (Or.inl ⟨by rfl, fun W => by (go_simp; try rfl)⟩) ?_); (try go_frame)
          (refine wpAnyU_pure (i := 7) rfl (by kernel_rfl) (by kernel_rfl) (by kernel_rfl) (by rfl) (by exact fun _ _ _ h => h) (Or.inl ⟨by rfl, fun W => by (go_simp; try rfl)⟩) ?_); (try go_frame)
          (refine wpAnyU_pure (i := 8) rfl (by kernel_rfl) (by kernel_rfl) (by kernel_rfl) (by rfl) (by exact fun _ _ _ h => h) (Or.inl ⟨by rfl, fun W => by (go_simp; try rfl)⟩) ?_); (try go_frame)
          refine wpAnyU_one (i := 0) (by kernel_rfl) rfl (fun K hK => ?_)
          (try simp only [Act.put, List.getElem_toArray, List.getElem_cons_zero, List.getElem_cons_succ, List.setIfInBounds_toArray, List.set_cons_zero, List.set_cons_succ]); rw [if_pos (show Region.wanted _ _ = true from rfl)]
          go_simp
          refine hK.out _ _ (fun h => by cases h) (fun _ => ?_)
          clear hK
          refine wpAnyU_one (i := 4) (by kernel_rfl) rfl (fun K hK => ?_)
          (try simp only [Act.put, List.getElem_toArray, List.getElem_cons_zero, List.getElem_cons_succ, List.setIfInBounds_toArray, List.set_cons_zero, List.set_cons_succ]); rw [if_pos (show Region.wanted _ _ = true from rfl)]
          have hglt : g9 < (W6).heap.size := (HF6).out.lt g9 (by simp [blkL])
          refine opw_append (s := .tmp 111) (x := .tmp 114) (E := EI) (T := 3) (zero := 0) (bytes := 8) (v := .slice (some ⟨(W6).heap.size, 0, none⟩) 0 0) (xs := []) (ys := (L.map Prod.fst).take k) tiI Try.underlying29 Try.underlying29 rfl rfl rfl (empty_int _ rfl) (EI_take (((HF6).out.rd.ext0 ((Ext.refl [] _).alloc _)).ext0 (Ext.refl [] _).drew) (by simp; omega)) (by simp; omega) (by simp; omega) ?_
          intro v7 W7 how7 hE7 hnear7 _
          refine hK.out _ _ (fun h => by cases h) (fun _ => ?_)
          clear hK
          have hrd7 : EI.Rd W7 (.slice (if c9 = k + 1 then some ⟨g9, o9, none⟩ else some ⟨g9, o9 + (k + 1), none⟩) (m - (k + 1)) (c9 - (k + 1))) ((L.map Prod.fst).drop (k + 1)) := EI_drop2 ((((HF6).out.rd.ext0 ((Ext.refl [] _).alloc _)).ext0 (Ext.refl [] _).drew).ext hE7 (fun y hy hy' => by simp [blkL] at hy hy'; omega))
          have HRD := Lib.hid hrd7
          have HW7 := Lib.hid how7
          have HE7 := Lib.hid hE7
          have HN7 := Lib.hid hnear7
          clear hrd7 how7 hE7 hnear7
          refine wpAnyU_one (i := 9) (by kernel_rfl) rfl (fun K hK => ?_)
          (try simp only [Act.put, List.getElem_toArray, List.getElem_cons_zero, List.getElem_cons_succ, List.setIfInBounds_toArray, List.set_cons_zero, List.set_cons_succ]); rw [if_pos (show Region.wanted _ _ = true from rfl)]
          refine opw_append (s := .tmp 115) (x := .tmp 119) (E := EI) (T := 3) (zero := 0) (bytes := 8) (v := v7) (xs := (L.map Prod.fst).take k) (ys := (L.map Prod.fst).drop (k + 1)) tiI Try.underlying29 Try.underlying29 rfl rfl rfl (by simpa using HW7.out) HRD.out (by simp; omega) (by simp; omega) ?_
          intro vf Wf how8 hE8 hnear8 _
          have hnw := near_new rfl HE7.out HN7.out hE8 hnear8
          have HOvf := Lib.hid how8
          have HNvf := Lib.hid hnw
          clear HE7 HN7 hE8 hnear8 how8 hnw HRD HW7 hglt
          refine hK.out _ _ (fun h => by cases h) (fun _ => ?_)
          clear hK
          (refine wpAnyU_pure (i := 10) rfl (by kernel_rfl) (by kernel_rfl) (by kernel_rfl) (by rfl) (by exact fun _ _ _ h => h) (Or.inl ⟨by rfl, fun W => by (go_simp; try rfl)⟩) ?_); (try go_frame); (simp only [List.getElem_toArray, List.getElem_cons_zero, List.getElem_cons_succ, List.set_cons_zero, List.set_cons_succ])
          refine wpAnyU_done (by kernel_rfl) ?_ _
          generalize (if c9 = k + 1 then some (⟨g9, o9, none⟩ : Addr) else some ⟨g9, o9 + (k + 1), none⟩) = pz
          have hC7 : EI.Ow 3 Wf (.slice (some ⟨g10, o10, none⟩) m c10) (L.map Prod.snd) := HC6.out.ext0 HNvf.out.1
          have HC7 := Lib.hid hC7
          clear hC7
          go_wp2_with fail
          refine wp_region_u (fun _ => True) (fun _ => false) (by kernel_rfl) trivial (fun hS => ?_)
          clear hS
          (refine wpAnyU_pure (i := 1) rfl (by kernel_rfl) (by kernel_rfl) (by kernel_rfl) (by rfl) (by exact fun _ _ _ h => h) (Or.inl ⟨by rfl, fun W => by (go_simp; try rfl)⟩) ?_); (try go_frame)
          (refine wpAnyU_pure (i := 2) rfl (by kernel_rfl) (by kernel_rfl) (by kernel_rfl) (by rfl) (by exact fun _ _ _ h => h) (Or.inl ⟨by rfl, fun W => by (go_simp; try rfl)⟩) ?_); (try go_frame)
          (refine wpAnyU_pure (i := 3) rfl (by kernel_rfl) (by kernel_rfl) (by kernel_rfl) (by rfl) (by exact fun _ _ _ h => h) (Or.inl ⟨by rfl, fun W => by (go_simp; try rfl)⟩) ?_); (try go_frame)
          (refine wpAnyU_pure (i := 5) rfl (by kernel_rfl) (by kernel_rfl) (by kernel_rfl) (by rfl) (by exact fun _ _ _ h => h) (Or.inl ⟨by rfl, fun W => by (go_simp; try rfl)⟩) ?_); (try go_frame)
          (refine wpAnyU_pure (i := 6) rfl (by kernel_rfl) (by kernel_rfl) (by kernel_rfl) (by rfl) (by exact fun _ _ _ h => h) (Or.inl ⟨by rfl, fun W => by (go_simp; try rfl)⟩) ?_); (try go_frame)
          (refine wpAnyU_pure (i := 7) rfl (by kernel_rfl) (by kernel_rfl) (by kernel_rfl) (by rfl) (by exact fun _ _ _ h => h) (Or.inl ⟨by rfl, fun W => by (go_simp; try rfl)⟩) ?_); (try go_frame)
          (refine wpAnyU_pure (i := 8) rfl (by kernel_rfl) (by kernel_rfl) (by kernel_rfl) (by rfl) (by exact fun _ _ _ h => h) (Or.inl ⟨by rfl, fun W => by (go_simp; try rfl)⟩) ?_); (try go_frame)
          refine wpAnyU_one (i := 0) (by kernel_rfl) rfl (fun K hK => ?_)
          (try simp only [Act.put, List.getElem_toArray, List.getElem_cons_zero, List.getElem_cons_succ, List.setIfInBounds_toArray, List.set_cons_zero, List.set_cons_succ]); rw [if_pos (show Region.wanted _ _ = true from rfl)]
          go_simp
          refine hK.out _ _ (fun h => by cases h) (fun _ => ?_)
          clear hK
          refine wpAnyU_one (i := 4) (by kernel_rfl) rfl (fun K hK => ?_)
          (try simp only [Act.put, List.getElem_toArray, List.getElem_cons_zero, List.getElem_cons_succ, List.setIfInBounds_toArray, List.set_cons_zero, List.set_cons_succ]); rw [if_pos (show Region.wanted _ _ = true from rfl)]
          have hglt : g10 < (Wf).heap.size := (HC7).out.lt g10 (by simp [blkL])
          refine opw_append (s := .tmp 121) (x := .tmp 124) (E := EI) (T := 3) (zero := 0) (bytes := 8) (v := .slice (some ⟨(Wf).heap.size, 0, none⟩) 0 0) (xs := []) (ys := (L.map Prod.snd).take k) tiI Try.underlying29 Try.underlying29 rfl rfl rfl (empty_int _ rfl) (EI_take (((HC7).out.rd.ext0 ((Ext.refl [] _).alloc _)).ext0 (Ext.refl [] _).drew) (by simp; omega)) (by simp; omega) (by simp; omega) ?_
          intro v7 W7 how7 hE7 hnear7 _
          refine hK.out _ _ (fun h => by cases h) (fun _ => ?_)
          clear hK
          have hrd7 : EI.Rd W7 (.slice (if c10 = k + 1 then some ⟨g10, o10, none⟩ else some ⟨g10, o10 + (k + 1), none⟩) (m - (k + 1)) (c10 - (k + 1))) ((L.map Prod.snd).drop (k + 1)) := EI_drop2 ((((HC7).out.rd.ext0 ((Ext.refl [] _).alloc _)).ext0 (Ext.refl [] _).drew).ext hE7 (fun y hy hy' => by simp [blkL] at hy hy'; omega))
          have HRD := Lib.hid hrd7
          have HW7 := Lib.hid how7
          have HE7 := Lib.hid hE7
          have HN7 := Lib.hid hnear7
          clear hrd7 how7 hE7 hnear7
          refine wpAnyU_one (i := 9) (by kernel_rfl) rfl (fun K hK => ?_)
          (try simp only [Act.put, List.getElem_toArray, List.getElem_cons_zero, List.getElem_cons_succ, List.setIfInBounds_toArray, List.set_cons_zero, List.set_cons_succ]); rw [if_pos (show Region.wanted _ _ = true from rfl)]
          refine opw_append (s := .tmp 125) (x := .tmp 129) (E := EI) (T := 3) (zero := 0) (bytes := 8) (v := v7) (xs := (L.map Prod.snd).take k) (ys := (L.map Prod.snd).drop (k + 1)) tiI Try.underlying29 Try.underlying29 rfl rfl rfl (by simpa using HW7.out) HRD.out (by simp; omega) (by simp; omega) ?_
          intro vc Wc how8 hE8 hnear8 _
          have hnw := near_new rfl HE7.out HN7.out hE8 hnear8
          have HOvc := Lib.hid how8
          have HNvc := Lib.hid hnw
          clear HE7 HN7 hE8 hnear8 how8 hnw HRD HW7 hglt
          refine hK.out _ _ (fun h => by cases h) (fun _ => ?_)
          clear hK
          (refine wpAnyU_pure (i := 10) rfl (by kernel_rfl) (by kernel_rfl) (by kernel_rfl) (by rfl) (by exact fun _ _ _ h => h) (Or.inl ⟨by rfl, fun W => by (go_simp; try rfl)⟩) ?_); (try go_frame); (simp only [List.getElem_toArray, List.getElem_cons_zero, List.getElem_cons_succ, List.set_cons_zero, List.set_cons_succ])
          refine wpAnyU_done (by kernel_rfl) ?_ _
          generalize (if c10 = k + 1 then some (⟨g10, o10, none⟩ : Addr) else some ⟨g10, o10 + (k + 1), none⟩) = pz
          go_wp2
          go_roundw
          case rel =>
            refine ⟨m - 1, by omega, s6, L.take k ++ L.drop (k + 1), by simp; omega, (hw6.trans HNvf.out.1).trans HNvc.out.1, (HR6.out.ext0 HNvf.out.1).ext0 HNvc.out.1, ⟨HI5.out, hb5, by rw [hc5]; exact hcc, HP5.out⟩, ⟨?_, by simpa using HOvc.out, fun g hg => ?_, fun g hg => ?_, fun g hg hg' => ?_⟩⟩
            · simpa using HOvf.out.ext0 HNvc.out.1
            · have := HNvf.out.2 g hg; have := hw6.size; omega
            · have := HNvc.out.2 g hg; have := hw6.size; have := HNvf.out.1.size; omega
            · have := HNvc.out.2 g hg'; have := HOvf.out.lt g hg; omega
          case measure =>
            obtain ⟨pa, ca, ea, _⟩ := HOvf.out.rd.len_eq
            rw [ea]
            simp [lenOf]; omega
      · obtain rfl : m = 0 := by omega
        obtain rfl : L = [] := List.eq_nil_of_length_eq_zero hL
        have hu := used_none HI.out.1 HI.out.2.2.2
        have HU0 := Lib.hid hu
        clear hu
        go_wp2_with fail
        refine (settle_c b s _ HR.out HI.out.1).mono ?_
        rintro e W5 ⟨s5, rfl, hr5, hi5, hE5, ht⟩
        have hc5 : s5.cells = C := by rw [ht.cells]; exact HI.out.2.2.1
        have hb5 : s5.back = 0 := by rw [ht.back]; exact HI.out.2.1
        have hu5 : s5.used = [] := by rw [ht.used]; exact HU0.out
        have hf5 : s5.free = [(0, (C : Int))] := by rw [all_free hi5 hu5 ht.leaving, hc5]
        have hEw : Ext [] w W5 := hB.trans' hE5 (by simp) (fun y hy => .inr (by simp at hy; subst hy; exact hbw))
        have HR5 := Lib.hid hr5
        have HI5 := Lib.hid hi5
        clear hr5 hi5 ht hE5 HV HU0 HI HR hc5
        go_wp2_with fail
        refine (ranges_c b s5 _ HR5.out HI5.out).mono ?_
        rintro e W6 ⟨v6, rfl, how6, hE6, _⟩
        rw [hf5] at how6
        obtain ⟨p6, c6, rfl, l6⟩ := how6.rd.len_eq
        obtain ⟨g6, o6, rfl⟩ : ∃ g o, p6 = some ⟨g, o, none⟩ := by
          rcases how6.rd with ⟨_, h⟩ | ⟨g, o, c, h, _⟩
          · cases h
          · simp only [Value.slice.injEq] at h; exact ⟨g, o, h.1⟩
        obtain ⟨hm1, hm2⟩ := ER_cells how6.rd 0 (by simp)
        simp at hm1 hm2
        have x0 : (0 : Int) < 1 := by omega
        clear how6 l6
        go_wp2_with fail
        refine (used_c b s5 _ (HR5.out.ext0 hE6) HI5.out).mono ?_
        rintro e W7 ⟨v7, rfl, how7, hE7, _⟩
        rw [hu5] at how7
        obtain ⟨p7, c7, rfl, _⟩ := how7.rd.len_eq
        clear how7
        go_wp2_with fail
        refine (free_c b s5 _ ((HR5.out.ext0 hE6).ext0 hE7) HI5.out).mono ?_
        rintro e W8 ⟨rfl, hE8⟩
        rw [hf5, hb5]
        go_wp2
        go_ret
        exact ⟨by simp [cntL], ((hEw.trans hE6).trans hE7).trans hE8⟩

end Go.Proofs.Ytaknhoplgcnhkaa
