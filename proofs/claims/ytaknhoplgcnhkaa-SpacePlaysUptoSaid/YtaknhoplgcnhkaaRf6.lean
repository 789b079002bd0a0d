
import Derived.Test.YtaknhoplgcnhkaaRf5
namespace Go.Proofs.Ytaknhoplgcnhkaa
open Go.RowKit

theorem tiLR : Ti Try.prog EL 57 24 (false, 0, 0) := Ti.mk' (z := .agg #[.bool false, .int .i64 0, .int .i64 0]) (by kernel_rfl) rfl

theorem one_rdLT {T : TypeId} {W0 : World} {t : Bool} {f k : Int} {n : Nat} (h : n = W0.heap.size) : EL.Rd (W0.alloc (.cells #[.bool t, .int .i64 f, .int .i64 k] T)) (.slice (some ⟨n, 0, none⟩) 1 1) [(t, f, k)] := by
  subst h
  refine .inr ⟨W0.heap.size, 0, 1, rfl, Nat.le_refl _, by simp, fun j u hj => ?_⟩
  rw [cell_of_row _ W0.heap.size _ _ _ _ (heap_alloc_new _ _)]
  match j, hj with
  | 0, hj => exact hj
  | 1, hj => exact hj
  | 2, hj => exact hj
  | j + 3, hj => simp [EL, Enc.flat] at hj

def RCond (nc : Int) (l : List Lin) (w w' : World) (v : Value) (err : Int) : Prop :=
  ((nc < 1 ∨ 40000 < nc) ∧ v = .slice none 0 0 ∧ err = 1) ∨
  (1 ≤ nc ∧ nc ≤ 40000 ∧ (∃ k h, Played (List.replicate nc.toNat 0) l k h ∧ k < l.length ∧ Bad h (l.getD k (false,0,0))) ∧ v = .slice none 0 0 ∧ err = 2) ∨
  (1 ≤ nc ∧ nc ≤ 40000 ∧ err = 0 ∧ ∃ h rs, (h.length : Int) = nc ∧ Played (List.replicate nc.toNat 0) l l.length h ∧ RsOf h 1 h.length rs ∧ EL.Ow 57 w' v (lg rs) ∧ ∀ y ∈ blkL v, w.heap.size ≤ y)

def RCondPost (nc : Int) (l : List Lin) (w : World) (e : Ending) (w' : World) : Prop :=
  ∃ v err, e = .returned (.tuple #[v, .int .i64 err]) ∧ Ext [] w w' ∧ RCond nc l w w' v err

set_option maxRecDepth 100000 in
set_option maxHeartbeats 1000000 in
theorem rcond_c (nc : Int) (v : Value) (l : List Lin) (w : World) (hu : AR EL w v l) (hc1 : -9223372036854775808 ≤ nc) (hc2 : nc ≤ 9223372036854775807) (hl : l.length ≤ 9223372036854775807)
    (hg : ∀ x ∈ l, (-9223372036854775808 ≤ x.2.1 ∧ x.2.1 ≤ 9223372036854775807) ∧ (-9223372036854775808 ≤ x.2.2 ∧ x.2.2 ≤ 9223372036854775807)) :
    Calls Try.prog 31 #[.int .i64 nc, v] w (RCondPost nc l w) := by
  obtain ⟨pv, cv, rfl, hu⟩ := hu
  have HU := Lib.hid hu
  have HGD := Lib.hid hg
  clear hu hg
  go_enter Try.func31, Try.ntmps31
  go_wp2_with fail
  refine (rreplay_c nc _ l _ ⟨_, _, rfl, HU.out⟩ hc1 hc2 hl HGD.out).mono ?_
  rintro e W1 ⟨p, err, rfl, hE1, hrel⟩
  rcases hrel with ⟨h, rfl, rfl⟩ | ⟨n1, n2, h, rfl, rfl⟩ | ⟨n1, n2, rfl, b, g, h, rfl, hbw, hgw, hr, hlen, hp⟩
  · go_wp2
    go_ret2
    exact ⟨_, 1, rfl, hE1, .inl ⟨h, rfl, rfl⟩⟩
  · go_wp2
    go_ret2
    exact ⟨_, 2, rfl, hE1, .inr (.inl ⟨n1, n2, h, rfl, rfl⟩)⟩
  · have HP := Lib.hid hp
    have HR := Lib.hid hr
    clear hp hr
    go_wp2_with fail
    refine (rranges_c b g h 0 1 _ HR.out (by omega)).mono ?_
    rintro e W2 ⟨v2, rfl, rs, how2, hrs, hE2, _⟩
    have hE02 : Ext [] w W2 := hE1.trans hE2
    obtain ⟨p2, c2, rfl, l2⟩ := how2.rd.len_eq
    have hrl := hrs.1.len
    have HO2 := Lib.hid how2
    have HS := Lib.hid hrs
    clear how2 hrs hE1 hE2
    go_wp2_with fail
    go_loopw [9, 10] (fun ov iv wr => ∃ k : Nat, k ≤ rs.length ∧ iv = .int .i64 k ∧ Ext [] W2 wr ∧ Hid (EL.Ow 57 wr ov (lg (rs.take k)) ∧ ∀ y ∈ blkL ov, W2.heap.size ≤ y)) (fun _ iv _ => rs.length - (intOf iv).toNat)
    case atStart => exact ⟨0, Nat.zero_le _, rfl, Ext.refl _ _, .inl ⟨rfl, rfl⟩, by simp [blkL]⟩
    case round =>
      obtain ⟨k, hk, rfl, hB, HV⟩ := hrel
      by_cases hlt : k < rs.length
      · obtain ⟨ga, o, rfl⟩ : ∃ g o, p2 = some ⟨g, o, none⟩ := by
          rcases HO2.out.rd with ⟨_, h⟩ | ⟨g, o, c, h, _⟩
          · rw [h] at hlt; simp at hlt
          · cases h; exact ⟨g, o, rfl⟩
        obtain ⟨hm1, hm2⟩ := ER_cells (HO2.out.rd.ext0 hB) k hlt
        have hx0 := HS.out.1.at hlt
        have hts : lg (rs.take (k + 1)) = lg (rs.take k) ++ [(true, (rs.getD k (0,0)).1, (rs.getD k (0,0)).2 - (rs.getD k (0,0)).1)] := by rw [take_step hlt]; simp [lg]
        obtain ⟨x, hx⟩ : ∃ x, x = rs.getD k (0,0) := ⟨_, rfl⟩
        rw [← hx] at hm1 hm2 hx0 hts
        have HTS := Lib.hid hts
        obtain ⟨x1, x2, x3⟩ := hx0
        have z1 : (k : Int) < ((rs.length : Nat) : Int) := by omega
        have d0 : (0 : Int) ≤ (k : Int) := by omega
        have d1 : ((k : Nat) : Int).toNat = k := by omega
        have e1 : IntKind.i64.wrap (x.2 - x.1) = x.2 - x.1 := IntWalk.i64_in _ (by omega)
        clear hx hts
        have hD0 : Ext [] wr wr.drew := (Ext.refl [] _).drew
        go_wp2_with fail
        refine wp_region_u (fun W => W.cell? ⟨ga, o + k * 2, none⟩ = some (.int .i64 x.1) ∧ W.cell? ⟨ga, o + k * 2 + 1, none⟩ = some (.int .i64 x.2)) (fun i => decide (i < 20) && !(i == 0)) (by kernel_rfl) ⟨hD0.cell hm1 (by simp), hD0.cell hm2 (by simp)⟩ (fun hS => ?_)
        (refine wpAnyU_pure (i := 0) rfl (by kernel_rfl) (by kernel_rfl) (by kernel_rfl) (by rfl) (by exact fun _ _ _ h => h) (Or.inl ⟨by rfl, fun W => by (go_simp; try rfl)⟩) ?_); (try go_frame)
        (refine wpAnyU_take (i := 1) rfl (by kernel_rfl) (by kernel_rfl) (by kernel_rfl) (by kernel_rfl) (by exact fun _ _ _ h => h) (by assumption) (Or.inl ⟨by rfl, fun W hW => by (have hWW := hW; clear hW; go_split_ands; go_simp; try rfl)⟩) ?_); (try go_frame)
        (refine wpAnyU_take (i := 2) rfl (by kernel_rfl) (by kernel_rfl) (by kernel_rfl) (by kernel_rfl) (by exact fun _ _ _ h => h) (by assumption) (Or.inl ⟨by rfl, fun W hW => by (have hWW := hW; clear hW; go_split_ands; go_simp; try rfl)⟩) ?_); (try go_frame)
        (refine wpAnyU_take (i := 3) rfl (by kernel_rfl) (by kernel_rfl) (by kernel_rfl) (by kernel_rfl) (by exact fun _ _ _ h => h) (by assumption) (Or.inl ⟨by rfl, fun W hW => by (have hWW := hW; clear hW; go_split_ands; go_simp; try rfl)⟩) ?_); (try go_frame)
        (refine wpAnyU_take (i := 4) rfl (by kernel_rfl) (by kernel_rfl) (by kernel_rfl) (by kernel_rfl) (by exact fun _ _ _ h => h) (by assumption) (Or.inl ⟨by rfl, fun W hW => by (have hWW := hW; clear hW; go_split_ands; go_simp; try rfl)⟩) ?_); (try go_frame)
        (refine wpAnyU_take (i := 5) rfl (by kernel_rfl) (by kernel_rfl) (by kernel_rfl) (by kernel_rfl) (by exact fun _ _ _ h => h) (by assumption) (Or.inl ⟨by rfl, fun W hW => by (have hWW := hW; clear hW; go_split_ands; go_simp; try rfl)⟩) ?_); (try go_frame)
        (refine wpAnyU_take (i := 6) rfl (by kernel_rfl) (by kernel_rfl) (by kernel_rfl) (by kernel_rfl) (by exact fun _ _ _ h => h) (by assumption) (Or.inl ⟨by rfl, fun W hW => by (have hWW := hW; clear hW; go_split_ands; go_simp; try rfl)⟩) ?_); (try go_frame)
        (refine wpAnyU_take (i := 7) rfl (by kernel_rfl) (by kernel_rfl) (by kernel_rfl) (by kernel_rfl) (by exact fun _ _ _ h => h) (by assumption) (Or.inl ⟨by rfl, fun W hW => by (have hWW := hW; clear hW; go_split_ands; go_simp; try rfl)⟩) ?_); (try go_frame)
        (refine wpAnyU_take (i := 8) rfl (by kernel_rfl) (by kernel_rfl) (by kernel_rfl) (by kernel_rfl) (by exact fun _ _ _ h => h) (by assumption) (Or.inl ⟨by rfl, fun W hW => by (have hWW := hW; clear hW; go_split_ands; go_simp; try rfl)⟩) ?_); (try go_frame)
        (refine wpAnyU_take (i := 9) rfl (by kernel_rfl) (by kernel_rfl) (by kernel_rfl) (by kernel_rfl) (by exact fun _ _ _ h => h) (by assumption) (Or.inl ⟨by rfl, fun W hW => by (have hWW := hW; clear hW; go_split_ands; go_simp; try rfl)⟩) ?_); (try go_frame)
        (refine wpAnyU_take (i := 10) rfl (by kernel_rfl) (by kernel_rfl) (by kernel_rfl) (by kernel_rfl) (by exact fun _ _ _ h => h) (by assumption) (Or.inl ⟨by rfl, fun W hW => by (have hWW := hW; clear hW; go_split_ands; go_simp; try rfl)⟩) ?_); (try go_frame)
        (refine wpAnyU_take (i := 11) rfl (by kernel_rfl) (by kernel_rfl) (by kernel_rfl) (by kernel_rfl) (by exact fun _ _ _ h => h) (by assumption) (Or.inl ⟨by rfl, fun W hW => by (have hWW := hW; clear hW; go_split_ands; go_simp; try rfl)⟩) ?_); (try go_frame)
        (refine wpAnyU_take (i := 12) rfl (by kernel_rfl) (by kernel_rfl) (by kernel_rfl) (by kernel_rfl) (by exact fun _ _ _ h => h) (by assumption) (Or.inl ⟨by rfl, fun W hW => by (have hWW := hW; clear hW; go_split_ands; go_simp; try rfl)⟩) ?_); (try go_frame)
        (refine wpAnyU_take (i := 13) rfl (by kernel_rfl) (by kernel_rfl) (by kernel_rfl) (by kernel_rfl) (by exact fun _ _ _ h => h) (by assumption) (Or.inl ⟨by rfl, fun W hW => by (have hWW := hW; clear hW; go_split_ands; go_simp; try rfl)⟩) ?_); (try go_frame)
        (refine wpAnyU_take (i := 14) rfl (by kernel_rfl) (by kernel_rfl) (by kernel_rfl) (by kernel_rfl) (by exact fun _ _ _ h => h) (by assumption) (Or.inl ⟨by rfl, fun W hW => by (have hWW := hW; clear hW; go_split_ands; go_simp; try rfl)⟩) ?_); (try go_frame)
        (refine wpAnyU_take (i := 15) rfl (by kernel_rfl) (by kernel_rfl) (by kernel_rfl) (by kernel_rfl) (by exact fun _ _ _ h => h) (by assumption) (Or.inl ⟨by rfl, fun W hW => by (have hWW := hW; clear hW; go_split_ands; go_simp; try rfl)⟩) ?_); (try go_frame)
        (refine wpAnyU_take (i := 16) rfl (by kernel_rfl) (by kernel_rfl) (by kernel_rfl) (by kernel_rfl) (by exact fun _ _ _ h => h) (by assumption) (Or.inl ⟨by rfl, fun W hW => by (have hWW := hW; clear hW; go_split_ands; go_simp; try rfl)⟩) ?_); (try go_frame)
        (refine wpAnyU_take (i := 17) rfl (by kernel_rfl) (by kernel_rfl) (by kernel_rfl) (by kernel_rfl) (by exact fun _ _ _ h => h) (by assumption) (Or.inl ⟨by rfl, fun W hW => by (have hWW := hW; clear hW; go_split_ands; go_simp; try rfl)⟩) ?_); (try go_frame)
        refine wpAnyU_one (i := 18) (by kernel_rfl) rfl (fun K hK => ?_)
        (try simp only [Act.put, List.getElem_toArray, List.getElem_cons_zero, List.getElem_cons_succ, List.setIfInBounds_toArray, List.set_cons_zero, List.set_cons_succ]); rw [if_pos (show Region.wanted _ _ = true from rfl)]
        go_simp
        refine hK.out _ _ (fun _ => ⟨((Ext.refl [] _).alloc _).cell hS.1 (by simp), ((Ext.refl [] _).alloc _).cell hS.2 (by simp)⟩) (fun hS1 => ?_)
        have hS2 := hS1 rfl
        have hgv : ga ∉ blkL u9 := fun h => by
          have h1 := HV.out.2 ga h
          have h2 := HO2.out.lt ga (by simp [blkL])
          omega
        clear hK hS hS1
        refine wpAnyU_one (i := 19) (by kernel_rfl) rfl (fun K hK => ?_)
        (try simp only [Act.put, List.getElem_toArray, List.getElem_cons_zero, List.getElem_cons_succ, List.setIfInBounds_toArray, List.set_cons_zero, List.set_cons_succ]); rw [if_pos (show Region.wanted _ _ = true from rfl)]
        refine opw_append (s := .tmp 28) (x := .tmp 46) (E := EL) (T := 57) (zero := (false,0,0)) (bytes := 24) (v := u9) (xs := lg (rs.take k)) (ys := [(true, x.1, x.2 - x.1)]) tiLR Try.underlying54 Try.underlying54 rfl rfl rfl (HV.out.1.ext0 ((Ext.refl [] wr).drew.alloc _)) (one_rdLT rfl) (by simp [lg]; omega) (by simp [lg]; omega) ?_
        intro v5 w5 how5 hE5 hnear5 _
        refine hK.out _ _ (fun _ => ⟨hE5.cell hS2.1 hgv, hE5.cell hS2.2 hgv⟩) (fun _ => ?_)
        clear hK hS2 hgv
        (refine wpAnyU_pure (i := 20) rfl (by kernel_rfl) (by kernel_rfl) (by kernel_rfl) (by rfl) (by exact fun _ _ _ h => h) (Or.inl ⟨by rfl, fun W => by (go_simp; try rfl)⟩) ?_); (try go_frame)
        refine wpAnyU_done (by kernel_rfl) ?_ _
        go_wp2
        go_roundw
        case rel =>
          have hEw : Ext [] W2 w5 := (hB.trans ((Ext.refl [] wr).drew.alloc _)).trans' hE5 (by simp) (fun x hx => .inr (HV.out.2 x hx))
          refine ⟨k + 1, by omega, by go_num, hEw, ?_⟩
          refine ⟨by rw [HTS.out]; exact how5, fun y hy => ?_⟩
          rcases hnear5 y hy with h | h
          · exact HV.out.2 y h
          · have h1 := hB.size
            have h2 : wr.heap.size + 1 ≤ y := by simpa using h
            omega
        case measure => simp [intOf]; omega
      · obtain rfl : k = rs.length := by omega
        have z1 : ¬ (((rs.length : Nat) : Int) < ((rs.length : Nat) : Int)) := by omega
        have hv := HV.out
        rw [List.take_length] at hv
        have HV' := Lib.hid hv
        clear hv
        go_wp2
        go_ret2
        exact ⟨_, 0, rfl, hE02.trans hB, .inr (.inr ⟨n1, n2, rfl, h, rs, hlen, HP.out, HS.out, HV'.out.1, fun y hy => by have := HV'.out.2 y hy; have := hE02.size; omega⟩)⟩

end Go.Proofs.Ytaknhoplgcnhkaa
