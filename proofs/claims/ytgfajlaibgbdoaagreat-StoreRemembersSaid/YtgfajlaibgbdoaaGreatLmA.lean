
import Derived.Test.YtgfajlaibgbdoaaGreatRdC
import Derived.Test.YtgfajlaibgbdoaaGreatLb1
import Derived.Test.YtgfajlaibgbdoaaGreatLa2
namespace Go.Proofs.YtgfajlaibgbdoaaGreat
open Go.RowKit

/-! StoreRemembers: what is remembered, what stands. -/
def bI (i : Nat) : List UInt8 := [UInt8.ofNat i, 1]
def blkN (i : Nat) : Mno := (((4 * i : Nat) : Int), shaF (bI i), bI i)
def lastL (l : List Nat) : List Nat := l.drop (l.length - 64)
def ptrN (i : Nat) : Ptr4 := (4 * i, 2, 1, shaF (bI i))

theorem dropA_no (tr : List Nat) (k : Nat) (hk : k ∉ tr) : dropA (tr.map blkN) (blkN k).1 = tr.map blkN := by
  rw [dropA, List.filter_eq_self]
  intro m hm
  obtain ⟨j, hj, rfl⟩ := List.mem_map.1 hm
  have : j ≠ k := fun h => hk (h ▸ hj)
  simp [blkN]
  omega
theorem mem_add (yg : List Nat) (q : Nat) (hq : q ∉ yg) : remL ((lastL yg).map blkN) (blkN q) = (lastL (yg ++ [q])).map blkN := by
  have h1 : q ∉ lastL yg := fun h => hq (List.mem_of_mem_drop h)
  have e : (lastL yg ++ [q]).drop ((lastL yg ++ [q]).length - 64) = lastL (yg ++ [q]) := by
    have e1 : lastL yg ++ [q] = (yg ++ [q]).drop (yg.length - 64) := (List.drop_append_of_le_length (by omega)).symm
    rw [e1, List.drop_drop, List.length_drop, List.length_append]
    have e2 : yg.length - 64 + (yg.length + [q].length - (yg.length - 64) - 64) = (yg ++ [q]).length - 64 := by
      rw [List.length_append]
      simp only [List.length_singleton]
      omega
    rw [e2]
    rfl
  rw [remL, dropA_no _ _ h1, show (lastL yg).map blkN ++ [blkN q] = (lastL yg ++ [q]).map blkN by rw [List.map_append]; rfl, List.length_map, ← List.map_drop, e]
theorem lastL_short (l : List Nat) (h : l.length ≤ 64) : lastL l = l := by
  rw [lastL, show l.length - 64 = 0 by omega, List.drop_zero]
theorem dropA_mid (A B : List Nat) (k : Nat) (hA : k ∉ A) (hB : k ∉ B) : dropA ((A ++ k :: B).map blkN) (blkN k).1 = (A ++ B).map blkN := by
  have e1 := dropA_no _ _ hA
  have e2 := dropA_no _ _ hB
  rw [dropA] at e1 e2 ⊢
  rw [List.map_append, List.map_cons, List.filter_append, List.filter_cons, e1, e2]
  simp
theorem mem_hit (tr : List Nat) (k a : Nat) (hl : tr.length ≤ 64) (ha : tr[a]? = some k) (hnd : tr.Nodup) : remL (tr.map blkN) (blkN k) = (lastL (tr.take a ++ tr.drop (a + 1) ++ [k])).map blkN := by
  obtain ⟨h1, h2⟩ := List.getElem?_eq_some_iff.1 ha
  have hsp : tr = tr.take a ++ k :: tr.drop (a + 1) := by rw [← h2, ← List.drop_eq_getElem_cons h1, List.take_append_drop]
  have hn1 : k ∉ tr.take a ∧ k ∉ tr.drop (a + 1) := by
    rw [hsp] at hnd
    have h3 := List.nodup_append.1 hnd
    exact ⟨fun h => (h3.2.2 k h k (by simp)) rfl, (List.nodup_cons.1 h3.2.1).1⟩
  have hlen : (tr.take a ++ tr.drop (a + 1) ++ [k]).length ≤ 64 := by simp; omega
  have hd := dropA_mid (tr.take a) (tr.drop (a + 1)) k hn1.1 hn1.2
  rw [← hsp] at hd
  rw [remL, hd, lastL_short _ hlen, show (tr.take a ++ tr.drop (a + 1)).map blkN ++ [blkN k] = (tr.take a ++ tr.drop (a + 1) ++ [k]).map blkN by simp, List.length_map, show (tr.take a ++ tr.drop (a + 1) ++ [k]).length - 64 = 0 by omega, List.drop_zero]
theorem find_yes (tr : List Nat) (k : Nat) (h : k ∈ tr) : (tr.map blkN).find? (hitB ((4 * k : Nat) : Int) 2 (shaF (bI k))) = some (blkN k) := by
  induction tr with
  | nil => cases h
  | cons j tr ih =>
    rw [List.map_cons, List.find?_cons]
    by_cases hj : j = k
    · subst hj
      have : hitB ((4 * j : Nat) : Int) 2 (shaF (bI j)) (blkN j) = true := by simp [hitB, blkN, bI]
      rw [this]
    · have : hitB ((4 * k : Nat) : Int) 2 (shaF (bI k)) (blkN j) = false := by
        rw [hitB]
        have h2 : ((blkN j).1 == ((4 * k : Nat) : Int)) = false := by simp [blkN]; omega
        rw [h2]
        rfl
      rw [this]
      exact ih (by rcases List.mem_cons.1 h with h | h; exact absurd h.symm hj; exact h)
theorem find_no (tr : List Nat) (k : Nat) (h : k ∉ tr) : (tr.map blkN).find? (hitB ((4 * k : Nat) : Int) 2 (shaF (bI k))) = none := by
  rw [List.find?_eq_none]
  intro m hm
  obtain ⟨j, hj, rfl⟩ := List.mem_map.1 hm
  have hne : j ≠ k := fun h2 => h (h2 ▸ hj)
  have h2 : ((blkN j).1 == ((4 * k : Nat) : Int)) = false := by simp [blkN]; omega
  rw [hitB, h2]
  simp

/-- the writes lie on cells below 4q; all q blocks stand. -/
structure StdR (ws : List (Nat × Nat × List UInt8)) (q : Nat) : Prop where
  len : ws.length ≤ 32 * q
  adr : ∀ x ∈ ws, ∃ c, c < 4 * q ∧ x.1 = c % 5 ∧ x.2.1 = 1 + c / 5
  std : ∀ i, i < q → ∃ zs, LayOf 1 (padB (bI i)) 1 zs ∧ Stands ws 5 1 (4 * i) zs

theorem wsOf_get (D F a : Nat) (zs : List (List UInt8)) (j : Nat) (z : List UInt8) (h : zs[j]? = some z) : (wsOf D F a zs)[j]? = some ((a + j) % D, F + (a + j) / D, z) := by
  rw [wsOf, List.getElem?_map, List.getElem?_zipIdx, h]
  simp
theorem cell_inj {c d : Nat} (h1 : c % 5 = d % 5) (h2 : 1 + c / 5 = 1 + d / 5) : c = d := by omega
theorem StdR.add {ws : List (Nat × Nat × List UInt8)} {q : Nat} (h : StdR ws q) {zs : List (List UInt8)} (hl : LayOf 1 (padB (bI q)) 1 zs) (hz4 : zs.length = 4) (hz : ∀ z ∈ zs, z.length = 128) : StdR (ws ++ wsOf 5 1 (4 * q) zs) (q + 1) := by
  have hnew : ∀ (j : Nat) x, (wsOf 5 1 (4 * q) zs)[j]? = some x → j < 4 ∧ x.1 = (4 * q + j) % 5 ∧ x.2.1 = 1 + (4 * q + j) / 5 := fun j x hx => by
    have hj : j < (wsOf 5 1 (4 * q) zs).length := (List.getElem?_eq_some_iff.1 hx).1
    rw [wsOf_len] at hj
    rw [wsOf_get 5 1 (4 * q) zs j _ (List.getElem?_eq_getElem hj)] at hx
    cases hx
    exact ⟨by omega, rfl, rfl⟩
  refine ⟨by rw [List.length_append, wsOf_len]; have := h.len; omega, fun x hx => ?_, fun i hi => ?_⟩
  · rcases List.mem_append.1 hx with hx | hx
    · obtain ⟨c, h1, h2⟩ := h.adr x hx
      exact ⟨c, by omega, h2⟩
    · obtain ⟨j, hj⟩ := List.getElem?_of_mem hx
      obtain ⟨h1, h2, h3⟩ := hnew j x hj
      exact ⟨4 * q + j, by omega, h2, h3⟩
  · by_cases hiq : i = q
    · subst hiq
      refine ⟨zs, hl, fun j z hj => ⟨hz z (List.mem_of_getElem? hj), ws.length + j, ?_, fun n x hn hx => ?_⟩⟩
      · rw [List.getElem?_append_right (by omega), Nat.add_sub_cancel_left]
        exact wsOf_get 5 1 (4 * i) zs j z hj
      · rw [List.getElem?_append_right (by omega)] at hx
        obtain ⟨h1, h2, h3⟩ := hnew _ x hx
        intro h4
        rw [h2, h3] at h4
        have := cell_inj h4.1 h4.2
        omega
    · obtain ⟨zi, hl1, hs1⟩ := h.std i (by omega)
      have hzi : zi.length = 4 := by
        have h2 := hl1.len 0
        rw [show costL (rowsF 1 0 1) = 4 by rw [rowsF_pos 1 0 1 (by omega), show 1 - min 1 (1 + 1) = 0 by omega, rowsF_zero]; rfl] at h2
        omega
      refine ⟨zi, hl1, fun j z hj => ?_⟩
      have hj4 : j < 4 := by rw [← hzi]; exact (List.getElem?_eq_some_iff.1 hj).1
      obtain ⟨h1, n, h2, h3⟩ := hs1 j z hj
      have hn := (List.getElem?_eq_some_iff.1 h2).1
      refine ⟨h1, n, by rw [List.getElem?_append_left hn]; exact h2, fun m x hm hx => ?_⟩
      by_cases hml : m < ws.length
      · rw [List.getElem?_append_left hml] at hx
        exact h3 m x hm hx
      · rw [List.getElem?_append_right (by omega)] at hx
        obtain ⟨h5, h6, h7⟩ := hnew _ x hx
        intro h8
        rw [h6, h7] at h8
        have := cell_inj h8.1 h8.2
        omega

/-- the store behind q blocks put and n got. -/
structure RmM (v : Sv) (yg : List Nat) (q n : Nat) : Prop where
  txg : v.st.txg = 1
  mem : v.st.mem = (lastL yg).map blkN
  nd : yg.Nodup
  lt : ∀ i ∈ yg, i < q
  std : StdR v.ws q
  sum : v.st.hits + v.st.reads = v.st.gets
  gets : v.st.gets = n
  h0 : 0 ≤ v.st.hits
  r0 : 0 ≤ v.st.reads

theorem EIm_take {w : World} {a : Addr} {n cap k : Nat} {s : List Int} (h : EI.Rd w (.slice (some a) n cap) s) (hk : k ≤ s.length) : EI.Rd w (.slice (some a) k cap) (s.take k) := by
  rcases h with ⟨h, _⟩ | ⟨g, o, c, h, h1, h2, h3⟩
  · cases h
  · simp only [Value.slice.injEq, Option.some.injEq] at h
    obtain ⟨rfl, rfl, rfl⟩ := h
    refine .inr ⟨g, o, cap, by simp [hk], by simp; omega, h2, fun j u hj => h3 j u ?_⟩
    rw [EI.flat_take] at hj
    rw [List.getElem?_take] at hj
    split at hj
    · exact hj
    · cases hj

theorem EIm_drop {w : World} {g o n cap k : Nat} {s : List Int} (h : EI.Rd w (.slice (some ⟨g, o, none⟩) n cap) s) : EI.Rd w (.slice (some ⟨g, o + k, none⟩) (n - k) (cap - k)) (s.drop k) := by
  rcases h with ⟨h, _⟩ | ⟨g', o', c, h, h1, h2, h3⟩
  · cases h
  · simp only [Value.slice.injEq, Option.some.injEq, Addr.mk.injEq] at h
    obtain ⟨⟨rfl, rfl, _⟩, rfl, rfl⟩ := h
    refine .inr ⟨g, o + k, cap - k, by simp, by simp; omega, h2, fun j u hj => ?_⟩
    rw [EI.flat_drop, List.getElem?_drop] at hj
    rw [← h3 (k * 1 + j) u hj]
    congr 2
    omega

theorem EIm_drop2 {w : World} {g o n cap k : Nat} {s : List Int} (h : EI.Rd w (.slice (some ⟨g, o, none⟩) n cap) s) : EI.Rd w (.slice (if cap = k then some ⟨g, o, none⟩ else some ⟨g, o + k, none⟩) (n - k) (cap - k)) (s.drop k) := by
  by_cases hc : cap = k
  · rw [if_pos hc]
    rcases h with ⟨h, _⟩ | ⟨g', o', c, h, h1, h2, h3⟩
    · cases h
    · simp only [Value.slice.injEq, Option.some.injEq, Addr.mk.injEq] at h
      obtain ⟨⟨rfl, rfl, _⟩, rfl, rfl⟩ := h
      have e : s.drop k = [] := List.drop_eq_nil_of_le (by omega)
      rw [e]
      exact .inr ⟨g, o, cap - k, by simp; omega, by simp, h2, fun j u hj => by simp [Enc.flat] at hj⟩
  · rw [if_neg hc]
    exact EIm_drop h
theorem empty_intm (W : World) {n : Nat} (h : n = W.heap.size) : EI.Ow 3 ((W.alloc (.cells #[] 3)).drew) (.slice (some ⟨n, 0, none⟩) 0 0) [] := by
  subst h
  exact .inr ⟨W.heap.size, 0, 0, [], rfl, heap_alloc_new _ _, by simp, by simp, rfl⟩
theorem EI_owDrop {w : World} {g o n cap k : Nat} {T : TypeId} {s : List Int} (h : EI.Ow T w (.slice (some ⟨g, o, none⟩) n cap) s) (hk : k ≤ s.length) : EI.Ow T w (.slice (some ⟨g, o + k, none⟩) (n - k) (cap - k)) (s.drop k) := by
  rcases h with ⟨h, _⟩ | ⟨g', i, c, l, h, hg, h1, h2, h3⟩
  · cases h
  · simp only [Value.slice.injEq, Option.some.injEq, Addr.mk.injEq] at h
    obtain ⟨⟨rfl, rfl, _⟩, rfl, rfl⟩ := h
    refine .inr ⟨g, i + k, cap - k, l, ?_, hg, by simp; omega, by omega, ?_⟩
    · show Value.slice (some ⟨g, i * 1 + k, none⟩) _ _ = Value.slice (some ⟨g, (i + k) * 1, none⟩) _ _
      simp
    · have h4 := congrArg (List.drop k) h3
      rw [List.drop_take, List.drop_drop] at h4
      rw [List.length_drop]
      exact h4

/-- blocks of numbers are changed. -/
theorem SyR.otherI {w w' : World} {y : Sy} {v : Sv} (h : SyR w y v) {S : List Nat} (he : Ext S w w') (hS : ∀ g ∈ S, tagOf w g = some 3) : SyR w' y v := by
  have he' : ExtT S [] w w' := ExtT.of he (fun z hz => .inl hz)
  refine ⟨h.st.extT he' (fun hm => ?_) (fun z hz => ?_) (by decide) (by decide) (by decide), h.ar.extT he' (fun hm => ?_) (by decide), h.rk.extT he' (fun hm => ?_) (fun hm => ?_) (fun z hz => ?_) (by decide), h.sp.extT he' (fun hm => ?_) (fun z hz => ?_) (by decide) (by decide), h.spi, h.k1, h.k8, h.S2, h.FS, h.cells, h.mem⟩
  · exact tag_ne h.st.tag (hS _ hm) (by decide) rfl
  · rw [hS z hz]; decide
  · exact tag_ne h.ar.tag (hS _ hm) (by decide) rfl
  · exact tag_ne h.rk.tag.1 (hS _ hm) (by decide) rfl
  · exact tag_ne h.rk.tag.2 (hS _ hm) (by decide) rfl
  · rw [hS z hz]; decide
  · exact tag_ne h.sp.tag (hS _ hm) (by decide) rfl
  · rw [hS z hz]; decide

/-- the law's state. -/
structure RmW (w0 w : World) (y : Sy) (lv yv : Value) (v : Sv) (ps : List Ptr4) (yi : List Int) : Prop where
  ext : Ext [] w0 w
  sy : SyR w y v
  lo : EP.Ow 37 w lv ps
  ll : ∀ g ∈ blkL lv, w0.heap.size ≤ g
  yo : EI.Ow 3 w yv yi
  yl : ∀ g ∈ blkL yv, w0.heap.size ≤ g

theorem RmW.ext0 {w0 w w' : World} {y : Sy} {lv yv : Value} {v : Sv} {ps : List Ptr4} {yi : List Int} (h : RmW w0 w y lv yv v ps yi) (he : Ext [] w w') : RmW w0 w' y lv yv v ps yi :=
  ⟨h.ext.trans he, h.sy.ext0 he, h.lo.ext0 he, h.ll, h.yo.ext0 he, h.yl⟩
theorem RmW.step {w0 w w' : World} {y : Sy} {lv yv : Value} {v v' : Sv} {ps : List Ptr4} {yi : List Int} (h : RmW w0 w y lv yv v ps yi) (hy : ∀ z ∈ [y.b, y.r, y.sp], w0.heap.size ≤ z) (hs : SyR w' y v') (hf : SyF y w w') : RmW w0 w' y lv yv v' ps yi := by
  refine ⟨hf.above h.ext hy, hs, h.lo.extT hf (fun g hg hg2 => ?_) (by decide), h.ll, h.yo.extT hf (fun g hg hg2 => ?_) (by decide), h.yl⟩
  · obtain ⟨c, hc⟩ := h.lo.tag g hg
    have ht := tagOf_of hc
    simp only [List.mem_cons, List.not_mem_nil, or_false] at hg2
    rcases hg2 with h1 | h1 | h1
    · exact tag_ne ht h.sy.st.tag (by decide) h1
    · exact tag_ne ht h.sy.rk.tag.1 (by decide) h1
    · exact tag_ne ht h.sy.sp.tag (by decide) h1
  · obtain ⟨c, hc⟩ := h.yo.tag g hg
    have ht := tagOf_of hc
    simp only [List.mem_cons, List.not_mem_nil, or_false] at hg2
    rcases hg2 with h1 | h1 | h1
    · exact tag_ne ht h.sy.st.tag (by decide) h1
    · exact tag_ne ht h.sy.rk.tag.1 (by decide) h1
    · exact tag_ne ht h.sy.sp.tag (by decide) h1
theorem RmW.setL {w0 w w' : World} {y : Sy} {lv lv' yv : Value} {v : Sv} {ps ps' : List Ptr4} {yi : List Int} (h : RmW w0 w y lv yv v ps yi) (how : EP.Ow 37 w' lv' ps') (hE : Ext (blkL lv) w w') (hn : Near w lv lv') : RmW w0 w' y lv' yv v ps' yi := by
  have ht : ∀ g ∈ blkL lv, tagOf w g = some 37 := fun g hg => by obtain ⟨c, hc⟩ := h.lo.tag g hg; exact tagOf_of hc
  refine ⟨h.ext.trans' hE (by simp) (fun g hg => .inr (h.ll g hg)), h.sy.otherL hE ht, how, fun g hg => ?_, h.yo.ext hE (fun g hg hg2 => ?_), h.yl⟩
  · rcases hn g hg with h1 | h1
    · exact h.ll g h1
    · have := h.ext.size; omega
  · obtain ⟨c, hc⟩ := h.lo.tag g hg2
    exact h.yo.ne hc (by decide) g hg rfl
theorem RmW.setY {w0 w w' : World} {y : Sy} {lv yv yv' : Value} {v : Sv} {ps : List Ptr4} {yi yi' : List Int} (h : RmW w0 w y lv yv v ps yi) (how : EI.Ow 3 w' yv' yi') (hE : Ext (blkL yv) w w') (hn : Near w yv yv') : RmW w0 w' y lv yv' v ps yi' := by
  have ht : ∀ g ∈ blkL yv, tagOf w g = some 3 := fun g hg => by obtain ⟨c, hc⟩ := h.yo.tag g hg; exact tagOf_of hc
  refine ⟨h.ext.trans' hE (by simp) (fun g hg => .inr (h.yl g hg)), h.sy.otherI hE ht, h.lo.ext hE (fun g hg hg2 => ?_), h.ll, how, fun g hg => ?_⟩
  · obtain ⟨c, hc⟩ := h.yo.tag g hg2
    exact h.lo.ne hc (by decide) g hg rfl
  · rcases hn g hg with h1 | h1
    · exact h.yl g h1
    · have := h.ext.size; omega

end Go.Proofs.YtgfajlaibgbdoaaGreat

namespace Go.Proofs.YtgfajlaibgbdoaaGreat
open Go.RowKit

theorem cost_two : costF 1 2 = 4 := by
  rw [costF, show (2 + 127) / 128 = 1 by omega, rowsF_pos 1 0 1 (by omega), show 1 - min 1 (1 + 1) = 0 by omega, rowsF_zero]
  rfl

/-- the room behind q blocks. -/
structure RmF (v : Sv) (q : Nat) : Prop where
  free : v.spc.free = [(4 * (q : Int), 1995)]
  back : v.spc.back = 0
  puts : v.st.puts = q

theorem rput_c (y : Sy) (v : Sv) (yg : List Nat) (q : Nat) (val : Value) (w : World) (hs : SyR w y v) (hk : y.k = 1) (hF : y.F = 1) (m : RmM v yg q 0) (hf : RmF v q) (hq : q < 90) (hv : EB.Rd w val (bI q)) (hvt : ∀ g ∈ blkL val, tagOf w g = some 5) :
    Calls Tryz.prog 10 #[.pointer (some ⟨y.b, 0, none⟩), val] w fun e w' => ∃ v', e = .returned (.tuple #[pagg ((4 * q : Nat) : Int) 2 1 (shaF (bI q)), .int .i64 0]) ∧ SyR w' y v' ∧ SyF y w w' ∧ RmM v' (yg ++ [q]) (q + 1) 0 ∧ RmF v' (q + 1) := by
  refine (stput_c y v val (bI q) w hs hv hvt (by simp [bI]) (by simp [bI]) (by rw [hf.puts]; omega) (by rw [hf.puts]; omega) (by have := m.std.len; omega)).mono ?_
  rintro e W3 hpost
  have hc4 : costF y.k (bI q).length = 4 := by rw [hk]; exact cost_two
  rcases hpost with ⟨rfl, _, _, hno⟩ | ⟨A, v3, rfl, hs3, hF3, hput⟩
  · exfalso
    rw [hf.free, hf.back, hc4] at hno
    rcases hno with h | h
    · simp [cntL] at h; omega
    · simp [fitsB] at h; omega
  · have htk := hput.take
    rw [hc4] at htk
    obtain ⟨hA, -, htk2⟩ := htk.front (q := 4 * (q : Int)) hf.free hf.back (by omega) (by omega)
    rw [hA] at htk2
    have hfree := htk2.rest hs3.spi hf.free (by omega) (by omega) (by omega) (by omega)
    have hA' : A = 4 * q := by omega
    subst hA'
    have hqn : q ∉ yg := fun h => by have := m.lt q h; omega
    obtain ⟨zs, hlay, hz, hws⟩ := hput.sec
    rw [hk, hF] at hws
    rw [hk, show ((bI q).length + 127) / 128 = 1 by simp [bI]] at hlay
    have hzl : zs.length = 4 := by
      have h2 := hlay.len 0
      rw [show costL (rowsF 1 0 1) = 4 by rw [rowsF_pos 1 0 1 (by omega), show 1 - min 1 (1 + 1) = 0 by omega, rowsF_zero]; rfl] at h2
      omega
    refine ⟨v3, by rw [m.txg]; rfl, hs3, hF3, ⟨by rw [hput.st]; exact m.txg, ?_, ?_, fun i hi => ?_, ?_, by rw [hput.st]; exact m.sum, by rw [hput.st]; exact m.gets, by rw [hput.st]; exact m.h0, by rw [hput.st]; exact m.r0⟩, ⟨by rw [hfree]; congr 2, by rw [htk2.back]; exact hf.back, by rw [hput.st]; show v.st.puts + 1 = _; rw [hf.puts]; omega⟩⟩
    · rw [hput.st]
      show remL v.st.mem _ = _
      rw [m.mem]
      exact mem_add yg q hqn
    · rw [List.nodup_append]
      exact ⟨m.nd, by simp, fun a ha b hb => by
        rw [List.mem_singleton] at hb
        rintro rfl
        exact hqn (hb ▸ ha)⟩
    · rcases List.mem_append.1 hi with h | h
      · have := m.lt i h; omega
      · rw [List.mem_singleton] at h; omega
    · rw [hws]
      exact m.std.add hlay hzl hz

/-- what Get gives in the law: the block; remembered, or read. -/
def RGot (y : Sy) (v : Sv) (k : Nat) (hit : Bool) (w : World) (e : Ending) (w' : World) : Prop := ∃ (p : Option Addr) (c : Nat) (v' : Sv), e = .returned (.tuple #[.slice p 2 c, .int .i64 0]) ∧ EB.Rd w' (.slice p 2 c) (bI k) ∧ SyR w' y v' ∧ SyF y w w' ∧ v'.ws = v.ws ∧ v'.st = { v.st with mem := remL v.st.mem (blkN k), gets := v.st.gets + 1, hits := v.st.hits + (if hit then 1 else 0), reads := v.st.reads + (if hit then 0 else 1) }

theorem rget_c (y : Sy) (v : Sv) (tr : List Nat) (q n k : Nat) (hit : Bool) (w : World) (hs : SyR w y v) (hk : y.k = 1) (hF : y.F = 1) (hS : y.S = 400) (m : RmM v tr q n) (hl : tr.length ≤ 64) (hn : n ≤ 1000) (hq : q ≤ 90) (hkq : k < q) (hh : hit = true ↔ k ∈ tr) :
    Calls Tryz.prog 12 #[.pointer (some ⟨y.b, 0, none⟩), pagg ((4 * k : Nat) : Int) 2 1 (shaF (bI k))] w (RGot y v k hit w) := by
  have hsum := m.sum
  have hgets := m.gets
  have h0 := m.h0
  have r0 := m.r0
  have hm := m.mem
  rw [lastL_short _ hl] at hm
  by_cases hkt : k ∈ tr
  · obtain rfl : hit = true := hh.2 hkt
    refine (stget_hit y v ((4 * k : Nat) : Int) 2 1 (shaF (bI k)) (blkN k) w hs (by rw [hm]; exact find_yes tr k hkt) (by omega) (by omega) h0 (by omega) (by simp [blkN, bI])).mono ?_
    rintro e w' ⟨u, v', rfl, how, hs', hr, hf⟩
    obtain ⟨p, c, rfl, _⟩ := how.rd.len_eq
    exact ⟨p, c, v', rfl, how.rd, hs', hf, hr.ws, by rw [hr.st]; simp⟩
  · have hit0 : hit = false := by
      cases hit with
      | false => rfl
      | true => exact absurd (hh.1 rfl) hkt
    subst hit0
    obtain ⟨zs, hlay, hst⟩ := m.std.std k hkq
    have hpt : (padB (bI k)).take 2 = bI k := rfl
    have hr := stget_miss y v (4 * k) 2 1 (padB (bI k)) zs w hs (by rw [hm, hpt]; exact find_no tr k hkt) (by rw [hk, cost_two, hS, hF]; omega) (by rw [hk]; exact hlay) (by rw [hk, hF]; exact hst) (by have := m.std.len; omega) (by simp [padB, bI]) (by omega) (by omega) (by omega) (by omega) r0 (by omega)
    rw [hpt] at hr
    refine hr.mono ?_
    rintro e w' ⟨u, v', rfl, how, hs', hr, hf⟩
    obtain ⟨p, c, rfl, _⟩ := how.len_eq
    exact ⟨p, c, v', rfl, how, hs', hf, hr.ws, by rw [hr.st]; simp; rfl⟩

end Go.Proofs.YtgfajlaibgbdoaaGreat

namespace Go.Proofs.YtgfajlaibgbdoaaGreat
open Go.RowKit

theorem near_newm {W W7 W8 : World} {v7 v8 : Value} {n : Nat} (hn : n = W.heap.size) (h7 : Ext [n] ((W.alloc (.cells #[] 3)).drew) W7) (n7 : Near ((W.alloc (.cells #[] 3)).drew) (.slice (some ⟨n, 0, none⟩) 0 0) v7) (h8 : Ext (blkL v7) W7 W8) (n8 : Near W7 v7 v8) :
    Ext [] W W8 ∧ ∀ g ∈ blkL v8, W.heap.size ≤ g := by
  subst hn
  have hb7 : ∀ g ∈ blkL v7, W.heap.size ≤ g := fun g hg => by
    rcases n7 g hg with h | h
    · simp [blkL] at h; omega
    · have h : W.heap.size + 1 ≤ g := by simpa using h
      omega
  have hE7 : Ext [] W W7 := (((Ext.refl [] W).alloc (.cells #[] 3)).drew).trans' h7 (by simp) (fun y hy => .inr (by simp at hy; omega))
  refine ⟨hE7.trans' h8 (by simp) (fun y hy => .inr (hb7 y hy)), fun g hg => ?_⟩
  rcases n8 g hg with h | h
  · exact hb7 g h
  · have := hE7.size; omega

theorem RmM.hit {v v' : Sv} {tr : List Nat} {q j K a : Nat} (m : RmM v tr q j) (hl : tr.length ≤ 64) (ha : tr[a]? = some K) (hst : v'.st = { v.st with mem := remL v.st.mem (blkN K), gets := v.st.gets + 1, hits := v.st.hits + 1, reads := v.st.reads + 0 }) (hws : v'.ws = v.ws) : RmM v' (tr.take a ++ tr.drop (a + 1) ++ [K]) q (j + 1) := by
  obtain ⟨h1, h2⟩ := List.getElem?_eq_some_iff.1 ha
  have hsp : tr = tr.take a ++ K :: tr.drop (a + 1) := by rw [← h2, ← List.drop_eq_getElem_cons h1, List.take_append_drop]
  have hnd := m.nd
  rw [hsp] at hnd
  have h3 := List.nodup_append.1 hnd
  have h4 := List.nodup_cons.1 h3.2.1
  have hkm : K ∈ tr := List.mem_of_getElem? ha
  have hs := m.sum
  have hg := m.gets
  have h0 := m.h0
  have r0 := m.r0
  refine ⟨by rw [hst]; exact m.txg, ?_, ?_, fun i hi => ?_, by rw [hws]; exact m.std, by rw [hst]; show v.st.hits + 1 + (v.st.reads + 0) = v.st.gets + 1; omega, by rw [hst]; show v.st.gets + 1 = _; omega, by rw [hst]; show 0 ≤ v.st.hits + 1; omega, by rw [hst]; show 0 ≤ v.st.reads + 0; omega⟩
  · rw [hst]
    show remL v.st.mem (blkN K) = _
    rw [m.mem, lastL_short tr hl]
    exact mem_hit tr K a hl ha m.nd
  · rw [List.nodup_append]
    refine ⟨List.nodup_append.2 ⟨h3.1, h4.2, fun x hx z hz => h3.2.2 x hx z (List.mem_cons_of_mem _ hz)⟩, by simp, fun x hx z hz => ?_⟩
    rw [List.mem_singleton] at hz
    rcases List.mem_append.1 hx with h | h
    · exact hz ▸ h3.2.2 x h K (by simp)
    · rintro rfl
      exact h4.1 (hz ▸ h)
  · rcases List.mem_append.1 hi with h | h
    · rcases List.mem_append.1 h with h | h
      · exact m.lt i (List.mem_of_mem_take h)
      · exact m.lt i (List.mem_of_mem_drop h)
    · rw [List.mem_singleton] at h
      exact m.lt i (h ▸ hkm)
theorem RmM.miss {v v' : Sv} {tr : List Nat} {q j K : Nat} (m : RmM v tr q j) (hK : K ∉ tr) (hKq : K < q) (hst : v'.st = { v.st with mem := remL v.st.mem (blkN K), gets := v.st.gets + 1, hits := v.st.hits + 0, reads := v.st.reads + 1 }) (hws : v'.ws = v.ws) : RmM v' (tr ++ [K]) q (j + 1) := by
  have hs := m.sum
  have hg := m.gets
  have h0 := m.h0
  have r0 := m.r0
  refine ⟨by rw [hst]; exact m.txg, ?_, ?_, fun i hi => ?_, by rw [hws]; exact m.std, by rw [hst]; show v.st.hits + 0 + (v.st.reads + 1) = v.st.gets + 1; omega, by rw [hst]; show v.st.gets + 1 = _; omega, by rw [hst]; show 0 ≤ v.st.hits + 0; omega, by rw [hst]; show 0 ≤ v.st.reads + 1; omega⟩
  · rw [hst]
    show remL v.st.mem (blkN K) = _
    rw [m.mem]
    exact mem_add tr K hK
  · rw [List.nodup_append]
    exact ⟨m.nd, by simp, fun a ha b hb => by
      rw [List.mem_singleton] at hb
      rintro rfl
      exact hK (hb ▸ ha)⟩
  · rcases List.mem_append.1 hi with h | h
    · exact m.lt i h
    · rw [List.mem_singleton] at h; omega

end Go.Proofs.YtgfajlaibgbdoaaGreat

