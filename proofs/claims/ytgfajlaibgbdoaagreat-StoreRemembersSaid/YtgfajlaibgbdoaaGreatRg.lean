
import Derived.Test.YtgfajlaibgbdoaaGreatLb
import Derived.OrdersHeld
import Derived.KernelRfl
import Derived.Maps.RangeWalk
namespace Go.Proofs.YtgfajlaibgbdoaaGreat
open Go.RowKit

/-! A region that draws its order: operations whose value does not hang on the order are taken first; a condition S on the world is shown anew behind each operation for which 'nd' says so. -/
section
variable {P : Program} {ops : Array Oper} {Q : Exit → Act → World → Prop} {md : Region.Mode} {S : World → Prop} {nd : Nat → Bool}

def wpAnyU (P : Program) (md : Region.Mode) (ops : Array Oper) (Q : Exit → Act → World → Prop) (S : World → Prop) (nd : Nat → Bool) : Nat → Array Bool → Act → World → Prop
  | 0, listed, a, w => Region.ready md ops listed = [] ∧ Q .normal a w
  | n + 1, listed, a, w =>
    (Region.ready md ops listed = [] → Q .normal a w) ∧
    ∀ i ∈ Region.ready md ops listed, wpOp P ops Q i (fun a' w' => (nd i = true → S w') ∧ wpAnyU P md ops Q S nd n (listed.setIfInBounds i true) a' w') a w

theorem wpAnyU_any : ∀ (n : Nat) (listed : Array Bool) (a : Act) (w : World), wpAnyU P md ops Q S nd n listed a w → wpAny P md ops Q n listed a w
  | 0, _, _, _, h => h
  | n + 1, _, _, _, h => ⟨h.1, fun i hi => wpOp_mono (fun a' w' h' => wpAnyU_any n _ a' w' h'.2) (h.2 i hi)⟩

/-- j waits for i, by however many steps (n at most). -/
def waitsT (md : Region.Mode) (ops : Array Oper) (i : Nat) : Nat → Nat → Bool
  | 0, _ => false
  | n + 1, j => match ops[j]? with
    | some oj => oj.after.any fun e => Region.binds md e && (e.on == i || waitsT md ops i n e.on)
    | none => false

/-- what is listed has what it waits for listed. -/
def Closed (md : Region.Mode) (ops : Array Oper) (L : Array Bool) : Prop :=
  ∀ j oj, ops[j]? = some oj → L.getD j true = true → ∀ e ∈ oj.after, Region.binds md e = true → L.getD e.on true = true

def closedB (md : Region.Mode) (ops : Array Oper) (L : Array Bool) : Bool :=
  (List.range ops.size).all fun j => !L.getD j true || match ops[j]? with
    | some oj => oj.after.all fun e => !Region.binds md e || L.getD e.on true
    | none => true

theorem closedB_spec {L : Array Bool} (h : closedB md ops L = true) : Closed md ops L := by
  intro j oj hoj hl e he hb
  have hlt : j < ops.size := (Array.getElem?_eq_some_iff.1 hoj).1
  have h1 := List.all_eq_true.1 h j (List.mem_range.2 hlt)
  rw [hoj, hl] at h1
  have h2 := Array.all_eq_true'.1 h1 e he
  rw [hb] at h2
  simpa using h2


theorem Closed.step {L : Array Bool} {j : Nat} (h : Closed md ops L) (hj : j ∈ Region.ready md ops L) : Closed md ops (L.setIfInBounds j true) := by
  obtain ⟨_, oj, hoj, hall⟩ := mem_ready.1 hj
  have mono : ∀ k, L.getD k true = true → (L.setIfInBounds j true).getD k true = true := by
    intro k hk
    by_cases hjk : j = k
    · subst hjk
      rcases Nat.lt_or_ge j L.size with h' | h' <;> simp [h']
    · rwa [getD_set_ne true hjk]
  intro k ok hok hk e he hb
  by_cases hjk : j = k
  · subst hjk
    rw [hoj] at hok
    cases hok
    refine mono _ ?_
    have h2 := hall e he hb
    rcases Nat.lt_or_ge e.on L.size with h' | h'
    · simp [h'] at h2 ⊢; exact h2
    · simp [Array.getElem?_eq_none h']
  · rw [getD_set_ne true hjk] at hk
    exact mono _ (h k ok hok hk e he hb)

theorem waitsT_spec {i : Nat} {L : Array Bool} (hc : Closed md ops L) : ∀ (n j : Nat), L.getD j true = true → waitsT md ops i n j = true → L.getD i true = true
  | 0, _, _, h => by simp [waitsT] at h
  | n + 1, j, hj, h => by
    rw [waitsT] at h
    cases hoj : ops[j]? with
    | none => rw [hoj] at h; cases h
    | some oj =>
      rw [hoj] at h
      obtain ⟨e, he, hb⟩ := Array.any_eq_true'.1 h
      simp only [Bool.and_eq_true, Bool.or_eq_true, beq_iff_eq] at hb
      have h1 := hc j oj hoj hj e he hb.1
      rcases hb.2 with h2 | h2
      · rwa [h2] at h1
      · exact waitsT_spec hc n e.on h1 h2

/-- every operation behind which S need not hold waits for i, or is listed. -/
def waitsB (md : Region.Mode) (ops : Array Oper) (nd : Nat → Bool) (L : Array Bool) (i : Nat) : Bool :=
  closedB md ops L && (List.range ops.size).all fun j => nd j || j == i || L.getD j true || waitsT md ops i 6 j

theorem not_ready {i j : Nat} {L0 listed : Array Bool} (hw : waitsB md ops nd L0 i = true) (hm : ∀ k, L0.getD k true = true → listed.getD k true = true) (hc : Closed md ops listed) (hn : nd j = false) (hji : j ≠ i) (hi : listed.getD i true = false) (hj : j ∈ Region.ready md ops listed) : False := by
  have hcl := hc.step hj
  obtain ⟨hun, oj, hoj, hall⟩ := mem_ready.1 hj
  have hlt : j < ops.size := (Array.getElem?_eq_some_iff.1 hoj).1
  have h1 := List.all_eq_true.1 (Bool.and_eq_true_iff.1 hw).2 j (List.mem_range.2 hlt)
  simp only [hn, Bool.false_or, Bool.or_eq_true, beq_iff_eq] at h1
  rcases h1 with (h1 | h1) | h1
  · exact hji h1
  · have h2 := hm j h1
    rcases Nat.lt_or_ge j listed.size with h' | h'
    · simp [h'] at h2 hun; rw [hun] at h2; cases h2
    · simp [Array.getElem?_eq_none h'] at hun
  · have h2 := waitsT_spec hcl 6 j (by rcases Nat.lt_or_ge j listed.size with h' | h' <;> simp [h']) h1
    rw [getD_set_ne true hji, hi] at h2
    cases h2

theorem wpAnyU_first {S' : World → Prop} {i : Nat} {oi : Oper} {v : Value} (hi : ops[i]? = some oi) (hsel : ∀ (j : Nat) (o : Oper) cs b, ops[j]? = some o → o.op ≠ .select cs b)
    (hQ : ∀ c a w, Q (.panic c) (a.put oi.dst v) w → Q (.panic c) a w) (L0 : Array Bool) (useC : Prop)
    (hst : ∀ (j : Nat) (listed : Array Bool), (∀ k, L0.getD k true = true → listed.getD k true = true) → (useC → Closed md ops listed) → listed.getD i true = false → j ≠ i → j ∈ Region.ready md ops listed → ∀ w', (nd j = true → S w') → S' w') (hni : ∀ w, S' w → nd i = true → S w) (n : Nat) :
    ∀ (listed : Array Bool) (a : Act) (w : World), (∀ k, L0.getD k true = true → listed.getD k true = true) → (useC → Closed md ops listed) →
      (∀ j oj, ops[j]? = some oj → j ≠ i → listed.getD j true = false → (∀ e ∈ oj.after, Region.binds md e = true → e.on ≠ i) → oi.apart ops oj = true) →
      i ∈ Region.ready md ops listed → YieldsIf P ops S' oi v a → S' w →
      wpAnyU P md ops Q S nd n (listed.setIfInBounds i true) (a.put oi.dst v) w → wpAnyU P md ops Q S nd (n + 1) listed a w := by
  induction n with
  | zero =>
    intro listed a w _ _ _ hr hy hS H
    refine ⟨(fun h => by rw [h] at hr; cases hr), fun j hj => ?_⟩
    by_cases hji : j = i
    · subst hji; exact hy.wpOp hi hS ⟨hni w hS, H⟩
    · have h1 := ready_mono hj hji
      rw [H.1] at h1
      cases h1
  | succ n ih =>
    intro listed a w hm hc hfree hr hy hS H
    have hun := (mem_ready.1 hr).1
    refine ⟨(fun h => by rw [h] at hr; cases hr), fun j hj => ?_⟩
    by_cases hji : j = i
    · subst hji; exact hy.wpOp hi hS ⟨hni w hS, H⟩
    · have h1 := H.2 j (ready_mono hj hji)
      obtain ⟨hjun, oj, hoj, hall⟩ := mem_ready.1 hj
      have hnot : ∀ e ∈ oj.after, Region.binds md e = true → e.on ≠ i := fun e he hb heq => by
        have h2 := hall e he hb
        rw [heq] at h2
        rcases Nat.lt_or_ge i listed.size with h' | h'
        · simp [h'] at hun h2; rw [hun] at h2; cases h2
        · simp [Array.getElem?_eq_none h'] at hun
      have h2 := wpOp_putIf hoj (hfree j oj hoj hji hjun hnot) (fun cs b => hsel i oi cs b hi) (fun cs b => hsel j oj cs b hoj) hQ hy h1
      refine wpOp_mono (fun a' w' h3 => ⟨h3.2.1, ?_⟩) h2
      refine ih (listed.setIfInBounds j true) a' w' (fun k hk => ?_) (fun hu => (hc hu).step hj) (fun k ok hk hki hku hno => ?_) (ready_mono hr (Ne.symm hji)) h3.1 (hst j listed hm hc hun hji hj w' h3.2.1) ?_
      · by_cases hjk : j = k
        · subst hjk
          rcases Nat.lt_or_ge j listed.size with h' | h' <;> simp [h']
        · rw [getD_set_ne true hjk]; exact hm k hk
      · refine hfree k ok hk hki ?_ hno
        by_cases hjk : j = k
        · subst hjk; exact hjun
        · rwa [getD_set_ne true hjk] at hku
      · rw [Array.setIfInBounds_comm _ _ hji]
        exact h3.2.2

/-- a load, say, is taken first: its value is the same wherever S holds, and what may come up ahead of it gives S anew. -/
theorem wpAnyU_take {i : Nat} {oi : Oper} {v : Value} {n : Nat} {listed : Array Bool} {a : Act} {w : World} (hi : ops[i]? = some oi)
    (hs : Region.noSelect ops = true) (hf : Region.free md ops listed i = true) (hr : (Region.ready md ops listed).contains i = true) (hw : waitsB md ops nd listed i = true)
    (hQ : ∀ c a w, Q (.panic c) (a.put oi.dst v) w → Q (.panic c) a w) (hS : S w) (hy : YieldsIf P ops S oi v a)
    (h : wpAnyU P md ops Q S nd n (listed.setIfInBounds i true) (a.put oi.dst v) w) : wpAnyU P md ops Q S nd (n + 1) listed a w :=
  wpAnyU_first (S' := S) hi (Region.noSelect_spec hs) hQ listed True (fun j l hm hc hl hji hj w' h => by
    cases hn : nd j with
    | true => exact h hn
    | false => exact (not_ready hw hm (hc trivial) hn hji hl hj).elim) (fun _ h _ => h) n listed a w (fun _ h => h) (fun _ => closedB_spec (Bool.and_eq_true_iff.1 hw).1) (Region.free_spec hi hf) (by simpa using hr) hy hS h

/-- an operation that yields its value in every world is taken first. -/
theorem wpAnyU_pure {i : Nat} {oi : Oper} {v : Value} {n : Nat} {listed : Array Bool} {a : Act} {w : World} (hi : ops[i]? = some oi)
    (hs : Region.noSelect ops = true) (hf : Region.free md ops listed i = true) (hr : (Region.ready md ops listed).contains i = true) (hn : nd i = false)
    (hQ : ∀ c a w, Q (.panic c) (a.put oi.dst v) w → Q (.panic c) a w) (hy : Yields P ops oi v a)
    (h : wpAnyU P md ops Q S nd n (listed.setIfInBounds i true) (a.put oi.dst v) w) : wpAnyU P md ops Q S nd (n + 1) listed a w :=
  wpAnyU_first (S' := fun _ => True) hi (Region.noSelect_spec hs) hQ listed False (fun _ _ _ _ _ _ _ _ _ => trivial) (fun _ _ h => by rw [hn] at h; cases h) n listed a w (fun _ h => h) (fun h => h.elim) (Region.free_spec hi hf) (by simpa using hr) hy.yieldsIf trivial h

/-- one operation alone may come up. -/
theorem wpAnyU_one {i : Nat} {o : Oper} {n : Nat} {listed : Array Bool} {a : Act} {w : World} (hr : Region.ready md ops listed = [i]) (ho : ops[i]? = some o)
    (h : ∀ K : Act → World → Prop, Hid (∀ a' w', (nd i = true → S w') → ((nd i = true → S w') → wpAnyU P md ops Q S nd n (listed.setIfInBounds i true) a' w') → K a' w') → if Region.wanted o (yielded ops a.tmps) = true then Oper.wp P o a w K Q else K (a.put o.dst undef) w) :
    wpAnyU P md ops Q S nd (n + 1) listed a w := by
  refine ⟨(fun h0 => by rw [hr] at h0; cases h0), fun j hj => ?_⟩
  rw [hr] at hj
  obtain rfl : j = i := by simpa using hj
  exact wpOp_step ho (fun K hK => h K (fun a w hS hW => hK a w ⟨hS, hW hS⟩))

theorem wpAnyU_done {listed : Array Bool} {a : Act} {w : World} (hr : Region.ready md ops listed = []) (h : Q .normal a w) : ∀ n, wpAnyU P md ops Q S nd n listed a w
  | 0 => ⟨hr, h⟩
  | _ + 1 => ⟨fun _ => h, by rw [hr]; simp⟩

theorem wp_region_u {id : Nat} {a : Act} {w : World} (S : World → Prop) (nd : Nat → Bool) (hm : P.follows .mixedOrders = true) (hS : S w.drew)
    (h : S w.drew → wpAnyU P .any ops Q S nd ops.size (Array.replicate ops.size false) a w.drew) : (Code.region id ops true).wp P Q a w :=
  wp_region_any hm (wpAnyU_any _ _ _ _ (h hS))
end

end Go.Proofs.YtgfajlaibgbdoaaGreat
